/-
  The reference 23: ends, run, Accepts, Follow.
-/
import Derived.Test.YtcmfgblfgldonaaN10
namespace Go.Proofs.Ytcmfgblfgldonaa
open Go.ChangeShapes Go.WideShapes Go.ChangeAt Go.RowKit
theorem living_bit (N : PNet) (S k q : Nat) : (livingF N S k).testBit q = (decide (q < k) && aliveB N S q) := by
  induction k with
  | zero => simp [livingF]
  | succ k ih =>
    rw [livingF_succ]
    by_cases e : q = k
    · subst e
      cases h : aliveB N S q <;> simp [withB_bit, ih, h]
    · have hd : decide (q < k + 1) = decide (q < k) := by rw [Bool.eq_iff_iff]; simp; omega
      split
      · rw [withB_bit, ih, hd]
        have : decide ((k : Int).toNat = q) = false := by simp; omega
        rw [this, Bool.or_false]
      · rw [ih, hd]
theorem bl_living (N : PNet) (S k : Nat) : bl S (livingF N S (k + 1)) = (bl S (livingF N S k)).set k (aliveB N S k) := by
  apply List.ext_getElem
  · simp [bl]
  · intro i h1 h2
    simp only [List.getElem_set, bl, List.getElem_map, List.getElem_range, living_bit]
    by_cases e : k = i
    · subst e; simp
    · have hd : decide (i < k + 1) = decide (i < k) := by rw [Bool.eq_iff_iff]; simp; omega
      simp [e, hd]
theorem rd_new1 (w : World) (g : Nat) (hg : w.heap.size = g) (x : Int) : RdI (w.alloc (.cells #[.int .i64 x] 3)) (.slice (some ⟨g, 0, none⟩) 1 1) [x] := by
  subst hg
  refine ⟨_, 1, rfl, Nat.le_refl _, by decide, rfl, fun _ => ⟨w.heap.size, 0, rfl, by simp, fun j u hu => ?_⟩⟩
  rw [cell_of_row _ _ _ _ _ (0, 0) (heap_alloc_new w _)]
  simpa using hu
theorem finalF_one (q : Nat) : finalF [(q : Int)] = 1 <<< q := by simp [finalF, withB]
set_option maxHeartbeats 4000000 in
set_option maxRecDepth 100000 in
theorem ends_any (v : Value) (N : PNet) (S : Nat) (w : World) (hv : RdN w v N) (hG : GoodN N) (hS : N.states = (S : Int)) :
    Calls Try.prog 40 #[v] w fun e w' => (∃ vm, e = .returned vm ∧ RB w' vm S (livingF N S S)) ∧ Below w.heap.size w w' := by
  have HV := Lib.hid hv
  obtain ⟨vs, vf, rfl, hs, hf⟩ := hv
  have HF := Lib.hid hf
  obtain ⟨A1, n1, c1, rfl, _, _, _, _⟩ := hs.op
  obtain ⟨A2, n2, c2, rfl, _, _, _, _⟩ := hf.op
  have hS24 : S ≤ 24 := by have := hG.s2; omega
  have HS' := Lib.hid hS
  have HFI : Hid (∀ q, q ∈ N.final → 0 ≤ q ∧ q < (S : Int)) := fun q hq => by have := hG.fin q hq; omega
  rw [hS] at HV ⊢
  have hmk := make_marks S hS24
  clear hs hf hS
  go_enter Try.func40, Try.ntmps40
  go_wp2_with fail
  generalize hW : World.alloc w _ = W
  have HBW : Hid (Below w.heap.size w W) := by rw [← hW]; repeat (first | assumption | exact Below.refl _ _ | refine Below.alloc ?_ (by first | omega | (simp; done) | (simp; omega)) _ | refine Below.drew ?_ | refine below_drewN ?_ _ | refine Below.setCell ?_ (by first | omega | (simp; done) | (simp; omega)) _)
  have HNB : Hid (NBlk W w.heap.size (.int .i64 S) (.slice A1 n1 c1) (.slice A2 n2 c2)) := by rw [← hW]; exact heap_alloc_new w _
  have hz : w.heap.size + 1 = W.heap.size := by rw [← hW]; simp
  simp only [hz]
  have hwW : w.heap.size < W.heap.size := by omega
  clear hW hz
  generalize hX : World.alloc W _ = X
  have HM0 : Hid (Bls X W.heap.size (bl S 0)) := by rw [← hX]; exact new_marks W S
  have HBX : Hid (Below W.heap.size W X) := by rw [← hX]; repeat (first | assumption | exact Below.refl _ _ | refine Below.alloc ?_ (by first | omega | (simp; done) | (simp; omega)) _ | refine Below.drew ?_ | refine below_drewN ?_ _ | refine Below.setCell ?_ (by first | omega | (simp; done) | (simp; omega)) _)
  obtain ⟨g, hg⟩ : ∃ g, W.heap.size = g := ⟨_, rfl⟩
  rw [hg] at HM0 HBX hwW ⊢
  have HG := Lib.hid hg
  clear hX hmk hg
  go_loopw [4] (fun i wr => ∃ k : Nat, k ≤ S ∧ i = .int .i64 k ∧ Hid (Bls wr g (bl S (livingF N S k))) ∧ Hid (Below g W wr)) (fun i _ => S - (intOf i).toNat)
  case atStart => exact ⟨0, Nat.zero_le _, rfl, HM0.out, HBX.out⟩
  case round =>
    obtain ⟨k, hk, rfl, HM, HB⟩ := hrel
    have HBR := Lib.hid (bchain HBW.out (by rw [HG.out]; exact HB.out))
    obtain ⟨p0, p1, p2, hpl⟩ := (HNB.out.below (by rw [HG.out]; exact HB.out)).facts
    by_cases hlt : k < S
    · have hI1 : (k : Int) < (S : Int) := by omega
      have HSL := Lib.hid (one_shl_lt hlt)
      have HRL := Lib.hid (reach_lt hG HS'.out HSL.out)
      have HLV := Lib.hid (bl_living N S k)
      have hgwr := HM.out.lt
      have HO1 : Hid (∀ q, q ∈ [(k : Int)] → 0 ≤ q ∧ q < (S : Int)) := by intro q hq; simp at hq; omega
      go_wp2_with fail
      clear p0 p1 p2
      refine wp_region_ord 11 [2, 3, 4, 5, 6, 7, 8, 9, 10] [0, 1] [0, 1, 2, 3, 4, 8, 9, 10] [5, 6, 7, 11, 12, 13, 14] (fun w' => Below wr.heap.size wr w') (by kernel_rfl) (by kernel_rfl) ?_
      rintro D hD
      have HSD : Hid (Below wr.heap.size wr D) := by rw [hD]; exact (Below.refl _ _).drew
      clear hD
      refine ⟨HSD.out, ?_⟩
      have HS : Hid (∀ w' : World, Below wr.heap.size wr w' → w'.cell? ⟨w.heap.size, 0, none⟩ = some (.int .i64 S) ∧ w'.cell? ⟨w.heap.size, 1, none⟩ = some (.slice A1 n1 c1) ∧ w'.cell? ⟨w.heap.size, 2, none⟩ = some (.slice A2 n2 c2)) := by
        intro w' h
        obtain ⟨f0, f1, f2, _⟩ := ((HNB.out.below (by rw [HG.out]; exact HB.out)).below h).facts
        exact ⟨f0, f1, f2⟩
      iterate 8 (refine wpHead_cons (v := ?_) rfl rfl (fun w' hS => ?_) ?_; rotate_left; (focus ((try obtain ⟨s0, s1, s2⟩ := HS.out _ (hS rfl)); clear hS; go_simp; try with_reducible rfl; done)); (try simp only [Act.put, List.setIfInBounds_toArray, List.set_cons_zero, List.set_cons_succ]))
      refine wpHead_nil ?_
      refine wpTail_cons rfl rfl (fun K hK => ?_)
      go_simp
      refine hK.out _ _ (fun _ => HSD.out.alloc HSD.out.size _) ?_
      clear hK K
      (try simp only [Act.put, List.setIfInBounds_toArray, List.set_cons_zero, List.set_cons_succ])
      have HR1 := Lib.hid (rd_new1 D _ rfl (k : Int))
      have HSX0 : Hid (Below wr.heap.size wr (D.alloc (.cells #[.int .i64 (k : Int)] 3))) := HSD.out.alloc HSD.out.size _
      generalize hX : World.alloc D _ = X0
      rw [hX] at HR1 HSX0
      clear hX
      generalize D.heap.size = gd at HR1 ⊢
      refine wpTail_cons rfl rfl (fun K hK => ?_)
      go_simp
      refine (set_any _ _ N S [(k : Int)] _ (HV.out.below (bchain HBR.out HSX0.out)) HR1.out HS'.out hS24 HO1.out).mono ?_
      rintro e Y1 ⟨⟨vmY1, rfl, hm⟩, hb⟩
      have RY1 := Lib.hid hm
      obtain ⟨_, _, _, rfl, _, _, _, _⟩ := hm
      refine hK.out _ _ (fun _ => bchain HSX0.out hb) ?_
      clear hK K
      (try simp only [Act.put, List.setIfInBounds_toArray, List.set_cons_zero, List.set_cons_succ])
      have HSY1 := Lib.hid (bchain HSX0.out hb)
      have HXY1 := Lib.hid hb
      clear hb
      have RS := RY1
      rw [finalF_one] at RS
      refine wpTail_cons rfl rfl (fun K hK => ?_)
      go_simp
      refine (rreached_any _ _ N S (1 <<< k) _ (HV.out.below (bchain HBR.out HSY1.out)) RS.out hG HS'.out).mono ?_
      rintro e Y2 ⟨⟨vmY2, rfl, hm⟩, hb⟩
      have RY2 := Lib.hid hm
      obtain ⟨_, _, _, rfl, _, _, _, _⟩ := hm
      refine hK.out _ _ (fun _ => bchain HSY1.out hb) ?_
      clear hK K
      (try simp only [Act.put, List.setIfInBounds_toArray, List.set_cons_zero, List.set_cons_succ])
      have HSY2 := Lib.hid (bchain HSY1.out hb)
      have HXY2 := Lib.hid hb
      clear hb
      refine wpTail_cons rfl rfl (fun K hK => ?_)
      go_simp
      refine (set_any _ _ N S N.final _ (HV.out.below (bchain HBR.out HSY2.out)) (HF.out.below (bchain HBR.out HSY2.out)) HS'.out hS24 HFI.out).mono ?_
      rintro e Y3 ⟨⟨vmY3, rfl, hm⟩, hb⟩
      have RY3 := Lib.hid hm
      obtain ⟨_, _, _, rfl, _, _, _, _⟩ := hm
      refine hK.out _ _ (fun h => absurd h (by decide)) ?_
      clear hK K
      (try simp only [Act.put, List.setIfInBounds_toArray, List.set_cons_zero, List.set_cons_succ])
      have HSY3 := Lib.hid (bchain HSY2.out hb)
      have HXY3 := Lib.hid hb
      clear hb
      refine wpTail_cons rfl rfl (fun K hK => ?_)
      go_simp
      refine (both_any _ _ S (reachF N.steps S (1 <<< k)) (finalF N.final) _ (RY2.out.below HXY3.out) RY3.out hS24 HRL.out).mono ?_
      rintro e wz ⟨rfl, rfl⟩
      refine hK.out _ _ (fun h => absurd h (by decide)) ?_
      clear hK K
      (try simp only [Act.put, List.setIfInBounds_toArray, List.set_cons_zero, List.set_cons_succ])
      have HAL : Hid (((reachF N.steps S (1 <<< k) &&& finalF N.final : Nat) != 0) = aliveB N S k) := rfl
      rw [HAL.out]
      have HM3 := Lib.hid (HM.out.below HSY3.out)
      have hck2 := HM3.out.cell (j := k) (by rw [bl_len]; exact hlt)
      have hfr := HM3.out.free k
      have hgl := HM3.out.lt
      have HB3 : Hid (Below g W Y3) := HB.out.trans (HSY3.out.mono (by omega))
      refine wpTail_rest 13 rfl ?_
      simp only [List.drop_succ_cons, List.drop_zero]
      go_wp2_with fail
      refine NoPanic.normal ?_
      go_wp2_with fail
      go_roundw
      case rel => exact ⟨k + 1, by omega, by go_num, by rw [Hid, HLV.out]; exact HM3.out.setv k _, HB3.out.setCell (p := ⟨g, k, none⟩) (Nat.le_refl _) _⟩
      case measure => simp [intOf]; omega
    · obtain rfl : k = S := by omega
      go_wp2_with fail
      go_ret
      exact ⟨⟨_, rfl, RB.of HM.out hS24⟩, HBR.out⟩
theorem after_none {N : PNet} (hG : GoodN N) (m : Nat) (c : Int) (hc : c < 1) : afterF N.steps m c = 0 := by
  refine Nat.eq_of_testBit_eq fun q => ?_
  rw [after_bit, Nat.zero_testBit, List.any_eq_false]
  intro s hs
  have := (hG.step s hs).c0
  have hne : ¬ s.cls = c := by omega
  simp [hne]
theorem after_zero (L : List PStep) (c : Int) : afterF L 0 c = 0 := by
  refine Nat.eq_of_testBit_eq fun q => ?_
  rw [after_bit, Nat.zero_testBit, List.any_eq_false]
  intro s _
  simp [bitI]
theorem runF_zero (L : List PStep) (l : List Int) : runF L 0 l = 0 := by
  induction l with
  | nil => rfl
  | cons c l ih => rw [runF, List.foldl_cons, after_zero]; exact ih
theorem runF_split (L : List PStep) (m : Nat) (l : List Int) (k : Nat) : runF L m l = runF L (runF L m (l.take k)) (l.drop k) := by
  have h : l = l.take k ++ l.drop k := (List.take_append_drop k l).symm
  conv => lhs; rw [h]
  rw [runF, List.foldl_append]; rfl
set_option maxHeartbeats 4000000 in
set_option maxRecDepth 100000 in
theorem rrun_any (v u : Value) (N : PNet) (S : Nat) (l : List Int) (w : World) (hv : RdN w v N) (hu : RdI w u l) (hG : GoodN N) (hS : N.states = (S : Int)) :
    Calls Try.prog 36 #[v, u] w fun e w' => (∃ vm, e = .returned vm ∧ RB w' vm S (runF N.steps 1 l)) ∧ Below w.heap.size w w' := by
  have HV := Lib.hid hv
  obtain ⟨vs, vf, rfl, hs, hf⟩ := hv
  obtain ⟨A1, n1, c1, rfl, _, _, _, _⟩ := hs.op
  obtain ⟨A2, n2, c2, rfl, _, _, _, _⟩ := hf.op
  obtain ⟨L1, nl, cl, rfl, _, _, HN, HR⟩ := hu.op
  have hS24 : S ≤ 24 := by have := hG.s2; omega
  have HS' := Lib.hid hS
  have HO1 : Hid (∀ q, q ∈ [(((0 : Nat) : Int))] → 0 ≤ q ∧ q < (S : Int)) := by intro q hq; simp at hq; have := hG.s1; omega
  rw [hS] at HV ⊢
  have hmk := make_marks S hS24
  have HMK := Lib.hid hmk
  clear hs hf hS hu hmk
  go_enter Try.func36, Try.ntmps36
  go_wp2_with fail
  generalize hW : World.alloc w _ = W
  have HBW : Hid (Below w.heap.size w W) := by rw [← hW]; repeat (first | assumption | exact Below.refl _ _ | refine Below.alloc ?_ (by first | omega | (simp; done) | (simp; omega)) _ | refine Below.drew ?_ | refine below_drewN ?_ _ | refine Below.setCell ?_ (by first | omega | (simp; done) | (simp; omega)) _)
  have HNB : Hid (NBlk W w.heap.size (.int .i64 S) (.slice A1 n1 c1) (.slice A2 n2 c2)) := by rw [← hW]; exact heap_alloc_new w _
  have hz : w.heap.size + 1 = W.heap.size := by rw [← hW]; simp
  simp only [hz]
  clear hW hz
  have HR1 := Lib.hid (rd_new1 W _ rfl (((0 : Nat) : Int)))
  have HBX0 : Hid (Below W.heap.size W (W.alloc (.cells #[.int .i64 0] 3))) := by repeat (first | assumption | exact Below.refl _ _ | refine Below.alloc ?_ (by first | omega | (simp; done) | (simp; omega)) _ | refine Below.drew ?_ | refine below_drewN ?_ _ | refine Below.setCell ?_ (by first | omega | (simp; done) | (simp; omega)) _)
  generalize hX : World.alloc W _ = X0
  have HR1' : Hid (RdI X0 (.slice (some ⟨W.heap.size, 0, none⟩) 1 1) [((0 : Nat) : Int)]) := by rw [← hX]; exact HR1.out
  rw [hX] at HBX0
  clear hX HR1
  refine (set_any _ _ N S [((0 : Nat) : Int)] _ (HV.out.below (bchain HBW.out HBX0.out)) HR1'.out HS'.out hS24 HO1.out).mono ?_
  rintro e Y1 ⟨⟨vm, rfl, hm⟩, hb⟩
  rw [finalF_one] at hm
  have HM := Lib.hid hm
  have HBY := Lib.hid (bchain HBX0.out hb)
  obtain ⟨b0, o0, c0, rfl, _, _, _, _⟩ := hm
  clear hb HR1'
  go_wp2_with fail
  go_loopw [5, 6] (fun u i wr => ∃ (k b o c : Nat), k ≤ nl ∧ i = .int .i64 k ∧ u = .slice (some ⟨b, o, none⟩) S c ∧ Hid (RB wr (.slice (some ⟨b, o, none⟩) S c) S (runF N.steps 1 (l.take k))) ∧ Hid (Below W.heap.size W wr)) (fun _ i _ => nl - (intOf i).toNat)
  case atStart => exact ⟨0, _, _, _, Nat.zero_le _, rfl, rfl, HM.out, HBY.out⟩
  case round =>
    obtain ⟨k, b, o, c, hk, rfl, rfl, HRB, HB⟩ := hrel
    obtain ⟨p0, p1, p2, hpl⟩ := (HNB.out.below HB.out).facts
    by_cases hlt : k < nl
    · obtain ⟨bb, off, x, rfl, hbb, hd, hck⟩ := HR.out k hlt
      have HCK := Lib.hid hck
      have hckr := ((bchain HBW.out HB.out).cell (p := ⟨bb, off + k, none⟩) hbb).trans hck
      have HRS := Lib.hid (runF_split N.steps 1 l k)
      have HRT : Hid (runF N.steps 1 (l.take (k + 1)) = afterF N.steps (runF N.steps 1 (l.take k)) x) := by rw [Hid, take_of_dropI hd.out, runF, List.foldl_append]; rfl
      have HDR := Lib.hid hd.out
      clear hck
      by_cases hx1 : x < 1
      · have d1 : decide (x < 1) = true := by simpa using hx1
        have HZ : Hid (runF N.steps 1 l = 0) := by
          rw [Hid, HRS.out, HDR.out, runF, List.foldl_cons, after_none hG _ _ hx1]
          exact runF_zero _ _
        have hmk := HMK.out
        go_wp2_with fail
        go_ret
        refine ⟨⟨_, rfl, ?_⟩, ?_⟩
        · rw [HZ.out]; exact RB.of (new_marks wr S) hS24
        · exact (bchain HBW.out HB.out).alloc (bchain HBW.out HB.out).size _
      · have d1 : decide (x < 1) = false := by simpa using hx1
        have HAE := Lib.hid (afterR_eq N.steps (runF N.steps 1 (l.take k)) x (by omega))
        have hk0 : (0 : Int) ≤ (k : Int) := by omega
        have hk1 : (k : Int) < (nl : Int) := by omega
        go_wp2_with fail
        clear p0 p1 p2 hckr d1
        refine wp_region_ord 6 [0, 1, 2, 3, 4, 5] [] [0, 1, 2, 3, 4, 5] [6, 7] (fun w' => Below wr.heap.size wr w') (by kernel_rfl) (by kernel_rfl) ?_
        rintro D hD
        have HSD : Hid (Below wr.heap.size wr D) := by rw [hD]; exact (Below.refl _ _).drew
        clear hD
        refine ⟨HSD.out, ?_⟩
        have HS : Hid (∀ w' : World, Below wr.heap.size wr w' → w'.cell? ⟨w.heap.size, 0, none⟩ = some (.int .i64 S) ∧ w'.cell? ⟨w.heap.size, 1, none⟩ = some (.slice A1 n1 c1) ∧ w'.cell? ⟨w.heap.size, 2, none⟩ = some (.slice A2 n2 c2) ∧ w'.cell? ⟨bb, off + k, none⟩ = some (.int .i64 x)) := by
          intro w' h
          obtain ⟨f0, f1, f2, _⟩ := (HNB.out.below (bchain HB.out h)).facts
          exact ⟨f0, f1, f2, ((bchain HBW.out (bchain HB.out h)).cell (p := ⟨bb, off + k, none⟩) hbb).trans HCK.out⟩
        iterate 6 (refine wpHead_cons (v := ?_) rfl rfl (fun w' hS => ?_) ?_; rotate_left; (focus ((try obtain ⟨s0, s1, s2, s3⟩ := HS.out _ (hS rfl)); clear hS; go_simp; try with_reducible rfl; done)); (try simp only [Act.put, List.setIfInBounds_toArray, List.set_cons_zero, List.set_cons_succ]))
        refine wpHead_nil ?_
        clear hk0 hk1
        refine wpTail_cons rfl rfl (fun K hK => ?_)
        go_simp
        refine (rafter_any _ _ N S _ x _ (HV.out.below (bchain HBW.out (bchain HB.out HSD.out))) (HRB.out.below HSD.out) hG HS'.out).mono ?_
        rintro e Y2 ⟨⟨vm, rfl, g2, rfl, _, hM⟩, hb⟩
        have HM2 : Hid (RB Y2 (.slice (some ⟨g2, 0, none⟩) S S) S (runF N.steps 1 (l.take (k + 1)))) := by rw [Hid, HRT.out, ← HAE.out]; exact RB.of hM hS24
        refine hK.out _ _ (fun h => absurd h (by decide)) ?_
        clear hK K hM
        (try simp only [Act.put, List.setIfInBounds_toArray, List.set_cons_zero, List.set_cons_succ])
        have HB2 := Lib.hid (bchain HB.out (bchain HSD.out hb))
        clear hb
        refine wpTail_rest 7 rfl ?_
        simp only [List.drop_succ_cons, List.drop_zero]
        go_wp2_with fail
        refine NoPanic.normal ?_
        go_wp2_with fail
        go_roundw
        case rel => exact ⟨k + 1, _, _, _, by omega, by go_num, rfl, HM2.out, HB2.out⟩
        case measure => simp [intOf]; omega
    · go_wp2_with fail
      go_ret
      refine ⟨⟨_, rfl, ?_⟩, bchain HBW.out HB.out⟩
      have h := HRB.out
      rwa [List.take_of_length_le (by rw [HN.out]; omega)] at h
end Go.Proofs.Ytcmfgblfgldonaa
