/-
  final, living, run, Accepts of tactics.
-/
import Derived.Test.YtcmfgblfgldonaaN4
import Derived.Test.YtcmfgblfgldonaaOwn
namespace Go.Proofs.Ytcmfgblfgldonaa
open Go.ChangeShapes Go.WideShapes Go.ChangeAt Go.RowKit
def finalF (l : List Int) : Nat := l.foldl withB 0
def aliveB (N : PNet) (S q : Nat) : Bool := (reachF N.steps S (1 <<< q) &&& finalF N.final) != 0
def livingF (N : PNet) (S k : Nat) : Nat := (List.range k).foldl (fun o q => if aliveB N S q then withB o (q : Int) else o) 0
def runF (L : List PStep) (m : Nat) (l : List Int) : Nat := l.foldl (afterF L) m
def accF (N : PNet) (l : List Int) : Bool := (runF N.steps 1 l &&& finalF N.final) != 0
theorem livingF_succ (N : PNet) (S k : Nat) : livingF N S (k + 1) = if aliveB N S k then withB (livingF N S k) (k : Int) else livingF N S k := by simp [livingF, List.range_succ]
theorem take_of_dropI {l : List Int} {k : Nat} {x : Int} {r : List Int} (h : l.drop k = x :: r) : l.take (k + 1) = l.take k ++ [x] := by
  have hk : k < l.length := by
    rcases Nat.lt_or_ge k l.length with h1 | h1
    · exact h1
    · rw [List.drop_of_length_le h1] at h; cases h
  rw [List.drop_eq_getElem_cons hk] at h
  rw [List.take_succ_eq_append_getElem hk, (List.cons.inj h).1]
theorem finalF_lt {S : Nat} (l : List Int) (h : ∀ q, q ∈ l → 0 ≤ q ∧ q < (S : Int)) : finalF l < 2 ^ S := by
  have key : ∀ (l : List Int) (o : Nat), o < 2 ^ S → (∀ q, q ∈ l → 0 ≤ q ∧ q < (S : Int)) → l.foldl withB o < 2 ^ S := by
    intro l
    induction l with
    | nil => intro o h _; exact h
    | cons q l ih => intro o h hl; exact ih _ (withB_lt h (hl q (by simp)).2 (hl q (by simp)).1) (fun x hx => hl x (by simp [hx]))
  exact key l 0 (Nat.two_pow_pos S) h
theorem livingF_lt (N : PNet) (S k : Nat) (hk : k ≤ S) : livingF N S k < 2 ^ S := by
  induction k with
  | zero => exact Nat.two_pow_pos S
  | succ k ih =>
    rw [livingF_succ]
    split
    · exact withB_lt (ih (by omega)) (by omega) (by omega)
    · exact ih (by omega)
theorem one_shl_lt {q S : Nat} (h : q < S) : 1 <<< q < 2 ^ S := by rw [Nat.one_shiftLeft]; exact Nat.pow_lt_pow_right (by decide) h
theorem finalG_lt {N : PNet} (hG : GoodN N) {S : Nat} (hS : N.states = (S : Int)) : finalF N.final < 2 ^ S := finalF_lt _ (fun q hq => by have := hG.fin q hq; omega)
theorem runF_lt {N : PNet} (hG : GoodN N) {S : Nat} (hS : N.states = (S : Int)) (l : List Int) (m : Nat) (hm : m < 2 ^ S) : runF N.steps m l < 2 ^ S := by
  induction l generalizing m with
  | nil => exact hm
  | cons c l ih => exact ih _ (after_lt hG hS m c)
set_option maxHeartbeats 1000000 in
theorem final_any (v : Value) (N : PNet) (S : Nat) (w : World) (hv : RdN w v N) (hG : GoodN N) (hS : N.states = (S : Int)) :
    Calls Try.prog 34 #[v] w fun e w' => e = .returned (.int .u32 ((finalF N.final : Nat) : Int)) ∧ Below w.heap.size w w' := by
  obtain ⟨vs, vf, rfl, hs, hf⟩ := hv
  obtain ⟨A1, n1, c1, rfl, _, _, _, _⟩ := hs.op
  obtain ⟨A2, n2, c2, rfl, h1, h2, HN, HR⟩ := hf.op
  have hS24 : S ≤ 24 := by have := hG.s2; omega
  have HS := Lib.hid hS
  clear hs hf hS
  go_enter Try.func34, Try.ntmps34
  go_wp2_with fail
  generalize hW : World.alloc w _ = W
  have HBW : Hid (Below w.heap.size w W) := by rw [← hW]; repeat (first | assumption | exact Below.refl _ _ | refine Below.alloc ?_ (by first | omega | (simp; done) | (simp; omega)) _ | refine Below.drew ?_ | refine below_drewN ?_ _ | refine Below.setCell ?_ (by first | omega | (simp; done) | (simp; omega)) _)
  clear hW
  go_loop [3, 9] (fun o i => ∃ k : Nat, k ≤ n2 ∧ i = .int .i64 k ∧ o = .int .u32 ((finalF (N.final.take k) : Nat) : Int)) (fun _ i => n2 - (intOf i).toNat)
  case atStart => exact ⟨0, Nat.zero_le _, rfl, rfl⟩
  case round =>
    obtain ⟨k, hk, rfl, rfl⟩ := hrel
    by_cases hlt : k < n2
    · obtain ⟨b, off, x, rfl, hb, hd, hck⟩ := (HR.out k hlt).below HBW.out
      obtain ⟨hx0, hx1⟩ := hG.fin x (List.mem_of_mem_drop (by rw [hd.out]; exact List.mem_cons_self))
      obtain ⟨q, rfl⟩ : ∃ q : Nat, x = (q : Int) := ⟨x.toNat, by omega⟩
      have hq : q < 32 := by have := HS.out; omega
      have HF : Hid (finalF (N.final.take (k + 1)) = finalF (N.final.take k) ||| 1 <<< q) := by rw [Hid, take_of_dropI hd.out, finalF, List.foldl_append]; simp [withB, finalF]
      have hml := lt32 hS24 (finalF_lt (N.final.take k) (fun y hy => by have := hG.fin y (List.mem_of_mem_take hy); have := HS.out; omega))
      go_wp2_with fail
      refine (with_any _ q _ hml hq).mono ?_
      rintro e w1 ⟨rfl, rfl⟩
      go_wp2_with fail
      go_round
      case rel => exact ⟨k + 1, by omega, by go_num, by rw [HF.out]⟩
      case measure => simp [intOf]; omega
    · go_wp2_with fail
      go_ret
      exact ⟨by rw [List.take_of_length_le (by rw [HN.out]; omega)]; rfl, HBW.out⟩
/-- a net in a box -/
def NBox (w : World) (R : Nat) (S : Nat) (N : PNet) : Prop := ∃ A1 n1 c1 A2 n2 c2, NBlk w R (.int .i64 S) (.slice A1 n1 c1) (.slice A2 n2 c2) ∧ RdN w (.agg #[.int .i64 S, .slice A1 n1 c1, .slice A2 n2 c2]) N
theorem NBox.below {w w' : World} {R S : Nat} {N : PNet} (h : NBox w R S N) (hb : Below w.heap.size w w') : NBox w' R S N := by
  obtain ⟨A1, n1, c1, A2, n2, c2, h1, h2⟩ := h
  exact ⟨A1, n1, c1, A2, n2, c2, h1.below hb, h2.below hb⟩
theorem aliveB_cast (a b : Nat) : (((a &&& b : Nat) : Int) != 0) = ((a &&& b) != 0) := by
  generalize a &&& b = z
  rw [Bool.eq_iff_iff]
  simp
set_option maxHeartbeats 2000000 in
theorem living_any (v : Value) (N : PNet) (S : Nat) (w : World) (hv : RdN w v N) (hG : GoodN N) (hS : N.states = (S : Int)) :
    Calls Try.prog 38 #[v] w fun e w' => e = .returned (.int .u32 ((livingF N S S : Nat) : Int)) ∧ Below w.heap.size w w' := by
  have HV := Lib.hid hv
  obtain ⟨vs, vf, rfl, hs, hf⟩ := hv
  obtain ⟨A1, n1, c1, rfl, _, _, _, _⟩ := hs.op
  obtain ⟨A2, n2, c2, rfl, _, _, _, _⟩ := hf.op
  have hS24 : S ≤ 24 := by have := hG.s2; omega
  have HS' := Lib.hid hS
  rw [hS] at HV ⊢
  clear hs hf hS
  go_enter Try.func38, Try.ntmps38
  go_wp2_with fail
  generalize hW : World.alloc w _ = W
  have HBW : Hid (Below w.heap.size w W) := by rw [← hW]; repeat (first | assumption | exact Below.refl _ _ | refine Below.alloc ?_ (by first | omega | (simp; done) | (simp; omega)) _ | refine Below.drew ?_ | refine below_drewN ?_ _ | refine Below.setCell ?_ (by first | omega | (simp; done) | (simp; omega)) _)
  have HNB : Hid (NBlk W w.heap.size (.int .i64 S) (.slice A1 n1 c1) (.slice A2 n2 c2)) := by rw [← hW]; exact heap_alloc_new w _
  clear hW
  go_loopw [3, 7] (fun o i wr => ∃ k : Nat, k ≤ S ∧ i = .int .i64 k ∧ o = .int .u32 ((livingF N S k : Nat) : Int) ∧ Hid (Below W.heap.size W wr)) (fun _ i _ => S - (intOf i).toNat)
  case atStart => exact ⟨0, Nat.zero_le _, rfl, rfl, Below.refl _ _⟩
  case round =>
    obtain ⟨k, hk, rfl, rfl, HB⟩ := hrel
    by_cases hlt : k < S
    · have hk32 : k < 32 := by omega
      have HSC := Lib.hid (livingF_succ N S k)
      have hll := lt32 hS24 (livingF_lt N S k hk)
      have HNR := Lib.hid (HV.out.below (bchain HBW.out HB.out))
      have hsl := one_shl_lt hlt
      have HRL := Lib.hid (lt32 hS24 (reach_lt hG HS'.out hsl))
      have HFL := Lib.hid (lt32 hS24 (finalG_lt hG HS'.out))
      have HSL := Lib.hid hsl
      clear hsl
      go_wp2_with fail
      refine wp_region_ord 5 [0, 1, 2, 3, 4] [] [0, 1, 4] [2, 3, 5, 6, 7] (fun w' => Below wr.heap.size wr w') (by kernel_rfl) (by kernel_rfl) ?_
      rintro D hD
      have HSD : Hid (Below wr.heap.size wr D) := by rw [hD]; exact (Below.refl _ _).drew
      clear hD
      refine ⟨HSD.out, ?_⟩
      have HS : Hid (∀ w' : World, Below wr.heap.size wr w' → w'.cell? ⟨w.heap.size, 0, none⟩ = some (.int .i64 S) ∧ w'.cell? ⟨w.heap.size, 1, none⟩ = some (.slice A1 n1 c1) ∧ w'.cell? ⟨w.heap.size, 2, none⟩ = some (.slice A2 n2 c2)) := by
        intro w' h
        obtain ⟨f0, f1, f2, _⟩ := (HNB.out.below (bchain HB.out h)).facts
        exact ⟨f0, f1, f2⟩
      iterate 3 (refine wpHead_cons (v := ?_) rfl rfl (fun w' hS => ?_) ?_; rotate_left; (focus ((try obtain ⟨s0, s1, s2⟩ := HS.out _ (hS rfl)); clear hS; go_simp; try with_reducible rfl; done)); (try simp only [Act.put, List.setIfInBounds_toArray, List.set_cons_zero, List.set_cons_succ]))
      refine wpHead_nil ?_
      refine wpTail_cons rfl rfl (fun K hK => ?_)
      go_simp
      refine (with_any 0 k _ (by decide) hk32).mono ?_
      rintro e wz ⟨rfl, rfl⟩
      refine hK.out _ _ (fun _ => HSD.out) ?_
      clear hK K
      (try simp only [Act.put, List.setIfInBounds_toArray, List.set_cons_zero, List.set_cons_succ])
      rw [show (0 ||| 1 <<< k : Nat) = 1 <<< k from Nat.zero_or _]
      refine wpTail_cons rfl rfl (fun K hK => ?_)
      go_simp
      refine (reached_any _ N S (1 <<< k) _ (HNR.out.below HSD.out) hG HS'.out HSL.out).mono ?_
      rintro e Y1 ⟨rfl, hb⟩
      refine hK.out _ _ (fun _ => bchain HSD.out hb) ?_
      clear hK K
      (try simp only [Act.put, List.setIfInBounds_toArray, List.set_cons_zero, List.set_cons_succ])
      have HSY1 := Lib.hid (bchain HSD.out hb)
      clear hb
      refine wpTail_cons rfl rfl (fun K hK => ?_)
      go_simp
      refine (final_any _ N S _ (HNR.out.below HSY1.out) hG HS'.out).mono ?_
      rintro e Y2 ⟨rfl, hb⟩
      refine hK.out _ _ (fun h => absurd h (by decide)) ?_
      clear hK K
      (try simp only [Act.put, List.setIfInBounds_toArray, List.set_cons_zero, List.set_cons_succ])
      have HSY2 := Lib.hid (bchain HSY1.out hb)
      clear hb
      have HBA := Lib.hid (bits_and (reachF N.steps S (1 <<< k)) (finalF N.final) HRL.out HFL.out)
      have HAL : Hid (((reachF N.steps S (1 <<< k) &&& finalF N.final : Nat) != 0) = aliveB N S k) := rfl
      refine wpTail_rest 6 rfl ?_
      simp only [List.drop_succ_cons, List.drop_zero]
      have hba := HBA.out
      have hac := aliveB_cast (reachF N.steps S (1 <<< k)) (finalF N.final)
      rw [HAL.out] at hac
      generalize aliveB N S k = al at hac HSC
      clear HAL
      cases al
      · go_wp2_with fail
        refine NoPanic.normal ?_
        go_wp2_with fail
        go_roundw
        case rel => exact ⟨k + 1, by omega, by go_num, by rw [HSC.out]; rfl, bchain HB.out HSY2.out⟩
        case measure => simp [intOf]; omega
      · go_wp2_with fail
        refine NoPanic.normal ?_
        go_wp2_with fail
        refine (with_any _ k _ hll hk32).mono ?_
        rintro e wz ⟨rfl, rfl⟩
        go_wp2_with fail
        go_roundw
        case rel => exact ⟨k + 1, by omega, by go_num, by rw [HSC.out]; simp [withB], bchain HB.out HSY2.out⟩
        case measure => simp [intOf]; omega
    · obtain rfl : k = S := by omega
      go_wp2_with fail
      go_ret
      exact ⟨rfl, bchain HBW.out HB.out⟩
set_option maxHeartbeats 2000000 in
theorem run_any (v u : Value) (N : PNet) (S : Nat) (l : List Int) (w : World) (hv : RdN w v N) (hu : RdI w u l) (hG : GoodN N) (hS : N.states = (S : Int)) :
    Calls Try.prog 33 #[v, u] w fun e w' => e = .returned (.int .u32 ((runF N.steps 1 l : Nat) : Int)) ∧ Below w.heap.size w w' := by
  have HV := Lib.hid hv
  obtain ⟨vs, vf, rfl, hs, hf⟩ := hv
  obtain ⟨A1, n1, c1, rfl, _, _, _, _⟩ := hs.op
  obtain ⟨A2, n2, c2, rfl, _, _, _, _⟩ := hf.op
  obtain ⟨L1, nl, cl, rfl, h1, h2, HN, HR⟩ := hu.op
  have HS' := Lib.hid hS
  have h1S : (1 : Nat) < 2 ^ S := by have := hG.s1; exact Nat.one_lt_two_pow (by omega)
  have H1S := Lib.hid h1S
  rw [hS] at HV ⊢
  clear hs hf hS hu h1S
  go_enter Try.func33, Try.ntmps33
  go_wp2_with fail
  generalize hW : World.alloc w _ = W
  have HBW : Hid (Below w.heap.size w W) := by rw [← hW]; repeat (first | assumption | exact Below.refl _ _ | refine Below.alloc ?_ (by first | omega | (simp; done) | (simp; omega)) _ | refine Below.drew ?_ | refine below_drewN ?_ _ | refine Below.setCell ?_ (by first | omega | (simp; done) | (simp; omega)) _)
  have HNB : Hid (NBlk W w.heap.size (.int .i64 S) (.slice A1 n1 c1) (.slice A2 n2 c2)) := by rw [← hW]; exact heap_alloc_new w _
  clear hW
  go_loopw [5, 10] (fun o i wr => ∃ k : Nat, k ≤ nl ∧ i = .int .i64 k ∧ o = .int .u32 ((runF N.steps 1 (l.take k) : Nat) : Int) ∧ Hid (Below W.heap.size W wr)) (fun _ i _ => nl - (intOf i).toNat)
  case atStart => exact ⟨0, Nat.zero_le _, rfl, rfl, Below.refl _ _⟩
  case round =>
    obtain ⟨k, hk, rfl, rfl, HB⟩ := hrel
    by_cases hlt : k < nl
    · obtain ⟨b, off, x, rfl, hb, hd, hck⟩ := (HR.out k hlt).below (bchain HBW.out HB.out)
      have HF : Hid (runF N.steps 1 (l.take (k + 1)) = afterF N.steps (runF N.steps 1 (l.take k)) x) := by rw [Hid, take_of_dropI hd.out, runF, List.foldl_append]; rfl
      obtain ⟨p0, p1, p2, hpl⟩ := (HNB.out.below HB.out).facts
      go_wp2_with fail
      refine (after_any _ N S _ x _ (HV.out.below (bchain HBW.out HB.out)) hG HS'.out (runF_lt hG HS'.out _ 1 H1S.out)).mono ?_
      rintro e w1 ⟨rfl, hb1⟩
      have HB1 := Lib.hid (bchain HB.out hb1)
      clear hb1 p0 p1 p2 hpl
      go_wp2_with fail
      go_roundw
      case rel => exact ⟨k + 1, by omega, by go_num, by rw [HF.out], HB1.out⟩
      case measure => simp [intOf]; omega
    · go_wp2_with fail
      go_ret
      exact ⟨by rw [List.take_of_length_le (by rw [HN.out]; omega)]; rfl, bchain HBW.out HB.out⟩
set_option maxHeartbeats 2000000 in
theorem accepts_any (v u : Value) (N : PNet) (S : Nat) (l : List Int) (w : World) (hv : RdN w v N) (hu : RdI w u l) (hG : GoodN N) (hS : N.states = (S : Int)) :
    Calls Try.prog 15 #[v, u] w fun e w' => e = .returned (.bool (accF N l)) ∧ Below w.heap.size w w' := by
  have HV := Lib.hid hv
  obtain ⟨vs, vf, rfl, hs, hf⟩ := hv
  obtain ⟨A1, n1, c1, rfl, _, _, _, _⟩ := hs.op
  obtain ⟨A2, n2, c2, rfl, _, _, _, _⟩ := hf.op
  obtain ⟨L1, nl, cl, rfl, h1, h2, _, _⟩ := hu.op
  have HU := Lib.hid hu
  have HS' := Lib.hid hS
  have hS24 : S ≤ 24 := by have := hG.s2; omega
  have h1S : (1 : Nat) < 2 ^ S := by have := hG.s1; exact Nat.one_lt_two_pow (by omega)
  have HRL := Lib.hid (lt32 hS24 (runF_lt hG hS l 1 h1S))
  have HFL := Lib.hid (lt32 hS24 (finalG_lt hG hS))
  rw [hS] at HV ⊢
  clear hs hf hS hu h1S
  go_enter Try.func15, Try.ntmps15
  go_wp2_with fail
  generalize hW : World.alloc w _ = W
  have HBW : Hid (Below w.heap.size w W) := by rw [← hW]; repeat (first | assumption | exact Below.refl _ _ | refine Below.alloc ?_ (by first | omega | (simp; done) | (simp; omega)) _ | refine Below.drew ?_ | refine below_drewN ?_ _ | refine Below.setCell ?_ (by first | omega | (simp; done) | (simp; omega)) _)
  have HNB : Hid (NBlk W w.heap.size (.int .i64 S) (.slice A1 n1 c1) (.slice A2 n2 c2)) := by rw [← hW]; exact heap_alloc_new w _
  clear hW
  refine wp_region_ord 4 [0, 1, 2, 3] [] [0, 1, 3] [2, 4, 5, 6, 7] (fun w' => Below W.heap.size W w') (by kernel_rfl) (by kernel_rfl) ?_
  rintro D hD
  have HSD : Hid (Below W.heap.size W D) := by rw [hD]; exact (Below.refl _ _).drew
  clear hD
  refine ⟨HSD.out, ?_⟩
  have HS : Hid (∀ w' : World, Below W.heap.size W w' → w'.cell? ⟨w.heap.size, 0, none⟩ = some (.int .i64 S) ∧ w'.cell? ⟨w.heap.size, 1, none⟩ = some (.slice A1 n1 c1) ∧ w'.cell? ⟨w.heap.size, 2, none⟩ = some (.slice A2 n2 c2)) := by
    intro w' h
    obtain ⟨f0, f1, f2, _⟩ := (HNB.out.below h).facts
    exact ⟨f0, f1, f2⟩
  iterate 3 (refine wpHead_cons (v := ?_) rfl rfl (fun w' hS => ?_) ?_; rotate_left; (focus ((try obtain ⟨s0, s1, s2⟩ := HS.out _ (hS rfl)); clear hS; go_simp; try with_reducible rfl; done)); (try simp only [Act.put, List.setIfInBounds_toArray, List.set_cons_zero, List.set_cons_succ]))
  refine wpHead_nil ?_
  refine wpTail_cons rfl rfl (fun K hK => ?_)
  go_simp
  refine (run_any _ _ N S l _ (HV.out.below (bchain HBW.out HSD.out)) (HU.out.below (bchain HBW.out HSD.out)) hG HS'.out).mono ?_
  rintro e Y1 ⟨rfl, hb⟩
  refine hK.out _ _ (fun _ => bchain HSD.out hb) ?_
  clear hK K
  (try simp only [Act.put, List.setIfInBounds_toArray, List.set_cons_zero, List.set_cons_succ])
  have HSY1 := Lib.hid (bchain HSD.out hb)
  clear hb
  refine wpTail_cons rfl rfl (fun K hK => ?_)
  go_simp
  refine (final_any _ N S _ (HV.out.below (bchain HBW.out HSY1.out)) hG HS'.out).mono ?_
  rintro e Y2 ⟨rfl, hb⟩
  refine hK.out _ _ (fun h => absurd h (by decide)) ?_
  clear hK K
  (try simp only [Act.put, List.setIfInBounds_toArray, List.set_cons_zero, List.set_cons_succ])
  have HSY2 := Lib.hid (bchain HSY1.out hb)
  clear hb
  have hba := bits_and (runF N.steps 1 l) (finalF N.final) HRL.out HFL.out
  have hac := aliveB_cast (runF N.steps 1 l) (finalF N.final)
  refine wpTail_rest 5 rfl ?_
  simp only [List.drop_succ_cons, List.drop_zero]
  go_wp2_with fail
  refine NoPanic.normal ?_
  go_wp2_with fail
  go_ret
  exact ⟨rfl, bchain HBW.out HSY2.out⟩
end Go.Proofs.Ytcmfgblfgldonaa
