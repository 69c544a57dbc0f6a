/-
  The reference 23: Accepts, Follow, Classes.
-/
import Derived.Test.YtcmfgblfgldonaaN11
namespace Go.Proofs.Ytcmfgblfgldonaa
open Go.ChangeShapes Go.WideShapes Go.ChangeAt Go.RowKit
set_option maxHeartbeats 2000000 in
theorem raccepts_any (v u : Value) (N : PNet) (S : Nat) (l : List Int) (w : World) (hv : RdN w v N) (hu : RdI w u l) (hG : GoodN N) (hS : N.states = (S : Int)) :
    Calls Try.prog 16 #[v, u] w fun e w' => e = .returned (.bool (accF N l)) ∧ Below w.heap.size w w' := by
  have HV := Lib.hid hv
  obtain ⟨vs, vf, rfl, hs, hf⟩ := hv
  have HF := Lib.hid hf
  obtain ⟨A1, n1, c1, rfl, _, _, _, _⟩ := hs.op
  obtain ⟨A2, n2, c2, rfl, _, _, _, _⟩ := hf.op
  have hS24 : S ≤ 24 := by have := hG.s2; omega
  have HS' := Lib.hid hS
  have HFI : Hid (∀ q, q ∈ N.final → 0 ≤ q ∧ q < (S : Int)) := fun q hq => by have := hG.fin q hq; omega
  have HO1 : Hid (∀ q, q ∈ [(((0 : Nat) : Int))] → 0 ≤ q ∧ q < (S : Int)) := by intro q hq; simp at hq; have := hG.s1; omega
  have H1S : Hid ((1 : Nat) < 2 ^ S) := by have := hG.s1; exact Nat.one_lt_two_pow (by omega)
  rw [hS] at HV ⊢
  clear hs hf hS
  obtain ⟨L1, nl, cl, rfl, _, _, _, _⟩ := hu.op
  have HU := Lib.hid hu
  have HRL := Lib.hid (runF_lt hG HS'.out l 1 H1S.out)
  clear hu
  go_enter Try.func16, Try.ntmps16
  go_wp2_with fail
  generalize hW : World.alloc w _ = W
  have HBW : Hid (Below w.heap.size w W) := by rw [← hW]; repeat (first | assumption | exact Below.refl _ _ | refine Below.alloc ?_ (by first | omega | (simp; done) | (simp; omega)) _ | refine Below.drew ?_ | refine below_drewN ?_ _ | refine Below.setCell ?_ (by first | omega | (simp; done) | (simp; omega)) _)
  have HNB : Hid (NBlk W w.heap.size (.int .i64 S) (.slice A1 n1 c1) (.slice A2 n2 c2)) := by rw [← hW]; exact heap_alloc_new w _
  clear hW
  refine wp_region_ord 6 [0, 1, 2, 3, 4, 5] [] [0, 1, 3, 4, 5] [2, 6, 7, 8] (fun w' => Below W.heap.size W w') (by kernel_rfl) (by kernel_rfl) ?_
  rintro D hD
  have HSD : Hid (Below W.heap.size W D) := by rw [hD]; exact (Below.refl _ _).drew
  clear hD
  refine ⟨HSD.out, ?_⟩
  have HS : Hid (∀ w' : World, Below W.heap.size W w' → w'.cell? ⟨w.heap.size, 0, none⟩ = some (.int .i64 S) ∧ w'.cell? ⟨w.heap.size, 1, none⟩ = some (.slice A1 n1 c1) ∧ w'.cell? ⟨w.heap.size, 2, none⟩ = some (.slice A2 n2 c2)) := by
    intro w' h
    obtain ⟨f0, f1, f2, _⟩ := (HNB.out.below h).facts
    exact ⟨f0, f1, f2⟩
  iterate 5 (refine wpHead_cons (v := ?_) rfl rfl (fun w' hS => ?_) ?_; rotate_left; (focus ((try obtain ⟨s0, s1, s2⟩ := HS.out _ (hS rfl)); clear hS; go_simp; try with_reducible rfl; done)); (try simp only [Act.put, List.setIfInBounds_toArray, List.set_cons_zero, List.set_cons_succ]))
  refine wpHead_nil ?_
  refine wpTail_cons rfl rfl (fun K hK => ?_)
  go_simp
  refine (rrun_any _ _ N S l _ (HV.out.below (bchain HBW.out HSD.out)) (HU.out.below (bchain HBW.out HSD.out)) hG HS'.out).mono ?_
  rintro e Y1 ⟨⟨vmY1, rfl, hm⟩, hb⟩
  have RY1 := Lib.hid hm
  obtain ⟨_, _, _, rfl, _, _, _, _⟩ := hm
  refine hK.out _ _ (fun _ => bchain HSD.out hb) ?_
  clear hK K
  (try simp only [Act.put, List.setIfInBounds_toArray, List.set_cons_zero, List.set_cons_succ])
  have HSY1 := Lib.hid (bchain HSD.out hb)
  have HXY1 := Lib.hid hb
  clear hb
  refine wpTail_cons rfl rfl (fun K hK => ?_)
  go_simp
  refine (set_any _ _ N S N.final _ (HV.out.below (bchain HBW.out HSY1.out)) (HF.out.below (bchain HBW.out HSY1.out)) HS'.out hS24 HFI.out).mono ?_
  rintro e Y2 ⟨⟨vmY2, rfl, hm⟩, hb⟩
  have RY2 := Lib.hid hm
  obtain ⟨_, _, _, rfl, _, _, _, _⟩ := hm
  refine hK.out _ _ (fun h => absurd h (by decide)) ?_
  clear hK K
  (try simp only [Act.put, List.setIfInBounds_toArray, List.set_cons_zero, List.set_cons_succ])
  have HSY2 := Lib.hid (bchain HSY1.out hb)
  have HXY2 := Lib.hid hb
  clear hb
  refine wpTail_cons rfl rfl (fun K hK => ?_)
  go_simp
  refine (both_any _ _ S (runF N.steps 1 l) (finalF N.final) _ (RY1.out.below HXY2.out) RY2.out hS24 HRL.out).mono ?_
  rintro e wz ⟨rfl, rfl⟩
  refine hK.out _ _ (fun h => absurd h (by decide)) ?_
  clear hK K
  (try simp only [Act.put, List.setIfInBounds_toArray, List.set_cons_zero, List.set_cons_succ])
  refine wpTail_rest 8 rfl ?_
  simp only [List.drop_succ_cons, List.drop_zero]
  go_wp2_with fail
  refine NoPanic.normal ?_
  go_wp2_with fail
  go_ret
  exact ⟨rfl, bchain HBW.out HSY2.out⟩
set_option maxHeartbeats 4000000 in
set_option maxRecDepth 100000 in
theorem rfollow_any (v u : Value) (N : PNet) (S : Nat) (l : List Int) (w : World) (hv : RdN w v N) (hu : RdI w u l) (hG : GoodN N) (hS : N.states = (S : Int)) :
    Calls Try.prog 19 #[v, u] w fun e w' => (∃ vl, e = .returned vl ∧ OwnI w' w.heap.size vl (followF N S l)) ∧ Below w.heap.size w w' := by
  show Calls _ _ _ _ (fun e w' => (∃ vl, e = .returned vl ∧ OwnI w' w.heap.size vl (folF N S (runF N.steps 1 l) 20)) ∧ Below w.heap.size w w')
  have HV := Lib.hid hv
  obtain ⟨vs, vf, rfl, hs, hf⟩ := hv
  have HF := Lib.hid hf
  obtain ⟨A1, n1, c1, rfl, _, _, _, _⟩ := hs.op
  obtain ⟨A2, n2, c2, rfl, _, _, _, _⟩ := hf.op
  have hS24 : S ≤ 24 := by have := hG.s2; omega
  have HS' := Lib.hid hS
  have HFI : Hid (∀ q, q ∈ N.final → 0 ≤ q ∧ q < (S : Int)) := fun q hq => by have := hG.fin q hq; omega
  have HO1 : Hid (∀ q, q ∈ [(((0 : Nat) : Int))] → 0 ≤ q ∧ q < (S : Int)) := by intro q hq; simp at hq; have := hG.s1; omega
  have H1S : Hid ((1 : Nat) < 2 ^ S) := by have := hG.s1; exact Nat.one_lt_two_pow (by omega)
  rw [hS] at HV ⊢
  clear hs hf hS
  obtain ⟨L1, nl, cl, rfl, _, _, _, _⟩ := hu.op
  have HU := Lib.hid hu
  clear hu
  go_enter Try.func19, Try.ntmps19
  go_wp2_with fail
  generalize hW : World.alloc w _ = W
  have HBW : Hid (Below w.heap.size w W) := by rw [← hW]; repeat (first | assumption | exact Below.refl _ _ | refine Below.alloc ?_ (by first | omega | (simp; done) | (simp; omega)) _ | refine Below.drew ?_ | refine below_drewN ?_ _ | refine Below.setCell ?_ (by first | omega | (simp; done) | (simp; omega)) _)
  have HNB : Hid (NBlk W w.heap.size (.int .i64 S) (.slice A1 n1 c1) (.slice A2 n2 c2)) := by rw [← hW]; exact heap_alloc_new w _
  clear hW
  refine (rrun_any _ _ N S l _ (HV.out.below HBW.out) (HU.out.below HBW.out) hG HS'.out).mono ?_
  rintro e w1 ⟨⟨vm, rfl, hm⟩, hb⟩
  have HM := Lib.hid hm
  have HB1 := Lib.hid hb
  obtain ⟨b1, o1, d1, rfl, _, _, _, _⟩ := hm
  clear hb
  obtain ⟨p0, p1, p2, hpl⟩ := (HNB.out.below HB1.out).facts
  go_wp2_with fail
  clear p0 p1 p2 hpl
  refine (ends_any _ N S _ (HV.out.below (bchain HBW.out HB1.out)) hG HS'.out).mono ?_
  rintro e WL ⟨⟨vm, rfl, hm⟩, hb⟩
  have HLV := Lib.hid hm
  have HM := Lib.hid (HM.out.below hb)
  have HBL := Lib.hid (bchain HB1.out hb)
  obtain ⟨b2, o2, d2, rfl, _, _, _, _⟩ := hm
  clear hb HB1
  generalize hme : runF N.steps 1 l = m at HM
  have HME := Lib.hid hme
  clear hme
  go_wp2_with fail
  go_loopw [5, 8] (fun o c wr => ∃ (k : Nat) (A : Option Addr) (n cap : Nat), k ≤ 20 ∧ c = .int .i64 ((k : Int) + 1) ∧ o = .slice A n cap ∧ Hid (OwnI wr WL.heap.size (.slice A n cap) (folF N S m k)) ∧ Hid (Below WL.heap.size WL wr)) (fun _ i _ => 21 - (intOf i).toNat)
  case atStart => exact ⟨0, none, 0, 0, by omega, rfl, rfl, World.ownsRow_nil _ _ _ _, Below.refl _ _⟩
  case round =>
    obtain ⟨k, A, n, cap, hk, rfl, rfl, HO, HB⟩ := hrel
    have HBWW := Lib.hid (bchain HBL.out HB.out)
    by_cases hlt : k < 20
    · have hd : decide ((k : Int) + 1 ≤ 20) = true := by simp; omega
      have HFS := Lib.hid (folF_succ N S m k)
      have HAL := Lib.hid (after_lt hG HS'.out m ((k : Int) + 1))
      have HAE := Lib.hid (afterR_eq N.steps m ((k : Int) + 1) (by omega))
      obtain ⟨p0, p1, p2, hpl⟩ := (HNB.out.below HBWW.out).facts
      go_wp2_with fail
      refine (rafter_any _ _ N S m ((k : Int) + 1) _ (HV.out.below (bchain HBW.out HBWW.out)) (HM.out.below HB.out) hG HS'.out).mono ?_
      rintro e w1 ⟨⟨vm, rfl, g2, rfl, _, hM⟩, hb1⟩
      have HR2 : Hid (RB w1 (.slice (some ⟨g2, 0, none⟩) S S) S (afterF N.steps m ((k : Int) + 1))) := by rw [Hid, ← HAE.out]; exact RB.of hM hS24
      have HO1 : Hid (OwnI w1 WL.heap.size (.slice A n cap) (folF N S m k)) := own_below HO.out hb1
      have HB1 := Lib.hid (bchain HB.out hb1)
      clear hb1 p0 p1 p2 hpl hM
      go_wp2_with fail
      refine (both_any _ _ S (afterF N.steps m ((k : Int) + 1)) (livingF N S S) _ HR2.out (HLV.out.below HB1.out) hS24 HAL.out).mono ?_
      rintro e wz ⟨rfl, rfl⟩
      rw [show ((afterF N.steps m ((k : Int) + 1) &&& livingF N S S) != 0) = folB N S m ((k : Int) + 1) from rfl]
      generalize folB N S m ((k : Int) + 1) = fb at HFS ⊢
      cases fb
      · go_wp2_with fail
        go_roundw
        case rel => exact ⟨k + 1, _, _, _, by omega, by go_num, rfl, by rw [HFS.out]; exact HO1.out, HB1.out⟩
        case measure => simp [intOf]; omega
      · have hbl : WL.heap.size ≤ w1.heap.size := HB1.out.size
        obtain ⟨len, hlen⟩ : ∃ len, (folF N S m k).length = len := ⟨_, rfl⟩
        have hl20 : len ≤ 1000000 := by have := folF_len N S m k; omega
        have HLEN := Lib.hid hlen
        clear hlen
        go_wp2_with (at_builtin; refine wpList_app_int rfl (.tmp 24) (.tmp 26) rfl WL.heap.size (.slice A n cap) (folF N S m k) rfl HO1.out ((k : Int) + 1) len HLEN hl20 hbl rfl ?_; intro g' cap' w5 ho hge hg)
        have HO5 := Lib.hid ho
        have HG5 := Lib.hid hg
        clear ho hg
        go_roundw
        case rel => exact ⟨k + 1, _, _, _, by omega, by go_num, rfl, by rw [HFS.out]; exact HO5.out, HB1.out.grown HG5.out HB1.out.size (fun j hj => (World.ownsRow.lt HO1.out j hj).1)⟩
        case measure => simp [intOf]; omega
    · obtain rfl : k = 20 := by omega
      go_wp2_with fail
      go_ret
      exact ⟨⟨_, rfl, by rw [HME.out]; exact own_base HO.out (bchain HBW.out HBL.out).size⟩, bchain HBW.out HBWW.out⟩
set_option maxHeartbeats 4000000 in
set_option maxRecDepth 100000 in
theorem rclasses_any (v : Value) (N : PNet) (S : Nat) (w : World) (hv : RdN w v N) (hG : GoodN N) (hS : N.states = (S : Int)) :
    Calls Try.prog 25 #[v] w fun e w' => (∃ vl, e = .returned vl ∧ OwnI w' w.heap.size vl (folF N S (reachF N.steps S 1) 20)) ∧ Below w.heap.size w w' := by
  have HV := Lib.hid hv
  obtain ⟨vs, vf, rfl, hs, hf⟩ := hv
  have HF := Lib.hid hf
  obtain ⟨A1, n1, c1, rfl, _, _, _, _⟩ := hs.op
  obtain ⟨A2, n2, c2, rfl, _, _, _, _⟩ := hf.op
  have hS24 : S ≤ 24 := by have := hG.s2; omega
  have HS' := Lib.hid hS
  have HFI : Hid (∀ q, q ∈ N.final → 0 ≤ q ∧ q < (S : Int)) := fun q hq => by have := hG.fin q hq; omega
  have HO1 : Hid (∀ q, q ∈ [(((0 : Nat) : Int))] → 0 ≤ q ∧ q < (S : Int)) := by intro q hq; simp at hq; have := hG.s1; omega
  have H1S : Hid ((1 : Nat) < 2 ^ S) := by have := hG.s1; exact Nat.one_lt_two_pow (by omega)
  rw [hS] at HV ⊢
  clear hs hf hS
  go_enter Try.func25, Try.ntmps25
  go_wp2_with fail
  generalize hW : World.alloc w _ = W
  have HBW : Hid (Below w.heap.size w W) := by rw [← hW]; repeat (first | assumption | exact Below.refl _ _ | refine Below.alloc ?_ (by first | omega | (simp; done) | (simp; omega)) _ | refine Below.drew ?_ | refine below_drewN ?_ _ | refine Below.setCell ?_ (by first | omega | (simp; done) | (simp; omega)) _)
  have HNB : Hid (NBlk W w.heap.size (.int .i64 S) (.slice A1 n1 c1) (.slice A2 n2 c2)) := by rw [← hW]; exact heap_alloc_new w _
  clear hW
  refine wp_region_ord 4 [0, 1, 2, 3] [] [0, 1] [2, 3, 4, 5] (fun w' => Below W.heap.size W w') (by kernel_rfl) (by kernel_rfl) ?_
  rintro D hD
  have HSD : Hid (Below W.heap.size W D) := by rw [hD]; exact (Below.refl _ _).drew
  clear hD
  refine ⟨HSD.out, ?_⟩
  have HS : Hid (∀ w' : World, Below W.heap.size W w' → w'.cell? ⟨w.heap.size, 0, none⟩ = some (.int .i64 S) ∧ w'.cell? ⟨w.heap.size, 1, none⟩ = some (.slice A1 n1 c1) ∧ w'.cell? ⟨w.heap.size, 2, none⟩ = some (.slice A2 n2 c2)) := by
    intro w' h
    obtain ⟨f0, f1, f2, _⟩ := (HNB.out.below h).facts
    exact ⟨f0, f1, f2⟩
  iterate 2 (refine wpHead_cons (v := ?_) rfl rfl (fun w' hS => ?_) ?_; rotate_left; (focus ((try obtain ⟨s0, s1, s2⟩ := HS.out _ (hS rfl)); clear hS; go_simp; try with_reducible rfl; done)); (try simp only [Act.put, List.setIfInBounds_toArray, List.set_cons_zero, List.set_cons_succ]))
  refine wpHead_nil ?_
  refine wpTail_cons rfl rfl (fun K hK => ?_)
  go_simp
  refine hK.out _ _ (fun _ => HSD.out.alloc HSD.out.size _) ?_
  clear hK K
  (try simp only [Act.put, List.setIfInBounds_toArray, List.set_cons_zero, List.set_cons_succ])
  have HR1 := Lib.hid (rd_new1 D _ rfl (((0 : Nat) : Int)))
  have HSX0 : Hid (Below W.heap.size W (D.alloc (.cells #[.int .i64 (((0 : Nat) : Int))] 3))) := HSD.out.alloc HSD.out.size _
  generalize hX : World.alloc D _ = X0
  have hX' : D.alloc (.cells #[.int .i64 (((0 : Nat) : Int))] 3) = X0 := hX
  rw [hX'] at HR1 HSX0
  clear hX hX'
  generalize D.heap.size = gd at HR1 ⊢
  refine wpTail_cons rfl rfl (fun K hK => ?_)
  go_simp
  refine (set_any _ _ N S [((0 : Nat) : Int)] _ (HV.out.below (bchain HBW.out HSX0.out)) HR1.out HS'.out hS24 HO1.out).mono ?_
  rintro e Y1 ⟨⟨vmY1, rfl, hm⟩, hb⟩
  have RY1 := Lib.hid hm
  obtain ⟨_, _, _, rfl, _, _, _, _⟩ := hm
  refine hK.out _ _ (fun _ => bchain HSX0.out hb) ?_
  clear hK K
  (try simp only [Act.put, List.setIfInBounds_toArray, List.set_cons_zero, List.set_cons_succ])
  have HSY1 := Lib.hid (bchain HSX0.out hb)
  have HXY1 := Lib.hid hb
  clear hb
  rw [finalF_one] at RY1
  refine wpTail_cons rfl rfl (fun K hK => ?_)
  go_simp
  refine (rreached_any _ _ N S (1 <<< 0) _ (HV.out.below (bchain HBW.out HSY1.out)) RY1.out hG HS'.out).mono ?_
  rintro e Y2 ⟨⟨vmY2, rfl, hm⟩, hb⟩
  have RY2 := Lib.hid hm
  obtain ⟨_, _, _, rfl, _, _, _, _⟩ := hm
  refine hK.out _ _ (fun h => absurd h (by decide)) ?_
  clear hK K
  (try simp only [Act.put, List.setIfInBounds_toArray, List.set_cons_zero, List.set_cons_succ])
  have HSY2 := Lib.hid (bchain HSY1.out hb)
  have HXY2 := Lib.hid hb
  clear hb
  refine wpTail_rest 5 rfl ?_
  simp only [List.drop_succ_cons, List.drop_zero]
  go_wp2_with fail
  refine NoPanic.normal ?_
  obtain ⟨p0, p1, p2, hpl⟩ := (HNB.out.below HSY2.out).facts
  go_wp2_with fail
  clear p0 p1 p2 hpl
  refine (ends_any _ N S _ (HV.out.below (bchain HBW.out HSY2.out)) hG HS'.out).mono ?_
  rintro e WL ⟨⟨vm, rfl, hm⟩, hb⟩
  have HLV := Lib.hid hm
  have HM := Lib.hid (RY2.out.below hb)
  have HBL := Lib.hid (bchain HSY2.out hb)
  obtain ⟨b2, o2, d2, rfl, _, _, _, _⟩ := hm
  clear hb
  have HM' : Hid (RB WL _ S (reachF N.steps S 1)) := HM.out
  generalize hme : reachF N.steps S 1 = m at HM'
  have HME := Lib.hid hme
  clear hme
  have HM := HM'
  go_wp2_with fail
  go_loopw [3, 6] (fun o c wr => ∃ (k : Nat) (A : Option Addr) (n cap : Nat), k ≤ 20 ∧ c = .int .i64 ((k : Int) + 1) ∧ o = .slice A n cap ∧ Hid (OwnI wr WL.heap.size (.slice A n cap) (folF N S m k)) ∧ Hid (Below WL.heap.size WL wr)) (fun _ i _ => 21 - (intOf i).toNat)
  case atStart => exact ⟨0, none, 0, 0, by omega, rfl, rfl, World.ownsRow_nil _ _ _ _, Below.refl _ _⟩
  case round =>
    obtain ⟨k, A, n, cap, hk, rfl, rfl, HO, HB⟩ := hrel
    have HBWW := Lib.hid (bchain HBL.out HB.out)
    by_cases hlt : k < 20
    · have hd : decide ((k : Int) + 1 ≤ 20) = true := by simp; omega
      have HFS := Lib.hid (folF_succ N S m k)
      have HAL := Lib.hid (after_lt hG HS'.out m ((k : Int) + 1))
      have HAE := Lib.hid (afterR_eq N.steps m ((k : Int) + 1) (by omega))
      obtain ⟨p0, p1, p2, hpl⟩ := (HNB.out.below HBWW.out).facts
      go_wp2_with fail
      refine (rafter_any _ _ N S m ((k : Int) + 1) _ (HV.out.below (bchain HBW.out HBWW.out)) (HM.out.below HB.out) hG HS'.out).mono ?_
      rintro e w1 ⟨⟨vm, rfl, g2, rfl, _, hM⟩, hb1⟩
      have HR2 : Hid (RB w1 (.slice (some ⟨g2, 0, none⟩) S S) S (afterF N.steps m ((k : Int) + 1))) := by rw [Hid, ← HAE.out]; exact RB.of hM hS24
      have HO1 : Hid (OwnI w1 WL.heap.size (.slice A n cap) (folF N S m k)) := own_below HO.out hb1
      have HB1 := Lib.hid (bchain HB.out hb1)
      clear hb1 p0 p1 p2 hpl hM
      go_wp2_with fail
      refine (both_any _ _ S (afterF N.steps m ((k : Int) + 1)) (livingF N S S) _ HR2.out (HLV.out.below HB1.out) hS24 HAL.out).mono ?_
      rintro e wz ⟨rfl, rfl⟩
      rw [show ((afterF N.steps m ((k : Int) + 1) &&& livingF N S S) != 0) = folB N S m ((k : Int) + 1) from rfl]
      generalize folB N S m ((k : Int) + 1) = fb at HFS ⊢
      cases fb
      · go_wp2_with fail
        go_roundw
        case rel => exact ⟨k + 1, _, _, _, by omega, by go_num, rfl, by rw [HFS.out]; exact HO1.out, HB1.out⟩
        case measure => simp [intOf]; omega
      · have hbl : WL.heap.size ≤ w1.heap.size := HB1.out.size
        obtain ⟨len, hlen⟩ : ∃ len, (folF N S m k).length = len := ⟨_, rfl⟩
        have hl20 : len ≤ 1000000 := by have := folF_len N S m k; omega
        have HLEN := Lib.hid hlen
        clear hlen
        go_wp2_with (at_builtin; refine wpList_app_int rfl (.tmp 24) (.tmp 26) rfl WL.heap.size (.slice A n cap) (folF N S m k) rfl HO1.out ((k : Int) + 1) len HLEN hl20 hbl rfl ?_; intro g' cap' w5 ho hge hg)
        have HO5 := Lib.hid ho
        have HG5 := Lib.hid hg
        clear ho hg
        go_roundw
        case rel => exact ⟨k + 1, _, _, _, by omega, by go_num, rfl, by rw [HFS.out]; exact HO5.out, HB1.out.grown HG5.out HB1.out.size (fun j hj => (World.ownsRow.lt HO1.out j hj).1)⟩
        case measure => simp [intOf]; omega
    · obtain rfl : k = 20 := by omega
      go_wp2_with fail
      go_ret
      exact ⟨⟨_, rfl, by rw [HME.out]; exact own_base HO.out (bchain HBW.out HBL.out).size⟩, bchain HBW.out HBWW.out⟩
end Go.Proofs.Ytcmfgblfgldonaa
