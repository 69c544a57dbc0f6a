/-
  The reference 23: Endless; what is reached, as paths.
-/
import Derived.Test.YtcmfgblfgldonaaN12
namespace Go.Proofs.Ytcmfgblfgldonaa
open Go.ChangeShapes Go.WideShapes Go.ChangeAt Go.RowKit
def endlR (N : PNet) (S k : Nat) : Bool := (List.range k).any fun q => (reachF N.steps S 1).testBit q && ((livingF N S S).testBit q && (reachF N.steps S (afterR N.steps (1 <<< q) 0)).testBit q)
theorem endlR_succ (N : PNet) (S k : Nat) : endlR N S (k + 1) = (endlR N S k || ((reachF N.steps S 1).testBit k && ((livingF N S S).testBit k && (reachF N.steps S (afterR N.steps (1 <<< k) 0)).testBit k))) := by
  simp [endlR, List.range_succ]
theorem endlR_yes (N : PNet) (S k : Nat) (hk : k < S) (h : endlR N S (k + 1) = true) : endlR N S S = true := by
  rw [endlR, List.any_eq_true] at h ⊢
  obtain ⟨q, hq, h1⟩ := h
  rw [List.mem_range] at hq
  exact ⟨q, List.mem_range.2 (by omega), h1⟩
set_option maxHeartbeats 4000000 in
set_option maxRecDepth 100000 in
theorem rendless_any (v : Value) (N : PNet) (S : Nat) (w : World) (hv : RdN w v N) (hG : GoodN N) (hS : N.states = (S : Int)) :
    Calls Try.prog 27 #[v] w fun e w' => e = .returned (.bool (endlR N S S)) ∧ Below w.heap.size w w' := by
  have HV := Lib.hid hv
  obtain ⟨vs, vf, rfl, hs, hf⟩ := hv
  have HF := Lib.hid hf
  obtain ⟨A1, n1, c1, rfl, _, _, _, _⟩ := hs.op
  obtain ⟨A2, n2, c2, rfl, _, _, _, _⟩ := hf.op
  have hS24 : S ≤ 24 := by have := hG.s2; omega
  have HS' := Lib.hid hS
  have HFI : Hid (∀ q, q ∈ N.final → 0 ≤ q ∧ q < (S : Int)) := fun q hq => by have := hG.fin q hq; omega
  have HO1 : Hid (∀ q, q ∈ [(((0 : Nat) : Int))] → 0 ≤ q ∧ q < (S : Int)) := by intro q hq; simp at hq; have := hG.s1; omega
  have H1S : Hid ((1 : Nat) < 2 ^ S) := by have := hG.s1; exact Nat.one_lt_two_pow (by omega)
  rw [hS] at HV ⊢
  clear hs hf hS
  go_enter Try.func27, Try.ntmps27
  go_wp2_with fail
  generalize hW : World.alloc w _ = W
  have HBW : Hid (Below w.heap.size w W) := by rw [← hW]; repeat (first | assumption | exact Below.refl _ _ | refine Below.alloc ?_ (by first | omega | (simp; done) | (simp; omega)) _ | refine Below.drew ?_ | refine below_drewN ?_ _ | refine Below.setCell ?_ (by first | omega | (simp; done) | (simp; omega)) _)
  have HNB : Hid (NBlk W w.heap.size (.int .i64 S) (.slice A1 n1 c1) (.slice A2 n2 c2)) := by rw [← hW]; exact heap_alloc_new w _
  clear hW
  refine wp_region_ord 4 [0, 1, 2, 3] [] [0, 1] [2, 3, 4, 5] (fun w' => Below W.heap.size W w') (by kernel_rfl) (by kernel_rfl) ?_
  rintro D hD
  have HSD : Hid (Below W.heap.size W D) := by rw [hD]; exact (Below.refl _ _).drew
  clear hD
  refine ⟨HSD.out, ?_⟩
  have HS : Hid (∀ w' : World, Below W.heap.size W w' → w'.cell? ⟨w.heap.size, 0, none⟩ = some (.int .i64 S) ∧ w'.cell? ⟨w.heap.size, 1, none⟩ = some (.slice A1 n1 c1) ∧ w'.cell? ⟨w.heap.size, 2, none⟩ = some (.slice A2 n2 c2)) := by
    intro w' h
    obtain ⟨f0, f1, f2, _⟩ := (HNB.out.below h).facts
    exact ⟨f0, f1, f2⟩
  iterate 2 (refine wpHead_cons (v := ?_) rfl rfl (fun w' hS => ?_) ?_; rotate_left; (focus ((try obtain ⟨s0, s1, s2⟩ := HS.out _ (hS rfl)); clear hS; go_simp; try with_reducible rfl; done)); (try simp only [Act.put, List.setIfInBounds_toArray, List.set_cons_zero, List.set_cons_succ]))
  refine wpHead_nil ?_
  refine wpTail_cons rfl rfl (fun K hK => ?_)
  go_simp
  refine hK.out _ _ (fun _ => HSD.out.alloc HSD.out.size _) ?_
  clear hK K
  (try simp only [Act.put, List.setIfInBounds_toArray, List.set_cons_zero, List.set_cons_succ])
  have HR1 := Lib.hid (rd_new1 D _ rfl (((0 : Nat) : Int)))
  have HSX0 : Hid (Below W.heap.size W (D.alloc (.cells #[.int .i64 (((0 : Nat) : Int))] 3))) := HSD.out.alloc HSD.out.size _
  generalize hX : World.alloc D _ = X0
  have hX' : D.alloc (.cells #[.int .i64 (((0 : Nat) : Int))] 3) = X0 := hX
  rw [hX'] at HR1 HSX0
  clear hX hX'
  generalize D.heap.size = gd at HR1 ⊢
  refine wpTail_cons rfl rfl (fun K hK => ?_)
  go_simp
  refine (set_any _ _ N S [((0 : Nat) : Int)] _ (HV.out.below (bchain HBW.out HSX0.out)) HR1.out HS'.out hS24 HO1.out).mono ?_
  rintro e Y1 ⟨⟨vmY1, rfl, hm⟩, hb⟩
  have RY1 := Lib.hid hm
  obtain ⟨_, _, _, rfl, _, _, _, _⟩ := hm
  refine hK.out _ _ (fun _ => bchain HSX0.out hb) ?_
  clear hK K
  (try simp only [Act.put, List.setIfInBounds_toArray, List.set_cons_zero, List.set_cons_succ])
  have HSY1 := Lib.hid (bchain HSX0.out hb)
  have HXY1 := Lib.hid hb
  clear hb
  rw [finalF_one] at RY1
  refine wpTail_cons rfl rfl (fun K hK => ?_)
  go_simp
  refine (rreached_any _ _ N S (1 <<< 0) _ (HV.out.below (bchain HBW.out HSY1.out)) RY1.out hG HS'.out).mono ?_
  rintro e Y2 ⟨⟨vmY2, rfl, hm⟩, hb⟩
  have RY2 := Lib.hid hm
  obtain ⟨_, _, _, rfl, _, _, _, _⟩ := hm
  refine hK.out _ _ (fun h => absurd h (by decide)) ?_
  clear hK K
  (try simp only [Act.put, List.setIfInBounds_toArray, List.set_cons_zero, List.set_cons_succ])
  have HSY2 := Lib.hid (bchain HSY1.out hb)
  have HXY2 := Lib.hid hb
  clear hb
  refine wpTail_rest 5 rfl ?_
  simp only [List.drop_succ_cons, List.drop_zero]
  go_wp2_with fail
  refine NoPanic.normal ?_
  obtain ⟨p0, p1, p2, hpl⟩ := (HNB.out.below HSY2.out).facts
  go_wp2_with fail
  clear p0 p1 p2 hpl
  refine (ends_any _ N S _ (HV.out.below (bchain HBW.out HSY2.out)) hG HS'.out).mono ?_
  rintro e WL ⟨⟨vm, rfl, hm⟩, hb⟩
  have HLV := Lib.hid hm
  have HM := Lib.hid (RY2.out.below hb)
  have HBL := Lib.hid (bchain HSY2.out hb)
  obtain ⟨b2, o2, d2, rfl, hq1, hq2, hb2, hc2⟩ := hm
  obtain ⟨b1, o1, d1, he, hq3, hq4, hb1, hc1⟩ := HM.out
  have he := he.symm
  cases he
  have HC1 := Lib.hid hc1
  have HC2 := Lib.hid hc2
  clear hb hc1 hc2
  go_wp2_with fail
  go_loopw [5] (fun i wr => ∃ k : Nat, k ≤ S ∧ i = .int .i64 k ∧ Hid (endlR N S k = false) ∧ Hid (Below WL.heap.size WL wr)) (fun i _ => S - (intOf i).toNat)
  case atStart => exact ⟨0, Nat.zero_le _, rfl, rfl, Below.refl _ _⟩
  case round =>
    obtain ⟨k, hk, rfl, HE, HB⟩ := hrel
    have HBWW := Lib.hid (bchain HBL.out HB.out)
    obtain ⟨p0, p1, p2, hpl⟩ := (HNB.out.below HBWW.out).facts
    by_cases hlt : k < S
    · have HES := Lib.hid (endlR_succ N S k)
      have HEY := Lib.hid (endlR_yes N S k hlt)
      have hI0 : (0 : Int) ≤ (k : Int) := by omega
      have hI1 : (k : Int) < (S : Int) := by omega
      have HO2 : Hid (∀ q, q ∈ [(k : Int)] → 0 ≤ q ∧ q < (S : Int)) := by intro q hq; simp at hq; omega
      go_wp2_with fail
      clear p0 p1 p2
      refine wp_region_ord 5 [0, 1, 2, 3, 4] [] [0, 1, 2] [3, 4, 5, 6] (fun w' => Below wr.heap.size wr w') (by kernel_rfl) (by kernel_rfl) ?_
      rintro D hD
      have HSD : Hid (Below wr.heap.size wr D) := by rw [hD]; exact (Below.refl _ _).drew
      clear hD
      refine ⟨HSD.out, ?_⟩
      have HS : Hid (∀ w' : World, Below wr.heap.size wr w' → w'.cell? ⟨w.heap.size, 0, none⟩ = some (.int .i64 S) ∧ w'.cell? ⟨w.heap.size, 1, none⟩ = some (.slice A1 n1 c1) ∧ w'.cell? ⟨w.heap.size, 2, none⟩ = some (.slice A2 n2 c2)) := by
        intro w' h
        obtain ⟨f0, f1, f2, _⟩ := (HNB.out.below (bchain HBWW.out h)).facts
        exact ⟨f0, f1, f2⟩
      iterate 3 (refine wpHead_cons (v := ?_) rfl rfl (fun w' hS => ?_) ?_; rotate_left; (focus ((try obtain ⟨s0, s1, s2⟩ := HS.out _ (hS rfl)); clear hS; go_simp; try with_reducible rfl; done)); (try simp only [Act.put, List.setIfInBounds_toArray, List.set_cons_zero, List.set_cons_succ]))
      refine wpHead_nil ?_
      refine wpTail_cons rfl rfl (fun K hK => ?_)
      go_simp
      refine hK.out _ _ (fun _ => HSD.out.alloc HSD.out.size _) ?_
      clear hK K
      (try simp only [Act.put, List.setIfInBounds_toArray, List.set_cons_zero, List.set_cons_succ])
      have HR1 := Lib.hid (rd_new1 D _ rfl (k : Int))
      have HSX1 : Hid (Below wr.heap.size wr (D.alloc (.cells #[.int .i64 (k : Int)] 3))) := HSD.out.alloc HSD.out.size _
      generalize hX : World.alloc D _ = X1
      rw [hX] at HR1 HSX1
      clear hX
      generalize D.heap.size = gd at HR1 ⊢
      refine wpTail_cons rfl rfl (fun K hK => ?_)
      go_simp
      refine (set_any _ _ N S [(k : Int)] _ (HV.out.below (bchain HBW.out (bchain HBWW.out HSX1.out))) HR1.out HS'.out hS24 HO2.out).mono ?_
      rintro e Z1 ⟨⟨vmZ1, rfl, hm⟩, hb⟩
      have RZ1 := Lib.hid hm
      obtain ⟨_, _, _, rfl, _, _, _, _⟩ := hm
      refine hK.out _ _ (fun _ => bchain HSX1.out hb) ?_
      clear hK K
      (try simp only [Act.put, List.setIfInBounds_toArray, List.set_cons_zero, List.set_cons_succ])
      have HSZ1 := Lib.hid (bchain HSX1.out hb)
      have HXZ1 := Lib.hid hb
      clear hb
      rw [finalF_one] at RZ1
      refine wpTail_cons rfl rfl (fun K hK => ?_)
      go_simp
      refine (rafter_any _ _ N S (1 <<< k) 0 _ (HV.out.below (bchain HBW.out (bchain HBWW.out HSZ1.out))) RZ1.out hG HS'.out).mono ?_
      rintro e Z2 ⟨⟨vm, rfl, g2, rfl, _, hM⟩, hb⟩
      have HM2 := Lib.hid (RB.of hM hS24)
      refine hK.out _ _ (fun h => absurd h (by decide)) ?_
      clear hK K hM
      (try simp only [Act.put, List.setIfInBounds_toArray, List.set_cons_zero, List.set_cons_succ])
      have HSZ2 := Lib.hid (bchain HB.out (bchain HSZ1.out hb))
      clear hb
      refine wpTail_rest 6 rfl ?_
      simp only [List.drop_succ_cons, List.drop_zero]
      go_wp2_with fail
      refine NoPanic.normal ?_
      have hc1 := (HSZ2.out.cell (p := ⟨_, _ + k, none⟩) hb1).trans (HC1.out k hlt)
      have hc2 := (HSZ2.out.cell (p := ⟨b2, o2 + k, none⟩) hb2).trans (HC2.out k hlt)
      have hl1 := Nat.lt_of_lt_of_le hb1 HSZ2.out.size
      have hl2 : b2 < Z2.heap.size := by have := HSZ2.out.size; omega
      obtain ⟨p0, p1, p2, hpl⟩ := (HNB.out.below (bchain HBL.out HSZ2.out)).facts
      have HS1 : Hid ((reachF N.steps S (1 <<< 0)) = reachF N.steps S 1) := rfl
      rw [HS1.out] at hc1
      generalize (reachF N.steps S 1).testBit k = x at hc1 HES
      generalize (livingF N S S).testBit k = y at hc2 HES
      cases x
      · have HF2 : Hid (endlR N S (k + 1) = false) := by rw [Hid, HES.out, HE.out]; rfl
        go_wp2_with fail
        go_roundw
        case rel => exact ⟨k + 1, by omega, by go_num, HF2.out, HSZ2.out⟩
        case measure => simp [intOf]; omega
      cases y
      · have HF2 : Hid (endlR N S (k + 1) = false) := by rw [Hid, HES.out, HE.out]; rfl
        go_wp2_with fail
        go_roundw
        case rel => exact ⟨k + 1, by omega, by go_num, HF2.out, HSZ2.out⟩
        case measure => simp [intOf]; omega
      go_wp2_with fail
      clear p0 p1 p2 hc1 hc2
      refine (rreached_any _ _ N S _ _ (HV.out.below (bchain HBW.out (bchain HBL.out HSZ2.out))) HM2.out hG HS'.out).mono ?_
      rintro e Z3 ⟨⟨vm, rfl, hm⟩, hb⟩
      obtain ⟨b3, o3, d3, rfl, hq5, hq6, hb3, hc3⟩ := hm
      have HSZ3 := Lib.hid (bchain HSZ2.out hb)
      have hc := hc3 k hlt
      clear hc3 hb
      generalize (reachF N.steps S (afterR N.steps (1 <<< k) 0)).testBit k = z at hc HES
      cases z
      · have HF2 : Hid (endlR N S (k + 1) = false) := by rw [Hid, HES.out, HE.out]; rfl
        go_wp2_with fail
        go_roundw
        case rel => exact ⟨k + 1, by omega, by go_num, HF2.out, HSZ3.out⟩
        case measure => simp [intOf]; omega
      · have HF2 : Hid (endlR N S S = true) := HEY.out (by rw [HES.out]; simp)
        go_wp2_with fail
        go_ret
        exact ⟨by rw [HF2.out]; rfl, bchain HBW.out (bchain HBL.out HSZ3.out)⟩
    · obtain rfl : k = S := by omega
      go_wp2_with fail
      go_ret
      exact ⟨by rw [HE.out]; rfl, bchain HBW.out HBWW.out⟩
end Go.Proofs.Ytcmfgblfgldonaa
