/-
  The statements' walks: RewriteRuns.
-/
import Derived.Test.YtdijlakeonionaaQ35
namespace Go.Proofs.Ytdijlakeonionaa
open Go.ChangeShapes Go.WideShapes Go.ChangeAt Go.RowKit
theorem rsame_same (v u : Value) (a : List Int) (w : World) (hv : RdI w v a) (hu : RdI w u a) :
    Calls Try.prog 16 #[v, u] w fun e w' => e = .returned (.bool true) ∧ Below w.heap.size w w' :=
  (rsame_b v u a a w hv hu).mono fun _ _ h => ⟨by rw [h.1, sameB_self], h.2⟩
theorem rsOk_of {I : List PPh} {Rs : List PRule} (h : ∀ R ∈ Rs, RGood I R) (hl : Rs.length ≤ 12) : RsOk Rs := ⟨fun R hR => (h R hR).ok, fun R hR => (h R hR).nd, by omega⟩
theorem rdV_form {w : World} {v : Value} {I : List PPh} (h : RdV w v I) : ∃ (A : Option Addr) (n c : Nat), v = .agg #[.slice A n c] := by
  obtain ⟨u, rfl, hp⟩ := h
  obtain ⟨A, n, c, rfl, _⟩ := hp.op
  exact ⟨A, n, c, rfl⟩
theorem rdRs_form {w : World} {v : Value} {Rs : List PRule} (h : RdRs w v Rs) : ∃ (A : Option Addr) (n c : Nat), v = .slice A n c ∧ n ≤ c ∧ Hid (Rs.length = n) := by
  obtain ⟨A, n, c, rfl, h1, _, h2, _⟩ := h
  exact ⟨A, n, c, rfl, h1, h2⟩
set_option maxHeartbeats 8000000 in
set_option maxRecDepth 100000 in
theorem runs_walk (v vr vw : Value) (I : List PPh) (Rs : List PRule) (l : List Int) (w : World) (hv : RdV w v I) (hr : RdRs w vr Rs) (hw : RdI w vw l) :
    Calls Try.prog 9 #[v, vr, vw] w fun e w' => e = .returned (.bool true) ∧ Below w.heap.size w w' := by
  have HV := Lib.hid hv
  have HRS := Lib.hid hr
  have HVW := Lib.hid hw
  obtain ⟨A0, n0, c0, rfl⟩ := rdV_form hv
  obtain ⟨A, n, c, rfl, hnc, HRN⟩ := rdRs_form hr
  obtain ⟨Aw, nw, cw, rfl⟩ := rdI_slice hw
  clear hv hr hw
  go_enter Try.func9, Try.ntmps9
  go_upto_region 1 with (fail)
  generalize hW : World.alloc w _ = W
  have HBW : Hid (Below w.heap.size w W) := by rw [← hW]; exact al_below _ _
  have HP : Hid (VBlk W w.heap.size (.slice A0 n0 c0)) := by rw [← hW]; exact heap_alloc_new w _
  clear hW
  have y0 := HP.out.cell
  have y1 := HP.out.lt
  go_wp2_with fail
  clear y0 y1
  refine (all_walk _ _ _ I Rs l _ (HV.out.below HBW.out) (HRS.out.below HBW.out) (HVW.out.below HBW.out)).mono ?_
  rintro e w1 ⟨⟨b, rfl, hbr⟩, hb1⟩
  have HB1 := Lib.hid (bchain HBW.out hb1)
  have HP1 := Lib.hid (HP.out.below hb1)
  clear hb1 HP HBW
  cases b
  · skip
    go_wp2_with fail
    refine (awake_any _).mono ?_
    rintro e wz ⟨rfl, hbz⟩
    have HBZ := Lib.hid (bchain (HB1).out hbz)
    clear hbz
    go_wp2_with fail
    go_ret
    exact ⟨rfl, HBZ.out⟩
  obtain ⟨h60, hrg, h12, hlb⟩ := hbr rfl
  have H60 := Lib.hid h60
  have HRG := Lib.hid hrg
  have H12 := Lib.hid h12
  have HRO := Lib.hid (rsOk_of hrg h12)
  have HLN := Lib.hid (list_len hlb)
  have HNZ := Lib.hid (list_nz hlb)
  clear hbr h60 hrg h12 hlb
  go_upto_region 3 with (fail)
  refine wp_region_mix 17 [0, 1, 2, 3, 4, 5, 6, 7, 8, 9, 10, 11, 12, 13, 14, 15, 16] [] [(true, 0), (true, 1), (true, 2), (true, 4), (true, 5), (true, 6), (false, 3), (false, 7), (false, 8), (true, 9), (true, 10), (true, 11), (true, 12), (true, 14), (true, 15), (true, 16), (false, 13), (false, 17), (false, 18), (false, 19), (false, 20), (false, 21), (false, 22), (false, 23)] (fun w' => Below w1.heap.size w1 w') (by kernel_rfl) (by kernel_rfl) ?_
  rintro D hD
  have HSD : Hid (Below w1.heap.size w1 D) := by rw [hD]; exact (Below.refl _ _).drew
  clear hD
  refine ⟨HSD.out, ?_⟩
  have HS := Lib.hid (fun (w' : World) (h : Below w1.heap.size w1 w') => (HP1.out.below h).cell)
  iterate 6 (refine wpMix_q (v := ?_) rfl rfl (fun w' hS => ?_) ?_; rotate_left; (focus ((try obtain s0 := HS.out _ (hS rfl)); clear hS; go_simp; try with_reducible rfl; done)); (try simp only [Act.put, List.setIfInBounds_toArray, List.set_cons_zero, List.set_cons_succ]))
  refine wpMix_e rfl rfl (fun K hK => ?_)
  go_simp
  refine (prun_any _ _ _ I Rs l _ (HV.out.below (bchain HB1.out HSD.out)) (HRS.out.below (bchain HB1.out HSD.out)) (HVW.out.below (bchain HB1.out HSD.out)) HRO.out HLN.out HNZ.out).mono ?_
  rintro e Y1 ⟨⟨vv, rfl, ho⟩, hb⟩
  obtain ⟨A1, n1, c1, rfl⟩ := ownL_formN ho
  have HSY1 := Lib.hid (bchain HSD.out hb)
  have HXY1 := Lib.hid hb
  have HO1 := Lib.hid ho.rd
  refine hK.out _ _ (fun _ => HSY1.out) ?_
  clear hK K ho hb
  (try simp only [Act.put, List.setIfInBounds_toArray, List.set_cons_zero, List.set_cons_succ])
  refine wpMix_e rfl rfl (fun K hK => ?_)
  go_simp
  refine (rrun_any _ _ _ I Rs l _ (HV.out.below (bchain HB1.out HSY1.out)) (HRS.out.below (bchain HB1.out HSY1.out)) (HVW.out.below (bchain HB1.out HSY1.out)) HRO.out HLN.out HNZ.out).mono ?_
  rintro e Y2 ⟨⟨vv, rfl, ho⟩, hb⟩
  obtain ⟨A2, n2, c2, rfl⟩ := ownL_formN ho
  have HSY2 := Lib.hid (bchain HSY1.out hb)
  have HXY2 := Lib.hid hb
  have HO2 := Lib.hid ho.rd
  refine hK.out _ _ (fun _ => HSY2.out) ?_
  clear hK K ho hb
  (try simp only [Act.put, List.setIfInBounds_toArray, List.set_cons_zero, List.set_cons_succ])
  refine wpMix_e rfl rfl (fun K hK => ?_)
  go_simp
  refine (rsameL_same _ _ _ _ (HO1.out.below HXY2.out) HO2.out).mono ?_
  rintro e Y3 ⟨rfl, hb⟩
  refine hK.out _ _ (fun _ => bchain HSY2.out hb) ?_
  clear hK K
  (try simp only [Act.put, List.setIfInBounds_toArray, List.set_cons_zero, List.set_cons_succ])
  have HSY3 := Lib.hid (bchain HSY2.out hb)
  clear hb
  iterate 7 (refine wpMix_q (v := ?_) rfl rfl (fun w' hS => ?_) ?_; rotate_left; (focus ((try obtain s0 := HS.out _ (hS rfl)); clear hS; go_simp; try with_reducible rfl; done)); (try simp only [Act.put, List.setIfInBounds_toArray, List.set_cons_zero, List.set_cons_succ]))
  clear HS
  refine wpMix_e rfl rfl (fun K hK => ?_)
  go_simp
  refine (plast_any _ _ _ I Rs l _ (HV.out.below (bchain HB1.out HSY3.out)) (HRS.out.below (bchain HB1.out HSY3.out)) (HVW.out.below (bchain HB1.out HSY3.out)) HRO.out HLN.out HNZ.out).mono ?_
  rintro e Y4 ⟨⟨vv, rfl, ho⟩, hb⟩
  obtain ⟨A4, n4, c4, rfl⟩ := rdI_slice ho
  have HSY4 := Lib.hid (bchain HSY3.out hb)
  have HXY4 := Lib.hid hb
  have HO4 := Lib.hid ho
  refine hK.out _ _ (fun _ => HSY4.out) ?_
  clear hK K ho hb
  (try simp only [Act.put, List.setIfInBounds_toArray, List.set_cons_zero, List.set_cons_succ])
  refine wpMix_e rfl rfl (fun K hK => ?_)
  go_simp
  refine (rlast_any _ _ _ I Rs l _ (HV.out.below (bchain HB1.out HSY4.out)) (HRS.out.below (bchain HB1.out HSY4.out)) (HVW.out.below (bchain HB1.out HSY4.out)) HRO.out HLN.out HNZ.out).mono ?_
  rintro e Y5 ⟨⟨vv, rfl, ho⟩, hb⟩
  obtain ⟨A5, n5, c5, rfl⟩ := rdI_slice ho
  have HSY5 := Lib.hid (bchain HSY4.out hb)
  have HXY5 := Lib.hid hb
  have HO5 := Lib.hid ho
  refine hK.out _ _ (fun _ => HSY5.out) ?_
  clear hK K ho hb
  (try simp only [Act.put, List.setIfInBounds_toArray, List.set_cons_zero, List.set_cons_succ])
  refine wpMix_e rfl rfl (fun K hK => ?_)
  go_simp
  refine (rsame_same _ _ _ _ (HO4.out.below HXY5.out) HO5.out).mono ?_
  rintro e Y6 ⟨rfl, hb⟩
  refine hK.out _ _ (fun _ => bchain HSY5.out hb) ?_
  clear hK K
  (try simp only [Act.put, List.setIfInBounds_toArray, List.set_cons_zero, List.set_cons_succ])
  have HSY6 := Lib.hid (bchain HSY5.out hb)
  clear hb
  iterate 2 (refine wpMix_e rfl rfl (fun K hK => ?_); go_simp; refine hK.out _ _ (fun h => absurd h (by decide)) ?_; clear hK K; (try simp only [Act.put, List.setIfInBounds_toArray, List.set_cons_zero, List.set_cons_succ]))
  refine wpMix_e rfl rfl (fun K hK => ?_)
  go_simp
  refine (awake_any _).mono ?_
  rintro e Y7 ⟨rfl, hb⟩
  refine hK.out _ _ (fun _ => bchain HSY6.out hb) ?_
  clear hK K
  (try simp only [Act.put, List.setIfInBounds_toArray, List.set_cons_zero, List.set_cons_succ])
  have HSY7 := Lib.hid (bchain HSY6.out hb)
  clear hb
  iterate 2 (refine wpMix_e rfl rfl (fun K hK => ?_); go_simp; refine hK.out _ _ (fun h => absurd h (by decide)) ?_; clear hK K; (try simp only [Act.put, List.setIfInBounds_toArray, List.set_cons_zero, List.set_cons_succ]))
  refine wpMix_nil ?_
  refine NoPanic.normal ?_
  go_wp2_with fail
  go_ret
  exact ⟨rfl, bchain HB1.out HSY7.out⟩
end Go.Proofs.Ytdijlakeonionaa
