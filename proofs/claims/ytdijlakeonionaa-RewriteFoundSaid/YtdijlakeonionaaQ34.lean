/-
  The statements' walks: RewriteChecks, RewriteSites.
-/
import Derived.Test.YtdijlakeonionaaQ33
namespace Go.Proofs.Ytdijlakeonionaa
open Go.ChangeShapes Go.WideShapes Go.ChangeAt Go.RowKit
theorem sameB_self (l : List Int) : sameB l l = true := (sameB_iff l l).2 rfl
set_option maxHeartbeats 8000000 in
set_option maxRecDepth 100000 in
theorem checks_walk (v vr : Value) (I : List PPh) (R : PRule) (w : World) (hv : RdV w v I) (hr : RdR w vr R) :
    Calls Try.prog 3 #[v, vr] w fun e w' => e = .returned (.bool true) ∧ Below w.heap.size w w' := by
  obtain ⟨u, rfl, hp⟩ := id hv
  obtain ⟨A0, n0, c0, rfl, _, _, _, _⟩ := hp.op
  obtain ⟨vf, vt, vl, vg, rfl, hf, ht, hl, hg⟩ := id hr
  obtain ⟨A1, n1, c1, rfl, _, _, HN1, HR1⟩ := hf.op
  obtain ⟨A2, n2, c2, rfl, _, _, HN2, HR2⟩ := ht.op
  obtain ⟨A3, n3, c3, rfl, _, _, HN3, _⟩ := hl.op
  obtain ⟨A4, n4, c4, rfl, _, _, HN4, _⟩ := hg.op
  have HV := Lib.hid hv
  have HRR := Lib.hid hr
  have HF := Lib.hid hf
  have HT := Lib.hid ht
  clear hp hf ht hl hg hv hr
  obtain ⟨beg, hbeg⟩ : ∃ x, R.beg = x := ⟨_, rfl⟩
  obtain ⟨fin, hfin⟩ : ∃ x, R.fin = x := ⟨_, rfl⟩
  rw [hbeg, hfin] at HRR ⊢
  clear hbeg hfin
  go_enter Try.func3, Try.ntmps3
  go_upto_region 1 with (fail)
  generalize hW : World.alloc (World.alloc w _) _ = W
  have HBW : Hid (Below w.heap.size w W) := by rw [← hW]; exact bchain (al_below _ _) (al_below _ _)
  have HP : Hid (VBlk W w.heap.size (.slice A0 n0 c0)) := by rw [← hW]; exact VBlk.below (heap_alloc_new w _) (al_below _ _)
  have HQ : Hid (RBlk W (w.heap.size + 1) (.slice A1 n1 c1) (.slice A2 n2 c2) (.slice A3 n3 c3) (.slice A4 n4 c4) beg fin) := by
    have h := heap_alloc_new (w.alloc (.cells #[.slice A0 n0 c0] 24)) (.cells #[.slice A1 n1 c1, .slice A2 n2 c2, .slice A3 n3 c3, .slice A4 n4 c4, .bool beg, .bool fin] 28)
    rw [World.size_alloc] at h
    rw [← hW]; exact h
  clear hW
  have y0 := HP.out.cell
  have y1 := HP.out.lt
  go_wp2_with fail
  clear y0 y1
  refine (sound_any _ I _ (HV.out.below HBW.out)).mono ?_
  rintro e w1 ⟨⟨b, rfl, hb60⟩, hb1⟩
  have HB1 := Lib.hid (bchain HBW.out hb1)
  have HP1 := Lib.hid (HP.out.below hb1)
  have HQ1 := Lib.hid (HQ.out.below hb1)
  clear hb1 HP HQ HBW
  cases b
  · skip
    go_wp2_with fail
    refine (awake_any _).mono ?_
    rintro e wz ⟨rfl, hbz⟩
    have HBZ := Lib.hid (bchain (HB1).out hbz)
    clear hbz
    go_wp2_with fail
    go_ret
    exact ⟨rfl, HBZ.out⟩
  have H60 := Lib.hid (hb60 rfl)
  clear hb60
  obtain ⟨z0, z1, z2, z3, z4, z5⟩ := HQ1.out.cells
  have zl := HQ1.out.lt
  by_cases h1 : 100 < n1
  · have d1 : decide ((100 : Int) < (n1 : Int)) = true := by simp; omega
    have d1' : decide (100 < n1) = true := by simp; omega
    go_wp2_with fail
    refine (awake_any _).mono ?_
    rintro e wz ⟨rfl, hbz⟩
    have HBZ := Lib.hid (bchain (HB1).out hbz)
    clear hbz
    go_wp2_with fail
    go_ret
    exact ⟨rfl, HBZ.out⟩
  have d1 : decide ((100 : Int) < (n1 : Int)) = false := by simp; omega
  have d1' : decide (100 < n1) = false := by simp; omega
  by_cases h2 : 100 < n2
  · have d2 : decide ((100 : Int) < (n2 : Int)) = true := by simp; omega
    have d2' : decide (100 < n2) = true := by simp; omega
    go_wp2_with fail
    refine (awake_any _).mono ?_
    rintro e wz ⟨rfl, hbz⟩
    have HBZ := Lib.hid (bchain (HB1).out hbz)
    clear hbz
    go_wp2_with fail
    go_ret
    exact ⟨rfl, HBZ.out⟩
  have d2 : decide ((100 : Int) < (n2 : Int)) = false := by simp; omega
  have d2' : decide (100 < n2) = false := by simp; omega
  by_cases h3 : 100 < n3
  · have d3 : decide ((100 : Int) < (n3 : Int)) = true := by simp; omega
    have d3' : decide (100 < n3) = true := by simp; omega
    go_wp2_with fail
    refine (awake_any _).mono ?_
    rintro e wz ⟨rfl, hbz⟩
    have HBZ := Lib.hid (bchain (HB1).out hbz)
    clear hbz
    go_wp2_with fail
    go_ret
    exact ⟨rfl, HBZ.out⟩
  have d3 : decide ((100 : Int) < (n3 : Int)) = false := by simp; omega
  have d3' : decide (100 < n3) = false := by simp; omega
  by_cases h4 : 100 < n4
  · have d4 : decide ((100 : Int) < (n4 : Int)) = true := by simp; omega
    have d4' : decide (100 < n4) = true := by simp; omega
    go_wp2_with fail
    refine (awake_any _).mono ?_
    rintro e wz ⟨rfl, hbz⟩
    have HBZ := Lib.hid (bchain (HB1).out hbz)
    clear hbz
    go_wp2_with fail
    go_ret
    exact ⟨rfl, HBZ.out⟩
  have d4 : decide ((100 : Int) < (n4 : Int)) = false := by simp; omega
  have d4' : decide (100 < n4) = false := by simp; omega
  have HFL : Hid (R.fr.length ≤ 100000) := by rw [Hid, HN1.out]; omega
  clear h1 h2 h3 h4
  go_upto_region 3 with (fail)
  clear z0 z1 z2 z3 z4 z5 zl d1 d1' d2 d2' d3 d3' d4 d4'
  refine wp_region_mix 5 [0, 1, 2, 3, 4] [] [(true, 0), (true, 1), (true, 3), (true, 4), (false, 2), (false, 5), (false, 6), (false, 7), (false, 8), (false, 9), (false, 10)] (fun w' => Below w1.heap.size w1 w') (by kernel_rfl) (by kernel_rfl) ?_
  rintro D hD
  have HSD : Hid (Below w1.heap.size w1 D) := by rw [hD]; exact (Below.refl _ _).drew
  clear hD
  refine ⟨HSD.out, ?_⟩
  have HS := Lib.hid (fun (w' : World) (h : Below w1.heap.size w1 w') => And.intro (HP1.out.below h).cell (HQ1.out.below h).cells)
  iterate 4 (refine wpMix_q (v := ?_) rfl rfl (fun w' hS => ?_) ?_; rotate_left; (focus ((try obtain ⟨s0, z0, z1, z2, z3, z4, z5⟩ := HS.out _ (hS rfl)); clear hS; go_simp; try with_reducible rfl; done)); (try simp only [Act.put, List.setIfInBounds_toArray, List.set_cons_zero, List.set_cons_succ]))
  clear HS
  refine wpMix_e rfl rfl (fun K hK => ?_)
  go_simp
  refine (pchkR_any _ _ I R _ (HV.out.below (bchain HB1.out HSD.out)) (HRR.out.below (bchain HB1.out HSD.out)) HFL.out).mono ?_
  rintro e Y1 ⟨rfl, hb⟩
  refine hK.out _ _ (fun _ => bchain HSD.out hb) ?_
  clear hK K
  (try simp only [Act.put, List.setIfInBounds_toArray, List.set_cons_zero, List.set_cons_succ])
  have HSY1 := Lib.hid (bchain HSD.out hb)
  clear hb
  refine wpMix_e rfl rfl (fun K hK => ?_)
  go_simp
  refine (rchkR_any _ _ I R _ (HV.out.below (bchain HB1.out HSY1.out)) (HRR.out.below (bchain HB1.out HSY1.out)) (Nat.le_trans H60.out (by decide))).mono ?_
  rintro e Y2 ⟨rfl, hb⟩
  refine hK.out _ _ (fun _ => bchain HSY1.out hb) ?_
  clear hK K
  (try simp only [Act.put, List.setIfInBounds_toArray, List.set_cons_zero, List.set_cons_succ])
  have HSY2 := Lib.hid (bchain HSY1.out hb)
  clear hb
  have deq : (chkR I R == chkR I R) = true := by simp
  iterate 2 (refine wpMix_e rfl rfl (fun K hK => ?_); go_simp; refine hK.out _ _ (fun h => absurd h (by decide)) ?_; clear hK K; (try simp only [Act.put, List.setIfInBounds_toArray, List.set_cons_zero, List.set_cons_succ]))
  clear deq
  refine wpMix_e rfl rfl (fun K hK => ?_)
  go_simp
  refine (awake_any _).mono ?_
  rintro e Y3 ⟨rfl, hb⟩
  refine hK.out _ _ (fun _ => bchain HSY2.out hb) ?_
  clear hK K
  (try simp only [Act.put, List.setIfInBounds_toArray, List.set_cons_zero, List.set_cons_succ])
  have HSY3 := Lib.hid (bchain HSY2.out hb)
  clear hb
  iterate 2 (refine wpMix_e rfl rfl (fun K hK => ?_); go_simp; refine hK.out _ _ (fun h => absurd h (by decide)) ?_; clear hK K; (try simp only [Act.put, List.setIfInBounds_toArray, List.set_cons_zero, List.set_cons_succ]))
  refine wpMix_nil ?_
  refine NoPanic.normal ?_
  go_wp2_with fail
  go_ret
  exact ⟨rfl, bchain HB1.out HSY3.out⟩
set_option maxHeartbeats 8000000 in
set_option maxRecDepth 100000 in
theorem sites_walk (v vr vw : Value) (I : List PPh) (R : PRule) (l : List Int) (w : World) (hv : RdV w v I) (hr : RdR w vr R) (hw : RdI w vw l) :
    Calls Try.prog 4 #[v, vr, vw] w fun e w' => e = .returned (.bool true) ∧ Below w.heap.size w w' := by
  have HVW := Lib.hid hw
  obtain ⟨Aw, nw, cw, rfl⟩ := rdI_slice hw
  clear hw
  obtain ⟨u, rfl, hp⟩ := id hv
  obtain ⟨A0, n0, c0, rfl, _, _, _, _⟩ := hp.op
  obtain ⟨vf, vt, vl, vg, rfl, hf, ht, hl, hg⟩ := id hr
  obtain ⟨A1, n1, c1, rfl, _, _, HN1, HR1⟩ := hf.op
  obtain ⟨A2, n2, c2, rfl, _, _, HN2, HR2⟩ := ht.op
  obtain ⟨A3, n3, c3, rfl, _, _, HN3, _⟩ := hl.op
  obtain ⟨A4, n4, c4, rfl, _, _, HN4, _⟩ := hg.op
  have HV := Lib.hid hv
  have HRR := Lib.hid hr
  have HF := Lib.hid hf
  have HT := Lib.hid ht
  clear hp hf ht hl hg hv hr
  obtain ⟨beg, hbeg⟩ : ∃ x, R.beg = x := ⟨_, rfl⟩
  obtain ⟨fin, hfin⟩ : ∃ x, R.fin = x := ⟨_, rfl⟩
  rw [hbeg, hfin] at HRR ⊢
  clear hbeg hfin
  go_enter Try.func4, Try.ntmps4
  go_upto_region 1 with (fail)
  generalize hW : World.alloc (World.alloc w _) _ = W
  have HBW : Hid (Below w.heap.size w W) := by rw [← hW]; exact bchain (al_below _ _) (al_below _ _)
  have HP : Hid (VBlk W w.heap.size (.slice A0 n0 c0)) := by rw [← hW]; exact VBlk.below (heap_alloc_new w _) (al_below _ _)
  have HQ : Hid (RBlk W (w.heap.size + 1) (.slice A1 n1 c1) (.slice A2 n2 c2) (.slice A3 n3 c3) (.slice A4 n4 c4) beg fin) := by
    have h := heap_alloc_new (w.alloc (.cells #[.slice A0 n0 c0] 24)) (.cells #[.slice A1 n1 c1, .slice A2 n2 c2, .slice A3 n3 c3, .slice A4 n4 c4, .bool beg, .bool fin] 28)
    rw [World.size_alloc] at h
    rw [← hW]; exact h
  clear hW
  have y0 := HP.out.cell
  have y1 := HP.out.lt
  obtain ⟨z0, z1, z2, z3, z4, z5⟩ := HQ.out.cells
  have zl := HQ.out.lt
  go_wp2_with fail
  clear y0 y1 z0 z1 z2 z3 z4 z5 zl
  refine (right_any _ _ _ I R l _ (HV.out.below HBW.out) (HRR.out.below HBW.out) ((HVW).out.below HBW.out)).mono ?_
  rintro e w1 ⟨⟨b, rfl, hbr⟩, hb1⟩
  have HB1 := Lib.hid (bchain HBW.out hb1)
  have HP1 := Lib.hid (HP.out.below hb1)
  have HQ1 := Lib.hid (HQ.out.below hb1)
  clear hb1 HP HQ HBW
  cases b
  · skip
    go_wp2_with fail
    refine (awake_any _).mono ?_
    rintro e wz ⟨rfl, hbz⟩
    have HBZ := Lib.hid (bchain (HB1).out hbz)
    clear hbz
    go_wp2_with fail
    go_ret
    exact ⟨rfl, HBZ.out⟩
  obtain ⟨h60, hck0, hlb⟩ := hbr rfl
  have H60 := Lib.hid h60
  have HRG : Hid (RGood I R) := rgood_of hck0
  have HLB := Lib.hid hlb
  have HLN := Lib.hid (list_len hlb)
  have HNZ := Lib.hid (list_nz hlb)
  clear hbr h60 hck0 hlb
  go_upto_region 3 with (fail)
  refine wp_region_mix 17 [0, 1, 2, 3, 4, 5, 6, 7, 8, 9, 10, 11, 12, 13, 14, 15, 16] [] [(true, 0), (true, 1), (true, 2), (true, 4), (true, 5), (true, 6), (false, 3), (false, 7), (false, 8), (true, 9), (true, 10), (true, 11), (true, 12), (true, 14), (true, 15), (true, 16), (false, 13), (false, 17), (false, 18), (false, 19), (false, 20), (false, 21), (false, 22), (false, 23)] (fun w' => Below w1.heap.size w1 w') (by kernel_rfl) (by kernel_rfl) ?_
  rintro D hD
  have HSD : Hid (Below w1.heap.size w1 D) := by rw [hD]; exact (Below.refl _ _).drew
  clear hD
  refine ⟨HSD.out, ?_⟩
  have HS := Lib.hid (fun (w' : World) (h : Below w1.heap.size w1 w') => And.intro (HP1.out.below h).cell (HQ1.out.below h).cells)
  iterate 6 (refine wpMix_q (v := ?_) rfl rfl (fun w' hS => ?_) ?_; rotate_left; (focus ((try obtain ⟨s0, z0, z1, z2, z3, z4, z5⟩ := HS.out _ (hS rfl)); clear hS; go_simp; try with_reducible rfl; done)); (try simp only [Act.put, List.setIfInBounds_toArray, List.set_cons_zero, List.set_cons_succ]))
  refine wpMix_e rfl rfl (fun K hK => ?_)
  go_simp
  refine (psites_any _ _ _ I R l _ (HV.out.below (bchain HB1.out HSD.out)) (HRR.out.below (bchain HB1.out HSD.out)) (HVW.out.below (bchain HB1.out HSD.out)) HRG.out.ok HLN.out).mono ?_
  rintro e Y1 ⟨⟨vv, rfl, ho⟩, hb⟩
  obtain ⟨A1, n1, c1, rfl⟩ := own_sliceN ho
  have HSY1 := Lib.hid (bchain HSD.out hb)
  have HXY1 := Lib.hid hb
  have HO1 := Lib.hid ho.rd
  refine hK.out _ _ (fun _ => HSY1.out) ?_
  clear hK K ho hb
  (try simp only [Act.put, List.setIfInBounds_toArray, List.set_cons_zero, List.set_cons_succ])
  refine wpMix_e rfl rfl (fun K hK => ?_)
  go_simp
  refine (rsites_any _ _ _ I R l _ (HV.out.below (bchain HB1.out HSY1.out)) (HRR.out.below (bchain HB1.out HSY1.out)) (HVW.out.below (bchain HB1.out HSY1.out)) HRG.out.ok HLN.out).mono ?_
  rintro e Y2 ⟨⟨vv, rfl, ho⟩, hb⟩
  obtain ⟨A2, n2, c2, rfl⟩ := own_sliceN ho
  have HSY2 := Lib.hid (bchain HSY1.out hb)
  have HXY2 := Lib.hid hb
  have HO2 := Lib.hid ho.rd
  refine hK.out _ _ (fun _ => HSY2.out) ?_
  clear hK K ho hb
  (try simp only [Act.put, List.setIfInBounds_toArray, List.set_cons_zero, List.set_cons_succ])
  refine wpMix_e rfl rfl (fun K hK => ?_)
  go_simp
  refine (rsame_b _ _ _ _ _ (HO1.out.below HXY2.out) HO2.out).mono ?_
  rintro e Y3 ⟨rfl, hb⟩
  refine hK.out _ _ (fun _ => bchain HSY2.out hb) ?_
  clear hK K
  (try simp only [Act.put, List.setIfInBounds_toArray, List.set_cons_zero, List.set_cons_succ])
  have HSY3 := Lib.hid (bchain HSY2.out hb)
  clear hb
  rw [sameB_self]
  iterate 7 (refine wpMix_q (v := ?_) rfl rfl (fun w' hS => ?_) ?_; rotate_left; (focus ((try obtain ⟨s0, z0, z1, z2, z3, z4, z5⟩ := HS.out _ (hS rfl)); clear hS; go_simp; try with_reducible rfl; done)); (try simp only [Act.put, List.setIfInBounds_toArray, List.set_cons_zero, List.set_cons_succ]))
  refine wpMix_e rfl rfl (fun K hK => ?_)
  go_simp
  refine (papply_any _ _ _ I R l _ (HV.out.below (bchain HB1.out HSY3.out)) (HRR.out.below (bchain HB1.out HSY3.out)) (HVW.out.below (bchain HB1.out HSY3.out)) HRG.out.ok HLN.out HNZ.out).mono ?_
  rintro e Y4 ⟨⟨vv, rfl, ho⟩, hb⟩
  obtain ⟨A4, n4, c4, rfl⟩ := own_sliceN ho
  have HSY4 := Lib.hid (bchain HSY3.out hb)
  have HXY4 := Lib.hid hb
  have HO4 := Lib.hid ho.rd
  refine hK.out _ _ (fun _ => HSY4.out) ?_
  clear hK K ho hb
  (try simp only [Act.put, List.setIfInBounds_toArray, List.set_cons_zero, List.set_cons_succ])
  refine wpMix_e rfl rfl (fun K hK => ?_)
  go_simp
  refine (rapply_any _ _ _ I R l _ (HV.out.below (bchain HB1.out HSY4.out)) (HRR.out.below (bchain HB1.out HSY4.out)) (HVW.out.below (bchain HB1.out HSY4.out)) HRG.out.ok HLN.out HNZ.out HRG.out.nd).mono ?_
  rintro e Y5 ⟨⟨vv, rfl, ho⟩, hb⟩
  obtain ⟨A5, n5, c5, rfl⟩ := own_sliceN ho
  have HSY5 := Lib.hid (bchain HSY4.out hb)
  have HXY5 := Lib.hid hb
  have HO5 := Lib.hid ho.rd
  refine hK.out _ _ (fun _ => HSY5.out) ?_
  clear hK K ho hb
  (try simp only [Act.put, List.setIfInBounds_toArray, List.set_cons_zero, List.set_cons_succ])
  refine wpMix_e rfl rfl (fun K hK => ?_)
  go_simp
  refine (rsame_b _ _ _ _ _ (HO4.out.below HXY5.out) HO5.out).mono ?_
  rintro e Y6 ⟨rfl, hb⟩
  refine hK.out _ _ (fun _ => bchain HSY5.out hb) ?_
  clear hK K
  (try simp only [Act.put, List.setIfInBounds_toArray, List.set_cons_zero, List.set_cons_succ])
  have HSY6 := Lib.hid (bchain HSY5.out hb)
  clear hb
  rw [sameB_self]
  clear HS
  iterate 2 (refine wpMix_e rfl rfl (fun K hK => ?_); go_simp; refine hK.out _ _ (fun h => absurd h (by decide)) ?_; clear hK K; (try simp only [Act.put, List.setIfInBounds_toArray, List.set_cons_zero, List.set_cons_succ]))
  refine wpMix_e rfl rfl (fun K hK => ?_)
  go_simp
  refine (awake_any _).mono ?_
  rintro e Y7 ⟨rfl, hb⟩
  refine hK.out _ _ (fun _ => bchain HSY6.out hb) ?_
  clear hK K
  (try simp only [Act.put, List.setIfInBounds_toArray, List.set_cons_zero, List.set_cons_succ])
  have HSY7 := Lib.hid (bchain HSY6.out hb)
  clear hb
  iterate 2 (refine wpMix_e rfl rfl (fun K hK => ?_); go_simp; refine hK.out _ _ (fun h => absurd h (by decide)) ?_; clear hK K; (try simp only [Act.put, List.setIfInBounds_toArray, List.set_cons_zero, List.set_cons_succ]))
  refine wpMix_nil ?_
  refine NoPanic.normal ?_
  go_wp2_with fail
  go_ret
  exact ⟨rfl, bchain HB1.out HSY7.out⟩
end Go.Proofs.Ytdijlakeonionaa
