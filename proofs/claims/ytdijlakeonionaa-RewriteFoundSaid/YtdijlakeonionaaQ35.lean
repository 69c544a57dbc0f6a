/-
  The statements' walks: RewriteBacks.
-/
import Derived.Test.YtdijlakeonionaaQ34
namespace Go.Proofs.Ytdijlakeonionaa
open Go.ChangeShapes Go.WideShapes Go.ChangeAt Go.RowKit
theorem two_cells {w : World} {B : Nat} {u x : Value} {t : TypeId} (h : w.heap[B]? = some (.cells #[u, x] t (0, 0))) : w.cell? ⟨B, 0, none⟩ = some u ∧ w.cell? ⟨B, 1, none⟩ = some x := by
  refine ⟨?_, ?_⟩ <;> rw [cell_of_row w B _ _ _ (0, 0) h] <;> rfl
theorem two_below {w w' : World} {B : Nat} {cs : Array Value} {t : TypeId} {m : Nat × Nat} (h : w.heap[B]? = some (.cells cs t m)) (hb : Below w.heap.size w w') : w'.heap[B]? = some (.cells cs t m) := (hb.block B (Array.getElem?_eq_some_iff.1 h).1).trans h
theorem rsameL_same (v u : Value) (a : List (List Int)) (w : World) (hv : RdL w v a) (hu : RdL w u a) :
    Calls Try.prog 22 #[v, u] w fun e w' => e = .returned (.bool true) ∧ Below w.heap.size w w' :=
  (rsameL_any v u a a w hv hu).mono fun _ _ h => ⟨by rw [h.1, decide_eq_true rfl], h.2⟩
set_option maxHeartbeats 8000000 in
set_option maxRecDepth 100000 in
theorem backs_walk (v vr vw : Value) (I : List PPh) (R : PRule) (l : List Int) (len : Int) (w : World) (hv : RdV w v I) (hr : RdR w vr R) (hw : RdI w vw l) :
    Calls Try.prog 5 #[v, vr, .agg #[vw, .int .i64 len]] w fun e w' => e = .returned (.bool true) ∧ Below w.heap.size w w' := by
  have HVW := Lib.hid hw
  obtain ⟨Aw, nw, cw, rfl⟩ := rdI_slice hw
  clear hw
  obtain ⟨u, rfl, hp⟩ := id hv
  obtain ⟨A0, n0, c0, rfl, _, _, _, _⟩ := hp.op
  obtain ⟨vf, vt, vl, vg, rfl, hf, ht, hl, hg⟩ := id hr
  obtain ⟨A1, n1, c1, rfl, _, _, HN1, HR1⟩ := hf.op
  obtain ⟨A2, n2, c2, rfl, _, _, HN2, HR2⟩ := ht.op
  obtain ⟨A3, n3, c3, rfl, _, _, HN3, _⟩ := hl.op
  obtain ⟨A4, n4, c4, rfl, _, _, HN4, _⟩ := hg.op
  have HV := Lib.hid hv
  have HRR := Lib.hid hr
  have HF := Lib.hid hf
  have HT := Lib.hid ht
  clear hp hf ht hl hg hv hr
  obtain ⟨beg, hbeg⟩ : ∃ x, R.beg = x := ⟨_, rfl⟩
  obtain ⟨fin, hfin⟩ : ∃ x, R.fin = x := ⟨_, rfl⟩
  rw [hbeg, hfin] at HRR ⊢
  clear hbeg hfin
  go_enter Try.func5, Try.ntmps5
  go_upto_region 1 with (fail)
  generalize hW : World.alloc (World.alloc (World.alloc w _) _) _ = W
  have HBW : Hid (Below w.heap.size w W) := by rw [← hW]; exact bchain (bchain (al_below _ _) (al_below _ _)) (al_below _ _)
  have HP : Hid (VBlk W w.heap.size (.slice A0 n0 c0)) := by rw [← hW]; exact VBlk.below (VBlk.below (heap_alloc_new w _) (al_below _ _)) (al_below _ _)
  have HQ : Hid (RBlk W (w.heap.size + 1) (.slice A1 n1 c1) (.slice A2 n2 c2) (.slice A3 n3 c3) (.slice A4 n4 c4) beg fin) := by
    have h := heap_alloc_new (w.alloc (.cells #[.slice A0 n0 c0] 24)) (.cells #[.slice A1 n1 c1, .slice A2 n2 c2, .slice A3 n3 c3, .slice A4 n4 c4, .bool beg, .bool fin] 28)
    rw [World.size_alloc] at h
    rw [← hW]; exact RBlk.below h (al_below _ _)
  have HZ3 : Hid (W.heap[w.heap.size + 1 + 1]? = some (.cells #[.slice Aw nw cw, .int .i64 len] 38 (0, 0))) := by
    have h := heap_alloc_new ((w.alloc (.cells #[.slice A0 n0 c0] 24)).alloc (.cells #[.slice A1 n1 c1, .slice A2 n2 c2, .slice A3 n3 c3, .slice A4 n4 c4, .bool beg, .bool fin] 28)) (.cells #[.slice Aw nw cw, .int .i64 len] 38)
    rw [World.size_alloc, World.size_alloc] at h
    rw [← hW]; exact h
  clear hW
  obtain ⟨t0, t1⟩ := two_cells HZ3.out
  have tl := (Array.getElem?_eq_some_iff.1 HZ3.out).1
  have y0 := HP.out.cell
  have y1 := HP.out.lt
  obtain ⟨z0, z1, z2, z3, z4, z5⟩ := HQ.out.cells
  have zl := HQ.out.lt
  go_wp2_with fail
  clear y0 y1 z0 z1 z2 z3 z4 z5 zl t0 t1 tl
  refine (right_any _ _ _ I R l _ (HV.out.below HBW.out) (HRR.out.below HBW.out) (HVW.out.below HBW.out)).mono ?_
  rintro e w1 ⟨⟨b, rfl, hbr⟩, hb1⟩
  have HB1 := Lib.hid (bchain HBW.out hb1)
  have HP1 := Lib.hid (HP.out.below hb1)
  have HQ1 := Lib.hid (HQ.out.below hb1)
  have HT1 := Lib.hid (two_below HZ3.out hb1)
  clear hb1 HP HQ HBW HZ3
  cases b
  · skip
    go_wp2_with fail
    refine (awake_any _).mono ?_
    rintro e wz ⟨rfl, hbz⟩
    have HBZ := Lib.hid (bchain (HB1).out hbz)
    clear hbz
    go_wp2_with fail
    go_ret
    exact ⟨rfl, HBZ.out⟩
  obtain ⟨h60, hck0, hlb⟩ := hbr rfl
  have H60 := Lib.hid h60
  have HRG : Hid (RGood I R) := rgood_of hck0
  have HL24 : Hid (l.length ≤ 24) := (listB_iff.1 hlb).2
  clear hbr h60 hck0 hlb
  obtain ⟨t0, t1⟩ := two_cells HT1.out
  have tl := (Array.getElem?_eq_some_iff.1 HT1.out).1
  have y0 := HP1.out.cell
  have y1 := HP1.out.lt
  by_cases h0 : 0 ≤ len
  · have d0 : decide (0 ≤ len) = true := decide_eq_true h0
    by_cases h1 : len ≤ 24
    · have d1 : decide (len ≤ 24) = true := decide_eq_true h1
      go_wp2_with fail
      clear y0 y1 t0 t1 tl
      refine (rfew_any _ I len _ (HV.out.below HB1.out) (Nat.le_trans H60.out (by decide))).mono ?_
      rintro e w2 ⟨rfl, hb2⟩
      have HX1 := Lib.hid hb2
      have HBX := Lib.hid (bchain HB1.out hb2)
      clear hb2
      cases hf : fewB I len
      · clear hf
        go_wp2_with fail
        refine (awake_any _).mono ?_
        rintro e wz ⟨rfl, hbz⟩
        have HBZ := Lib.hid (bchain (HBX).out hbz)
        clear hbz
        go_wp2_with fail
        go_ret
        exact ⟨rfl, HBZ.out⟩
      · have HFEW : Hid (0 ≤ len → len ≤ 24 → cF I.length len.toNat ≤ 60000) := fun _ _ => few_len (by omega) (by rw [Int.toNat_of_nonneg h0]; exact hf)
        obtain ⟨t0, t1⟩ := two_cells (two_below HT1.out HX1.out)
        have tl := (Array.getElem?_eq_some_iff.1 (two_below HT1.out HX1.out)).1
        have y0 := (HP1.out.below HX1.out).cell
        have y1 := (HP1.out.below HX1.out).lt
        clear hf h0 h1
        go_upto_region 3 with (fail)
        clear d0 d1
        clear y0 y1 t0 t1 tl
        refine wp_region_mix 13 [0, 1, 2, 3, 4, 5, 6, 7, 8, 9, 10, 11, 12] [] [(true, 0), (true, 1), (true, 2), (true, 3), (true, 4), (true, 5), (true, 7), (true, 8), (true, 9), (true, 10), (true, 11), (true, 12), (false, 6), (false, 13), (false, 14), (false, 15), (false, 16), (false, 17), (false, 18)] (fun w' => Below w2.heap.size w2 w') (by kernel_rfl) (by kernel_rfl) ?_
        rintro D hD
        have HSD : Hid (Below w2.heap.size w2 D) := by rw [hD]; exact (Below.refl _ _).drew
        clear hD
        refine ⟨HSD.out, ?_⟩
        have HS := Lib.hid (fun (w' : World) (h : Below w2.heap.size w2 w') => And.intro (HP1.out.below (bchain HX1.out h)).cell (And.intro (HQ1.out.below (bchain HX1.out h)).cells (two_cells (two_below HT1.out (bchain HX1.out h)))))
        iterate 12 (refine wpMix_q (v := ?_) rfl rfl (fun w' hS => ?_) ?_; rotate_left; (focus ((try obtain ⟨s0, ⟨z0, z1, z2, z3, z4, z5⟩, t0, t1⟩ := HS.out _ (hS rfl)); clear hS; go_simp; try with_reducible rfl; done)); (try simp only [Act.put, List.setIfInBounds_toArray, List.set_cons_zero, List.set_cons_succ]))
        clear HS
        refine wpMix_e rfl rfl (fun K hK => ?_)
        go_simp
        refine (back_any _ _ _ I R l len _ (HV.out.below (bchain HBX.out HSD.out)) (HRR.out.below (bchain HBX.out HSD.out)) (HVW.out.below (bchain HBX.out HSD.out)) H60.out HRG.out HL24.out HFEW.out).mono ?_
        rintro e Y1 ⟨⟨vv, rfl, ho⟩, hb⟩
        obtain ⟨A7, n7, c7, rfl, _, _, _, _⟩ := id ho.op
        have HSY1 := Lib.hid (bchain HSD.out hb)
        have HXY1 := Lib.hid hb
        have HO7 := Lib.hid ho
        refine hK.out _ _ (fun _ => HSY1.out) ?_
        clear hK K ho hb
        (try simp only [Act.put, List.setIfInBounds_toArray, List.set_cons_zero, List.set_cons_succ])
        refine wpMix_e rfl rfl (fun K hK => ?_)
        go_simp
        refine (rback_any _ _ _ I R l len _ (HV.out.below (bchain HBX.out HSY1.out)) (HRR.out.below (bchain HBX.out HSY1.out)) (HVW.out.below (bchain HBX.out HSY1.out)) H60.out HRG.out HFEW.out).mono ?_
        rintro e Y2 ⟨⟨vv, rfl, ho⟩, hb⟩
        obtain ⟨A8, n8, c8, rfl, _, _, _, _⟩ := id ho.op
        have HSY2 := Lib.hid (bchain HSY1.out hb)
        have HXY2 := Lib.hid hb
        have HO8 := Lib.hid ho
        refine hK.out _ _ (fun _ => HSY2.out) ?_
        clear hK K ho hb
        (try simp only [Act.put, List.setIfInBounds_toArray, List.set_cons_zero, List.set_cons_succ])
        refine wpMix_e rfl rfl (fun K hK => ?_)
        go_simp
        refine (rsameL_same _ _ _ _ (HO7.out.below HXY2.out) HO8.out).mono ?_
        rintro e Y3 ⟨rfl, hb⟩
        refine hK.out _ _ (fun _ => bchain HSY2.out hb) ?_
        clear hK K
        (try simp only [Act.put, List.setIfInBounds_toArray, List.set_cons_zero, List.set_cons_succ])
        have HSY3 := Lib.hid (bchain HSY2.out hb)
        clear hb
        iterate 1 (refine wpMix_e rfl rfl (fun K hK => ?_); go_simp; refine hK.out _ _ (fun h => absurd h (by decide)) ?_; clear hK K; (try simp only [Act.put, List.setIfInBounds_toArray, List.set_cons_zero, List.set_cons_succ]))
        refine wpMix_e rfl rfl (fun K hK => ?_)
        go_simp
        refine (awake_any _).mono ?_
        rintro e Y4 ⟨rfl, hb⟩
        refine hK.out _ _ (fun _ => bchain HSY3.out hb) ?_
        clear hK K
        (try simp only [Act.put, List.setIfInBounds_toArray, List.set_cons_zero, List.set_cons_succ])
        have HSY4 := Lib.hid (bchain HSY3.out hb)
        clear hb
        iterate 2 (refine wpMix_e rfl rfl (fun K hK => ?_); go_simp; refine hK.out _ _ (fun h => absurd h (by decide)) ?_; clear hK K; (try simp only [Act.put, List.setIfInBounds_toArray, List.set_cons_zero, List.set_cons_succ]))
        refine wpMix_nil ?_
        refine NoPanic.normal ?_
        go_wp2_with fail
        go_ret
        exact ⟨rfl, bchain HBX.out HSY4.out⟩
    · have d1 : decide (len ≤ 24) = false := decide_eq_false h1
      have HFEW : Hid (0 ≤ len → len ≤ 24 → cF I.length len.toNat ≤ 60000) := fun _ h => absurd h h1
      have HX1 : Hid (Below w1.heap.size w1 w1) := Below.refl _ _
      have HBX := HB1
      clear h0 h1
      go_upto_region 3 with (fail)
      clear d0 d1
      clear y0 y1 t0 t1 tl
      refine wp_region_mix 13 [0, 1, 2, 3, 4, 5, 6, 7, 8, 9, 10, 11, 12] [] [(true, 0), (true, 1), (true, 2), (true, 3), (true, 4), (true, 5), (true, 7), (true, 8), (true, 9), (true, 10), (true, 11), (true, 12), (false, 6), (false, 13), (false, 14), (false, 15), (false, 16), (false, 17), (false, 18)] (fun w' => Below w1.heap.size w1 w') (by kernel_rfl) (by kernel_rfl) ?_
      rintro D hD
      have HSD : Hid (Below w1.heap.size w1 D) := by rw [hD]; exact (Below.refl _ _).drew
      clear hD
      refine ⟨HSD.out, ?_⟩
      have HS := Lib.hid (fun (w' : World) (h : Below w1.heap.size w1 w') => And.intro (HP1.out.below (bchain HX1.out h)).cell (And.intro (HQ1.out.below (bchain HX1.out h)).cells (two_cells (two_below HT1.out (bchain HX1.out h)))))
      iterate 12 (refine wpMix_q (v := ?_) rfl rfl (fun w' hS => ?_) ?_; rotate_left; (focus ((try obtain ⟨s0, ⟨z0, z1, z2, z3, z4, z5⟩, t0, t1⟩ := HS.out _ (hS rfl)); clear hS; go_simp; try with_reducible rfl; done)); (try simp only [Act.put, List.setIfInBounds_toArray, List.set_cons_zero, List.set_cons_succ]))
      clear HS
      refine wpMix_e rfl rfl (fun K hK => ?_)
      go_simp
      refine (back_any _ _ _ I R l len _ (HV.out.below (bchain HBX.out HSD.out)) (HRR.out.below (bchain HBX.out HSD.out)) (HVW.out.below (bchain HBX.out HSD.out)) H60.out HRG.out HL24.out HFEW.out).mono ?_
      rintro e Y1 ⟨⟨vv, rfl, ho⟩, hb⟩
      obtain ⟨A7, n7, c7, rfl, _, _, _, _⟩ := id ho.op
      have HSY1 := Lib.hid (bchain HSD.out hb)
      have HXY1 := Lib.hid hb
      have HO7 := Lib.hid ho
      refine hK.out _ _ (fun _ => HSY1.out) ?_
      clear hK K ho hb
      (try simp only [Act.put, List.setIfInBounds_toArray, List.set_cons_zero, List.set_cons_succ])
      refine wpMix_e rfl rfl (fun K hK => ?_)
      go_simp
      refine (rback_any _ _ _ I R l len _ (HV.out.below (bchain HBX.out HSY1.out)) (HRR.out.below (bchain HBX.out HSY1.out)) (HVW.out.below (bchain HBX.out HSY1.out)) H60.out HRG.out HFEW.out).mono ?_
      rintro e Y2 ⟨⟨vv, rfl, ho⟩, hb⟩
      obtain ⟨A8, n8, c8, rfl, _, _, _, _⟩ := id ho.op
      have HSY2 := Lib.hid (bchain HSY1.out hb)
      have HXY2 := Lib.hid hb
      have HO8 := Lib.hid ho
      refine hK.out _ _ (fun _ => HSY2.out) ?_
      clear hK K ho hb
      (try simp only [Act.put, List.setIfInBounds_toArray, List.set_cons_zero, List.set_cons_succ])
      refine wpMix_e rfl rfl (fun K hK => ?_)
      go_simp
      refine (rsameL_same _ _ _ _ (HO7.out.below HXY2.out) HO8.out).mono ?_
      rintro e Y3 ⟨rfl, hb⟩
      refine hK.out _ _ (fun _ => bchain HSY2.out hb) ?_
      clear hK K
      (try simp only [Act.put, List.setIfInBounds_toArray, List.set_cons_zero, List.set_cons_succ])
      have HSY3 := Lib.hid (bchain HSY2.out hb)
      clear hb
      iterate 1 (refine wpMix_e rfl rfl (fun K hK => ?_); go_simp; refine hK.out _ _ (fun h => absurd h (by decide)) ?_; clear hK K; (try simp only [Act.put, List.setIfInBounds_toArray, List.set_cons_zero, List.set_cons_succ]))
      refine wpMix_e rfl rfl (fun K hK => ?_)
      go_simp
      refine (awake_any _).mono ?_
      rintro e Y4 ⟨rfl, hb⟩
      refine hK.out _ _ (fun _ => bchain HSY3.out hb) ?_
      clear hK K
      (try simp only [Act.put, List.setIfInBounds_toArray, List.set_cons_zero, List.set_cons_succ])
      have HSY4 := Lib.hid (bchain HSY3.out hb)
      clear hb
      iterate 2 (refine wpMix_e rfl rfl (fun K hK => ?_); go_simp; refine hK.out _ _ (fun h => absurd h (by decide)) ?_; clear hK K; (try simp only [Act.put, List.setIfInBounds_toArray, List.set_cons_zero, List.set_cons_succ]))
      refine wpMix_nil ?_
      refine NoPanic.normal ?_
      go_wp2_with fail
      go_ret
      exact ⟨rfl, bchain HBX.out HSY4.out⟩
  · have d0 : decide (0 ≤ len) = false := decide_eq_false h0
    have HFEW : Hid (0 ≤ len → len ≤ 24 → cF I.length len.toNat ≤ 60000) := fun h _ => absurd h h0
    have HX1 : Hid (Below w1.heap.size w1 w1) := Below.refl _ _
    have HBX := HB1
    clear h0
    go_upto_region 3 with (fail)
    clear d0
    clear y0 y1 t0 t1 tl
    refine wp_region_mix 13 [0, 1, 2, 3, 4, 5, 6, 7, 8, 9, 10, 11, 12] [] [(true, 0), (true, 1), (true, 2), (true, 3), (true, 4), (true, 5), (true, 7), (true, 8), (true, 9), (true, 10), (true, 11), (true, 12), (false, 6), (false, 13), (false, 14), (false, 15), (false, 16), (false, 17), (false, 18)] (fun w' => Below w1.heap.size w1 w') (by kernel_rfl) (by kernel_rfl) ?_
    rintro D hD
    have HSD : Hid (Below w1.heap.size w1 D) := by rw [hD]; exact (Below.refl _ _).drew
    clear hD
    refine ⟨HSD.out, ?_⟩
    have HS := Lib.hid (fun (w' : World) (h : Below w1.heap.size w1 w') => And.intro (HP1.out.below (bchain HX1.out h)).cell (And.intro (HQ1.out.below (bchain HX1.out h)).cells (two_cells (two_below HT1.out (bchain HX1.out h)))))
    iterate 12 (refine wpMix_q (v := ?_) rfl rfl (fun w' hS => ?_) ?_; rotate_left; (focus ((try obtain ⟨s0, ⟨z0, z1, z2, z3, z4, z5⟩, t0, t1⟩ := HS.out _ (hS rfl)); clear hS; go_simp; try with_reducible rfl; done)); (try simp only [Act.put, List.setIfInBounds_toArray, List.set_cons_zero, List.set_cons_succ]))
    clear HS
    refine wpMix_e rfl rfl (fun K hK => ?_)
    go_simp
    refine (back_any _ _ _ I R l len _ (HV.out.below (bchain HBX.out HSD.out)) (HRR.out.below (bchain HBX.out HSD.out)) (HVW.out.below (bchain HBX.out HSD.out)) H60.out HRG.out HL24.out HFEW.out).mono ?_
    rintro e Y1 ⟨⟨vv, rfl, ho⟩, hb⟩
    obtain ⟨A7, n7, c7, rfl, _, _, _, _⟩ := id ho.op
    have HSY1 := Lib.hid (bchain HSD.out hb)
    have HXY1 := Lib.hid hb
    have HO7 := Lib.hid ho
    refine hK.out _ _ (fun _ => HSY1.out) ?_
    clear hK K ho hb
    (try simp only [Act.put, List.setIfInBounds_toArray, List.set_cons_zero, List.set_cons_succ])
    refine wpMix_e rfl rfl (fun K hK => ?_)
    go_simp
    refine (rback_any _ _ _ I R l len _ (HV.out.below (bchain HBX.out HSY1.out)) (HRR.out.below (bchain HBX.out HSY1.out)) (HVW.out.below (bchain HBX.out HSY1.out)) H60.out HRG.out HFEW.out).mono ?_
    rintro e Y2 ⟨⟨vv, rfl, ho⟩, hb⟩
    obtain ⟨A8, n8, c8, rfl, _, _, _, _⟩ := id ho.op
    have HSY2 := Lib.hid (bchain HSY1.out hb)
    have HXY2 := Lib.hid hb
    have HO8 := Lib.hid ho
    refine hK.out _ _ (fun _ => HSY2.out) ?_
    clear hK K ho hb
    (try simp only [Act.put, List.setIfInBounds_toArray, List.set_cons_zero, List.set_cons_succ])
    refine wpMix_e rfl rfl (fun K hK => ?_)
    go_simp
    refine (rsameL_same _ _ _ _ (HO7.out.below HXY2.out) HO8.out).mono ?_
    rintro e Y3 ⟨rfl, hb⟩
    refine hK.out _ _ (fun _ => bchain HSY2.out hb) ?_
    clear hK K
    (try simp only [Act.put, List.setIfInBounds_toArray, List.set_cons_zero, List.set_cons_succ])
    have HSY3 := Lib.hid (bchain HSY2.out hb)
    clear hb
    iterate 1 (refine wpMix_e rfl rfl (fun K hK => ?_); go_simp; refine hK.out _ _ (fun h => absurd h (by decide)) ?_; clear hK K; (try simp only [Act.put, List.setIfInBounds_toArray, List.set_cons_zero, List.set_cons_succ]))
    refine wpMix_e rfl rfl (fun K hK => ?_)
    go_simp
    refine (awake_any _).mono ?_
    rintro e Y4 ⟨rfl, hb⟩
    refine hK.out _ _ (fun _ => bchain HSY3.out hb) ?_
    clear hK K
    (try simp only [Act.put, List.setIfInBounds_toArray, List.set_cons_zero, List.set_cons_succ])
    have HSY4 := Lib.hid (bchain HSY3.out hb)
    clear hb
    iterate 2 (refine wpMix_e rfl rfl (fun K hK => ?_); go_simp; refine hK.out _ _ (fun h => absurd h (by decide)) ?_; clear hK K; (try simp only [Act.put, List.setIfInBounds_toArray, List.set_cons_zero, List.set_cons_succ]))
    refine wpMix_nil ?_
    refine NoPanic.normal ?_
    go_wp2_with fail
    go_ret
    exact ⟨rfl, bchain HBX.out HSY4.out⟩
end Go.Proofs.Ytdijlakeonionaa
