/-
  The statements' walks: RewriteFound.
-/
import Derived.Test.YtdijlakeonionaaQ41
namespace Go.Proofs.Ytdijlakeonionaa
open Go.ChangeShapes Go.WideShapes Go.ChangeAt Go.RowKit
/-- all that the statement asks of the lists behind -/
structure FoundOk (I : List PPh) (R : PRule) (l : List Int) (B : List (List Int)) : Prop where
  mem : ∀ x ∈ B, x.length ≤ l.length ∧ (∀ y ∈ x, y ≠ 0) ∧ applyF I R x = applyF I R l
  has : l ∈ B
theorem found_ok {I : List PPh} {R : PRule} {l : List Int} (hl : listB I l = true) : FoundOk I R l (backF I R (applyF I R l) (l.length : Int)) := by
  obtain ⟨h1, h2⟩ := listB_iff.1 hl
  have e : backF I R (applyF I R l) (l.length : Int) = fromL I R (applyF I R l) l.length [] := by rw [backF, if_neg (by omega), Int.toNat_natCast]
  rw [e]
  refine ⟨fun x hx => ?_, (from_mem I R _ _ _ _).2 ⟨l, Nat.le_refl _, h1, rfl, rfl⟩⟩
  obtain ⟨v, h3, h4, h5, h6⟩ := (from_mem I R _ _ _ _).1 hx
  rw [List.nil_append] at h5
  subst h5
  exact ⟨h3, fun y hy => isB_nz (h4 y hy), h6⟩
def fnd (B : List (List Int)) (l : List Int) (i : Nat) : Bool := (B.take i).any fun x => sameB x l
theorem fnd_at {B : List (List Int)} {l x : List Int} {i : Nat} {r : List (List Int)} (h : B.drop i = x :: r) : fnd B l (i + 1) = (fnd B l i || sameB x l) := by
  have e : B.take (i + 1) = B.take i ++ [x] := by rw [List.take_add_one, drop_head h]; rfl
  rw [fnd, fnd, e, List.any_append]
  simp
theorem fnd_all {B : List (List Int)} {l : List Int} (h : l ∈ B) : fnd B l B.length = true := by
  rw [fnd, List.take_length, List.any_eq_true]
  exact ⟨l, h, sameB_self l⟩
set_option maxHeartbeats 16000000 in
set_option maxRecDepth 100000 in
theorem found_walk (v vr vw : Value) (I : List PPh) (R : PRule) (l : List Int) (w : World) (hv : RdV w v I) (hr : RdR w vr R) (hw : RdI w vw l) :
    Calls Try.prog 8 #[v, vr, vw] w fun e w' => e = .returned (.bool true) ∧ Below w.heap.size w w' := by
  have HVW := Lib.hid hw
  obtain ⟨Aw, nw, cw, rfl, _, hcw63, HNW, _⟩ := hw.op
  clear hw
  obtain ⟨u, rfl, hp⟩ := id hv
  obtain ⟨A0, n0, c0, rfl, _, _, _, _⟩ := hp.op
  obtain ⟨vf, vt, vl, vg, rfl, hf, ht, hl, hg⟩ := id hr
  obtain ⟨A1, n1, c1, rfl, _, _, HN1, HR1⟩ := hf.op
  obtain ⟨A2, n2, c2, rfl, _, _, HN2, HR2⟩ := ht.op
  obtain ⟨A3, n3, c3, rfl, _, _, HN3, _⟩ := hl.op
  obtain ⟨A4, n4, c4, rfl, _, _, HN4, _⟩ := hg.op
  have HV := Lib.hid hv
  have HRR := Lib.hid hr
  have HF := Lib.hid hf
  have HT := Lib.hid ht
  clear hp hf ht hl hg hv hr
  obtain ⟨beg, hbeg⟩ : ∃ x, R.beg = x := ⟨_, rfl⟩
  obtain ⟨fin, hfin⟩ : ∃ x, R.fin = x := ⟨_, rfl⟩
  rw [hbeg, hfin] at HRR ⊢
  clear hbeg hfin
  go_enter Try.func8, Try.ntmps8
  go_upto_region 1 with (fail)
  generalize hW : World.alloc (World.alloc w _) _ = W
  have HBW : Hid (Below w.heap.size w W) := by rw [← hW]; exact bchain (al_below _ _) (al_below _ _)
  have HP : Hid (VBlk W w.heap.size (.slice A0 n0 c0)) := by rw [← hW]; exact VBlk.below (heap_alloc_new w _) (al_below _ _)
  have HQ : Hid (RBlk W (w.heap.size + 1) (.slice A1 n1 c1) (.slice A2 n2 c2) (.slice A3 n3 c3) (.slice A4 n4 c4) beg fin) := by
    have h := heap_alloc_new (w.alloc (.cells #[.slice A0 n0 c0] 24)) (.cells #[.slice A1 n1 c1, .slice A2 n2 c2, .slice A3 n3 c3, .slice A4 n4 c4, .bool beg, .bool fin] 28)
    rw [World.size_alloc] at h
    rw [← hW]; exact h
  clear hW
  have y0 := HP.out.cell
  have y1 := HP.out.lt
  obtain ⟨z0, z1, z2, z3, z4, z5⟩ := HQ.out.cells
  have zl := HQ.out.lt
  go_wp2_with fail
  clear y0 y1 z0 z1 z2 z3 z4 z5 zl
  refine (right_any _ _ _ I R l _ (HV.out.below HBW.out) (HRR.out.below HBW.out) ((HVW).out.below HBW.out)).mono ?_
  rintro e w1 ⟨⟨b, rfl, hbr⟩, hb1⟩
  have HB1 := Lib.hid (bchain HBW.out hb1)
  have HP1 := Lib.hid (HP.out.below hb1)
  have HQ1 := Lib.hid (HQ.out.below hb1)
  clear hb1 HP HQ HBW
  cases b
  · skip
    go_wp2_with fail
    refine (awake_any _).mono ?_
    rintro e wz ⟨rfl, hbz⟩
    have HBZ := Lib.hid (bchain (HB1).out hbz)
    clear hbz
    go_wp2_with fail
    go_ret
    exact ⟨rfl, HBZ.out⟩
  obtain ⟨h60, hck0, hlb⟩ := hbr rfl
  have H60 := Lib.hid h60
  have HRG : Hid (RGood I R) := rgood_of hck0
  have HLB := Lib.hid hlb
  have HLN := Lib.hid (list_len hlb)
  have HNZ := Lib.hid (list_nz hlb)
  clear hbr h60 hck0 hlb
  have hnw : nw ≤ 24 := by have := (listB_iff.1 HLB.out).2; rw [HNW.out] at this; exact this
  have y0 := HP1.out.cell
  have y1 := HP1.out.lt
  go_wp2_with fail
  clear y0 y1
  refine (rfew_any _ I (nw : Int) _ (HV.out.below HB1.out) (Nat.le_trans H60.out (by decide))).mono ?_
  rintro e w2 ⟨rfl, hb2⟩
  have HX2 := Lib.hid hb2
  have HB2 := Lib.hid (bchain HB1.out hb2)
  clear hb2
  cases hf : fewB I (nw : Int)
  · clear hf
    go_wp2_with fail
    refine (awake_any _).mono ?_
    rintro e wz ⟨rfl, hbz⟩
    have HBZ := Lib.hid (bchain (HB2).out hbz)
    clear hbz
    go_wp2_with fail
    go_ret
    exact ⟨rfl, HBZ.out⟩
  have HFEW : Hid (0 ≤ (nw : Int) → (nw : Int) ≤ 24 → cF I.length (nw : Int).toNat ≤ 60000) := fun _ _ => few_len (by omega) (by rw [Int.toNat_natCast]; exact hf)
  clear hf
  have y0 := (HP1.out.below HX2.out).cell
  have y1 := (HP1.out.below HX2.out).lt
  obtain ⟨z0, z1, z2, z3, z4, z5⟩ := (HQ1.out.below HX2.out).cells
  have zl := (HQ1.out.below HX2.out).lt
  go_wp2_with fail
  clear y0 y1 z0 z1 z2 z3 z4 z5 zl
  refine (papply_any _ _ _ I R l _ (HV.out.below HB2.out) (HRR.out.below HB2.out) (HVW.out.below HB2.out) HRG.out.ok HLN.out HNZ.out).mono ?_
  rintro e w3 ⟨⟨vv, rfl, ho⟩, hb3⟩
  obtain ⟨A7, n7, c7, rfl⟩ := own_sliceN ho
  have HO7 := Lib.hid ho.rd
  have HX3 := Lib.hid (bchain HX2.out hb3)
  have HB3 := Lib.hid (bchain HB1.out HX3.out)
  clear ho hb3
  have HOK : Hid (FoundOk I R l (backF I R (applyF I R l) (l.length : Int))) := found_ok HLB.out
  have HO24 : Hid ((applyF I R l).length ≤ 24) := Nat.le_trans (applyF_len I R l) (by rw [HNW.out]; exact hnw)
  have HXA0 : Hid (∃ out, applyF I R l = out) := ⟨_, rfl⟩
  obtain ⟨out, hout⟩ := HXA0.out
  have HOUT := Lib.hid hout
  rw [hout] at HO7 HOK HO24
  rw [HNW.out] at HOK
  clear hout HXA0
  have y0 := (HP1.out.below HX3.out).cell
  have y1 := (HP1.out.below HX3.out).lt
  obtain ⟨z0, z1, z2, z3, z4, z5⟩ := (HQ1.out.below HX3.out).cells
  have zl := (HQ1.out.below HX3.out).lt
  go_wp2_with fail
  clear y0 y1 z0 z1 z2 z3 z4 z5 zl
  refine (back_any _ _ _ I R out (nw : Int) _ (HV.out.below HB3.out) (HRR.out.below HB3.out) HO7.out H60.out HRG.out HO24.out HFEW.out).mono ?_
  rintro e w4 ⟨⟨vv, rfl, ho⟩, hb4⟩
  generalize backF I R out (nw : Int) = B at HOK ho
  obtain ⟨A8, n8, c8, rfl, _, _, HN8, HR8⟩ := id ho.op
  have HX4 := Lib.hid hb4
  have HX14 := Lib.hid (bchain HX3.out hb4)
  clear ho hb4
  go_wp2_with fail
  go_loopw [9, 36] (fun v9 v36 wr => ∃ (i : Nat) (b : Bool), i ≤ n8 ∧ v36 = .int .i64 i ∧ v9 = .bool b ∧ Hid (b = fnd B l i) ∧ Hid (Below w4.heap.size w4 wr)) (fun _ v36 _ => n8 - (intOf v36).toNat)
  case atStart => exact ⟨0, false, Nat.zero_le _, rfl, rfl, rfl, Below.refl _ _⟩
  case round =>
    obtain ⟨i, b, hi, rfl, rfl, HBI, HBR⟩ := hrel
    by_cases hlt : i < n8
    · obtain ⟨bl, ol, Ax, nx, cx, x, rfl, hbl, hdl, hcl, hrx⟩ := HR8.out i hlt
      obtain ⟨hm1, hm2, hm3⟩ := HOK.out.mem x (List.mem_of_mem_drop (by rw [hdl.out]; exact List.mem_cons_self))
      have HRX := Lib.hid (hrx.out.below HBR.out)
      obtain ⟨_, _, _, he, _, _, HNX, _⟩ := HRX.out.op
      cases he
      have HXN : Hid (x.length ≤ 1000000) := Nat.le_trans hm1 HLN.out
      have HXZ := Lib.hid hm2
      have HXA : Hid (applyF I R x = out) := hm3.trans HOUT.out
      have hnx : ¬ nw < nx := by have := hm1; rw [HNX.out, HNW.out] at this; omega
      have hnx2 : ¬ (nw : Int) < (nx : Int) := by omega
      have hi0 : (0 : Int) ≤ (i : Int) := by omega
      have hil : (i : Int) < (n8 : Int) := by omega
      have HF1 : Hid (fnd B l (i + 1) = (b || sameB x l)) := by rw [Hid, fnd_at hdl.out, HBI.out]
      have HCC : Hid (∀ w' : World, Below wr.heap.size wr w' → w'.cell? ⟨bl, ol + i, none⟩ = some (.slice Ax nx cx)) :=
        fun w' h => ((bchain HBR.out h).cell (p := ⟨bl, ol + i, none⟩) hbl).trans hcl
      clear hm1 hm2 hm3 hrx hbl hcl
      cases b
      · have g0 := HCC.out wr (Below.refl _ _)
        go_wp2_with fail
        clear g0
        refine (rsame_b _ _ x l _ HRX.out (HVW.out.below (bchain HB1.out (bchain HX14.out HBR.out)))).mono ?_
        rintro e w5 ⟨rfl, hb5⟩
        have HWQ := Lib.hid hb5
        have HXQ := Lib.hid (bchain HX14.out (bchain HBR.out hb5))
        have HF2 : Hid (sameB x l = fnd B l (i + 1)) := by rw [Hid, HF1.out, Bool.false_or]
        clear hb5
        obtain ⟨sb, hsb⟩ : ∃ y, sameB x l = y := ⟨_, rfl⟩
        rw [hsb] at HF2 ⊢
        clear hsb
        have HS : Hid (∀ w' : World, Below w5.heap.size w5 w' → w'.cell? ⟨w.heap.size, 0, none⟩ = some (.slice A0 n0 c0) ∧ (w'.cell? ⟨w.heap.size + 1, 0, none⟩ = some (.slice A1 n1 c1) ∧ w'.cell? ⟨w.heap.size + 1, 1, none⟩ = some (.slice A2 n2 c2) ∧ w'.cell? ⟨w.heap.size + 1, 2, none⟩ = some (.slice A3 n3 c3) ∧ w'.cell? ⟨w.heap.size + 1, 3, none⟩ = some (.slice A4 n4 c4) ∧ w'.cell? ⟨w.heap.size + 1, 4, none⟩ = some (.bool beg) ∧ w'.cell? ⟨w.heap.size + 1, 5, none⟩ = some (.bool fin)) ∧ w'.cell? ⟨bl, ol + i, none⟩ = some (.slice Ax nx cx)) :=
          fun w' h => ⟨(HP1.out.below (bchain HXQ.out h)).cell, (HQ1.out.below (bchain HXQ.out h)).cells, HCC.out w' (bchain HWQ.out h)⟩
        go_upto_region 10 with (fail)
        refine wp_region_mix 17 [0, 1, 2, 3, 4, 5, 6, 7, 8, 9, 10, 11, 12, 13, 14, 15, 16] [] [(true, 0), (true, 1), (true, 2), (true, 3), (true, 4), (true, 5), (true, 6), (true, 7), (true, 8), (true, 9), (true, 10), (true, 11), (true, 12), (true, 13), (true, 14), (true, 16), (false, 15), (false, 17), (false, 18), (false, 19)] (fun w' => Below w5.heap.size w5 w') (by kernel_rfl) (by kernel_rfl) ?_
        rintro D hD
        have HSD : Hid (Below w5.heap.size w5 D) := by rw [hD]; exact (Below.refl _ _).drew
        clear hD
        refine ⟨HSD.out, ?_⟩
        iterate 16 (refine wpMix_q (v := ?_) rfl rfl (fun w' hS => ?_) ?_; rotate_left; (focus ((try obtain ⟨s0, ⟨z0, z1, z2, z3, z4, z5⟩, g0⟩ := HS.out _ (hS rfl)); clear hS; go_simp; try with_reducible rfl; done)); (try simp only [Act.put, List.setIfInBounds_toArray, List.set_cons_zero, List.set_cons_succ]))
        clear HS
        have HBD := Lib.hid (bchain HB1.out (bchain HXQ.out HSD.out))
        refine wpMix_e rfl rfl (fun K hK => ?_)
        go_simp
        refine (papply_any _ _ _ I R x _ (HV.out.below HBD.out) (HRR.out.below HBD.out) (HRX.out.below (bchain HWQ.out HSD.out)) HRG.out.ok HXN.out HXZ.out).mono ?_
        rintro e Y1 ⟨⟨vv, rfl, ho⟩, hb⟩
        obtain ⟨A5, n5, c5, rfl⟩ := own_sliceN ho
        have HSY1 := Lib.hid (bchain HSD.out hb)
        have HXY1 := Lib.hid hb
        have HO5 := Lib.hid ho.rd
        refine hK.out _ _ (fun _ => HSY1.out) ?_
        clear hK K ho hb
        (try simp only [Act.put, List.setIfInBounds_toArray, List.set_cons_zero, List.set_cons_succ])
        rw [HXA.out] at HO5
        refine wpMix_e rfl rfl (fun K hK => ?_)
        go_simp
        refine (rsame_same _ _ out _ HO5.out (HO7.out.below (bchain HX4.out (bchain HBR.out (bchain HWQ.out HSY1.out))))).mono ?_
        rintro e Y2 ⟨rfl, hb⟩
        refine hK.out _ _ (fun _ => bchain HSY1.out hb) ?_
        clear hK K
        (try simp only [Act.put, List.setIfInBounds_toArray, List.set_cons_zero, List.set_cons_succ])
        have HSY2 := Lib.hid (bchain HSY1.out hb)
        clear hb
        iterate 2 (refine wpMix_e rfl rfl (fun K hK => ?_); go_simp; refine hK.out _ _ (fun h => absurd h (by decide)) ?_; clear hK K; (try simp only [Act.put, List.setIfInBounds_toArray, List.set_cons_zero, List.set_cons_succ]))
        refine wpMix_nil ?_
        refine NoPanic.normal ?_
        go_wp2_with fail
        go_roundw
        case rel => exact ⟨i + 1, _, by omega, by go_num, rfl, HF2.out, bchain HBR.out (bchain HWQ.out HSY2.out)⟩
        case measure => simp [intOf]; omega
      · have HWQ : Hid (Below wr.heap.size wr wr) := Below.refl _ _
        have HXQ := Lib.hid (bchain HX14.out HBR.out)
        have HF2 : Hid (true = fnd B l (i + 1)) := by rw [Hid, HF1.out, Bool.true_or]
        have HS : Hid (∀ w' : World, Below wr.heap.size wr w' → w'.cell? ⟨w.heap.size, 0, none⟩ = some (.slice A0 n0 c0) ∧ (w'.cell? ⟨w.heap.size + 1, 0, none⟩ = some (.slice A1 n1 c1) ∧ w'.cell? ⟨w.heap.size + 1, 1, none⟩ = some (.slice A2 n2 c2) ∧ w'.cell? ⟨w.heap.size + 1, 2, none⟩ = some (.slice A3 n3 c3) ∧ w'.cell? ⟨w.heap.size + 1, 3, none⟩ = some (.slice A4 n4 c4) ∧ w'.cell? ⟨w.heap.size + 1, 4, none⟩ = some (.bool beg) ∧ w'.cell? ⟨w.heap.size + 1, 5, none⟩ = some (.bool fin)) ∧ w'.cell? ⟨bl, ol + i, none⟩ = some (.slice Ax nx cx)) :=
          fun w' h => ⟨(HP1.out.below (bchain HXQ.out h)).cell, (HQ1.out.below (bchain HXQ.out h)).cells, HCC.out w' (bchain HWQ.out h)⟩
        go_upto_region 10 with (fail)
        refine wp_region_mix 17 [0, 1, 2, 3, 4, 5, 6, 7, 8, 9, 10, 11, 12, 13, 14, 15, 16] [] [(true, 0), (true, 1), (true, 2), (true, 3), (true, 4), (true, 5), (true, 6), (true, 7), (true, 8), (true, 9), (true, 10), (true, 11), (true, 12), (true, 13), (true, 14), (true, 16), (false, 15), (false, 17), (false, 18), (false, 19)] (fun w' => Below wr.heap.size wr w') (by kernel_rfl) (by kernel_rfl) ?_
        rintro D hD
        have HSD : Hid (Below wr.heap.size wr D) := by rw [hD]; exact (Below.refl _ _).drew
        clear hD
        refine ⟨HSD.out, ?_⟩
        iterate 16 (refine wpMix_q (v := ?_) rfl rfl (fun w' hS => ?_) ?_; rotate_left; (focus ((try obtain ⟨s0, ⟨z0, z1, z2, z3, z4, z5⟩, g0⟩ := HS.out _ (hS rfl)); clear hS; go_simp; try with_reducible rfl; done)); (try simp only [Act.put, List.setIfInBounds_toArray, List.set_cons_zero, List.set_cons_succ]))
        clear HS
        have HBD := Lib.hid (bchain HB1.out (bchain HXQ.out HSD.out))
        refine wpMix_e rfl rfl (fun K hK => ?_)
        go_simp
        refine (papply_any _ _ _ I R x _ (HV.out.below HBD.out) (HRR.out.below HBD.out) (HRX.out.below (bchain HWQ.out HSD.out)) HRG.out.ok HXN.out HXZ.out).mono ?_
        rintro e Y1 ⟨⟨vv, rfl, ho⟩, hb⟩
        obtain ⟨A5, n5, c5, rfl⟩ := own_sliceN ho
        have HSY1 := Lib.hid (bchain HSD.out hb)
        have HXY1 := Lib.hid hb
        have HO5 := Lib.hid ho.rd
        refine hK.out _ _ (fun _ => HSY1.out) ?_
        clear hK K ho hb
        (try simp only [Act.put, List.setIfInBounds_toArray, List.set_cons_zero, List.set_cons_succ])
        rw [HXA.out] at HO5
        refine wpMix_e rfl rfl (fun K hK => ?_)
        go_simp
        refine (rsame_same _ _ out _ HO5.out (HO7.out.below (bchain HX4.out (bchain HBR.out (bchain HWQ.out HSY1.out))))).mono ?_
        rintro e Y2 ⟨rfl, hb⟩
        refine hK.out _ _ (fun _ => bchain HSY1.out hb) ?_
        clear hK K
        (try simp only [Act.put, List.setIfInBounds_toArray, List.set_cons_zero, List.set_cons_succ])
        have HSY2 := Lib.hid (bchain HSY1.out hb)
        clear hb
        iterate 2 (refine wpMix_e rfl rfl (fun K hK => ?_); go_simp; refine hK.out _ _ (fun h => absurd h (by decide)) ?_; clear hK K; (try simp only [Act.put, List.setIfInBounds_toArray, List.set_cons_zero, List.set_cons_succ]))
        refine wpMix_nil ?_
        refine NoPanic.normal ?_
        go_wp2_with fail
        go_roundw
        case rel => exact ⟨i + 1, _, by omega, by go_num, rfl, HF2.out, bchain HBR.out (bchain HWQ.out HSY2.out)⟩
        case measure => simp [intOf]; omega
    · obtain rfl : n8 = i := by omega
      have hbt : b = true := by rw [HBI.out, ← HN8.out]; exact fnd_all HOK.out.has
      subst hbt
      go_wp2_with fail
      refine (awake_any _).mono ?_
      rintro e x3 ⟨rfl, hx3⟩
      have HBE := Lib.hid (bchain HB1.out (bchain HX14.out (bchain HBR.out hx3)))
      clear hx3
      go_wp2_with fail
      go_ret
      exact ⟨rfl, HBE.out⟩
end Go.Proofs.Ytdijlakeonionaa
