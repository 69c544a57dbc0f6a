/-
  awake: the chapter's examples hold.
-/
import Derived.Test.YtdijlakeonionaaQ32
namespace Go.Proofs.Ytdijlakeonionaa
open Go.ChangeShapes Go.WideShapes Go.ChangeAt Go.RowKit
def xR : PRule := ⟨[3], [4], [⟨1, 1⟩], [], false, false⟩
def yR : PRule := ⟨[4], [0], [], [], false, true⟩
def zR : PRule := ⟨[], [], [], [], false, false⟩
theorem chk_x : chkR sndL xR = 0 := by decide
theorem chk_y : chkR sndL yR = 0 := by decide
theorem chk_z : chkR sndL zR = 1 := by decide
theorem sites_x : sitesF sndL xR [1, 3, 3] = [1] := by decide
theorem apply_x : applyF sndL xR [1, 3, 3] = [1, 4, 3] := by decide
theorem last_xy : lastF sndL [xR, yR] [1, 3] = [1] := by decide
theorem back_y : backF sndL yR [1] 2 = [[1], [1, 4]] := by decide
theorem few_4 : cF sndL.length 2 ≤ 60000 := by decide
theorem rdRs_two {w : World} {q : Nat} {a0 a1 a2 a3 c0 c1 c2 c3 : Value} {R1 R2 : PRule} (h : w.heap[q]? = some (.cells #[a0, a1, a2, a3, .bool R1.beg, .bool R1.fin, c0, c1, c2, c3, .bool R2.beg, .bool R2.fin] 28 (0, 0)))
    (h1 : RdR w (.agg #[a0, a1, a2, a3, .bool R1.beg, .bool R1.fin]) R1) (h2 : RdR w (.agg #[c0, c1, c2, c3, .bool R2.beg, .bool R2.fin]) R2) : RdRs w (.slice (some ⟨q, 0, none⟩) 2 2) [R1, R2] := by
  have hq : q < w.heap.size := (Array.getElem?_eq_some_iff.1 h).1
  refine ⟨_, 2, 2, rfl, by omega, by omega, rfl, fun k hk => ?_⟩
  rcases (show k = 0 ∨ k = 1 by omega) with rfl | rfl
  · refine ⟨q, 0, a0, a1, a2, a3, R1, rfl, hq, rfl, ⟨?_, ?_, ?_, ?_, ?_, ?_⟩, h1⟩ <;> rw [cell_of_row w q _ _ _ (0, 0) h] <;> rfl
  · refine ⟨q, 0, c0, c1, c2, c3, R2, rfl, hq, rfl, ⟨?_, ?_, ?_, ?_, ?_, ?_⟩, h2⟩ <;> rw [cell_of_row w q _ _ _ (0, 0) h] <;> rfl
theorem rdL_two {w : World} {u0 u1 : Value} {l0 l1 : List Int} (h0 : RdI w u0 l0) (h1 : RdI w u1 l1) : RdL (w.alloc (.cells #[u0, u1] 25)) (.slice (some ⟨w.heap.size, 0, none⟩) 2 2) [l0, l1] := by
  refine ⟨[u0, u1], rd_blk 25 1 2 [u0, u1] rfl (by decide) w, rfl, fun i u l hu hl => ?_⟩
  match i, hu, hl with
  | 0, hu, hl => cases hu; cases hl; exact Rd.alloc h0 _
  | 1, hu, hl => cases hu; cases hl; exact Rd.alloc h1 _
theorem rsame_b (v u : Value) (xs ys : List Int) (w : World) (hv : RdI w v xs) (hu : RdI w u ys) :
    Calls Try.prog 16 #[v, u] w fun e w' => e = .returned (.bool (sameB xs ys)) ∧ Below w.heap.size w w' := by
  refine (rsame_any v u xs ys w hv hu).mono ?_
  rintro e w' ⟨h, nq, rfl⟩
  exact ⟨h, below_drewN (Below.refl _ _) nq⟩
theorem rdC_blk (c : PCls) (w : World) : RdC (w.alloc (.cells (clsCells c).toArray 66)) (.slice (some ⟨w.heap.size, 0, none⟩) 1 1) [c] := rd_blk _ 2 1 (clsCells c) rfl (by decide) w
set_option maxHeartbeats 16000000 in
set_option maxRecDepth 100000 in
theorem awake_any (w : World) :
    Calls Try.prog 12 #[] w fun e w' => e = .returned (.bool true) ∧ Below w.heap.size w w' := by
  go_enter Try.func12, Try.ntmps12
  go_wp2_with fail
  refine (sounds_any w).mono ?_
  rintro e w1 ⟨⟨v1, rfl, hv1⟩, hb1⟩
  obtain ⟨u1, rfl, hp1⟩ := id hv1
  obtain ⟨A0, n0, c0, rfl, _, _, _, _⟩ := hp1.op
  have HV1 := Lib.hid hv1
  have HB1 := Lib.hid hb1
  clear hv1 hp1 hb1
  go_upto_region 2 with (fail)
  obtain ⟨b1, hb1⟩ : ∃ b1, w1.heap.size = b1 := ⟨_, rfl⟩
  generalize hW2 : World.alloc w1 _ = w2
  have hx2 : Below w1.heap.size w1 w2 := by rw [← hW2]; exact al_below _ _
  have HB2 := Lib.hid (bchain HB1.out hx2)
  have HV2 := Lib.hid (HV1.out.below hx2)
  have HI2 : Hid (VBlk w2 b1 (.slice A0 n0 c0)) := by rw [← hW2, ← hb1]; exact heap_alloc_new w1 _
  rw [hb1]
  clear hW2 hx2 hb1 HB1 HV1
  go_upto_region 3 with (fail)
  have hA := rdI_blk [3] (by decide) w2
  have hB := rdI_blk [4] (by decide) (w2.alloc (.cells #[.int .i64 3] 3))
  have hC := rdC_blk ⟨1, 1⟩ ((w2.alloc (.cells #[.int .i64 3] 3)).alloc (.cells #[.int .i64 4] 3))
  have hD := fun cs => heap_alloc_new (((w2.alloc (.cells #[.int .i64 3] 3)).alloc (.cells #[.int .i64 4] 3)).alloc (.cells #[.int .i64 1, .int .i64 1] 66)) (.cells cs 28)
  simp only [World.size_alloc] at hB hC hD
  have hbel : Below w2.heap.size w2 ((((w2.alloc (.cells #[.int .i64 3] 3)).alloc (.cells #[.int .i64 4] 3)).alloc (.cells #[.int .i64 1, .int .i64 1] 66)).alloc (.cells #[.slice (some ⟨w2.heap.size, 0, none⟩) 1 1, .slice (some ⟨w2.heap.size + 1, 0, none⟩) 1 1, .slice (some ⟨w2.heap.size + 1 + 1, 0, none⟩) 1 1, .slice none 0 0, .bool false, .bool false] 28)) := bchain (bchain (bchain (al_below _ _) (al_below _ _)) (al_below _ _)) (al_below _ _)
  have hX : RdR ((((w2.alloc (.cells #[.int .i64 3] 3)).alloc (.cells #[.int .i64 4] 3)).alloc (.cells #[.int .i64 1, .int .i64 1] 66)).alloc (.cells #[.slice (some ⟨w2.heap.size, 0, none⟩) 1 1, .slice (some ⟨w2.heap.size + 1, 0, none⟩) 1 1, .slice (some ⟨w2.heap.size + 1 + 1, 0, none⟩) 1 1, .slice none 0 0, .bool false, .bool false] 28)) (.agg #[.slice (some ⟨w2.heap.size, 0, none⟩) 1 1, .slice (some ⟨w2.heap.size + 1, 0, none⟩) 1 1, .slice (some ⟨w2.heap.size + 1 + 1, 0, none⟩) 1 1, .slice none 0 0, .bool false, .bool false]) xR :=
    ⟨_, _, _, _, rfl, Rd.alloc (Rd.alloc (Rd.alloc hA _) _) _, Rd.alloc (Rd.alloc hB _) _, Rd.alloc hC _, rdC_nil _⟩
  have hXB := hD #[.slice (some ⟨w2.heap.size, 0, none⟩) 1 1, .slice (some ⟨w2.heap.size + 1, 0, none⟩) 1 1, .slice (some ⟨w2.heap.size + 1 + 1, 0, none⟩) 1 1, .slice none 0 0, .bool false, .bool false]
  clear hA hB hC hD
  obtain ⟨k1, hk1⟩ : ∃ k, w2.heap.size = k := ⟨_, rfl⟩
  obtain ⟨k2, hk2⟩ : ∃ k, w2.heap.size + 1 = k := ⟨_, rfl⟩
  obtain ⟨k3, hk3⟩ : ∃ k, w2.heap.size + 1 + 1 = k := ⟨_, rfl⟩
  obtain ⟨b2, hb2⟩ : ∃ k, w2.heap.size + 1 + 1 + 1 = k := ⟨_, rfl⟩
  rw [hb2, hk3, hk2] at hXB
  rw [hk3, hk2] at hX hbel
  rw [hb2, hk3, hk2]
  generalize hW3 : World.alloc (World.alloc (World.alloc (World.alloc w2 _) _) _) _ = w3 at hbel hX hXB ⊢
  have HB3 := Lib.hid (bchain HB2.out hbel)
  have HV3 := Lib.hid (HV2.out.below hbel)
  have HI3 := Lib.hid (HI2.out.below hbel)
  have HX3 := Lib.hid hX
  have HXB3 : Hid (RBlk w3 b2 (.slice (some ⟨w2.heap.size, 0, none⟩) 1 1) (.slice (some ⟨k2, 0, none⟩) 1 1) (.slice (some ⟨k3, 0, none⟩) 1 1) (.slice none 0 0) false false) := hXB
  rw [hk1] at HX3 HXB3 ⊢
  clear hW3 hbel hX hXB hk1 hk2 hk3 hb2 HB2 HV2 HI2
  go_upto_region 4 with (fail)
  have hA := rdI_blk [4] (by decide) w3
  have hB := rdI_blk [0] (by decide) (w3.alloc (.cells #[.int .i64 4] 3))
  have hD := fun cs => heap_alloc_new ((w3.alloc (.cells #[.int .i64 4] 3)).alloc (.cells #[.int .i64 0] 3)) (.cells cs 28)
  simp only [World.size_alloc] at hB hD
  have hbel : Below w3.heap.size w3 (((w3.alloc (.cells #[.int .i64 4] 3)).alloc (.cells #[.int .i64 0] 3)).alloc (.cells #[.slice (some ⟨w3.heap.size, 0, none⟩) 1 1, .slice (some ⟨w3.heap.size + 1, 0, none⟩) 1 1, .slice none 0 0, .slice none 0 0, .bool false, .bool true] 28)) := bchain (bchain (al_below _ _) (al_below _ _)) (al_below _ _)
  have hY : RdR (((w3.alloc (.cells #[.int .i64 4] 3)).alloc (.cells #[.int .i64 0] 3)).alloc (.cells #[.slice (some ⟨w3.heap.size, 0, none⟩) 1 1, .slice (some ⟨w3.heap.size + 1, 0, none⟩) 1 1, .slice none 0 0, .slice none 0 0, .bool false, .bool true] 28)) (.agg #[.slice (some ⟨w3.heap.size, 0, none⟩) 1 1, .slice (some ⟨w3.heap.size + 1, 0, none⟩) 1 1, .slice none 0 0, .slice none 0 0, .bool false, .bool true]) yR :=
    ⟨_, _, _, _, rfl, Rd.alloc (Rd.alloc hA _) _, Rd.alloc hB _, rdC_nil _, rdC_nil _⟩
  have hYB := hD #[.slice (some ⟨w3.heap.size, 0, none⟩) 1 1, .slice (some ⟨w3.heap.size + 1, 0, none⟩) 1 1, .slice none 0 0, .slice none 0 0, .bool false, .bool true]
  clear hA hB hD
  obtain ⟨j1, hj1⟩ : ∃ k, w3.heap.size = k := ⟨_, rfl⟩
  obtain ⟨j2, hj2⟩ : ∃ k, w3.heap.size + 1 = k := ⟨_, rfl⟩
  obtain ⟨b3, hb3⟩ : ∃ k, w3.heap.size + 1 + 1 = k := ⟨_, rfl⟩
  rw [hb3, hj2] at hYB
  rw [hj2] at hY hbel
  rw [hb3, hj2]
  generalize hW4 : World.alloc (World.alloc (World.alloc w3 _) _) _ = w4 at hbel hY hYB ⊢
  have HB4 := Lib.hid (bchain HB3.out hbel)
  have HV4 := Lib.hid (HV3.out.below hbel)
  have HI4 := Lib.hid (HI3.out.below hbel)
  have HX4 := Lib.hid (HX3.out.below hbel)
  have HXB4 := Lib.hid (HXB3.out.below hbel)
  have HY4 := Lib.hid hY
  have HYB4 : Hid (RBlk w4 b3 (.slice (some ⟨w3.heap.size, 0, none⟩) 1 1) (.slice (some ⟨j2, 0, none⟩) 1 1) (.slice none 0 0) (.slice none 0 0) false true) := hYB
  rw [hj1] at HY4 HYB4 ⊢
  clear hW4 hbel hY hYB hj1 hj2 hb3 HB3 HV3 HI3 HX3 HXB3
  have y0 := HI4.out.cell
  have y1 := HI4.out.lt
  obtain ⟨z0, z1, z2, z3, z4, z5⟩ := HXB4.out.cells
  have zl := HXB4.out.lt
  go_wp2_with fail
  clear y0 y1 z0 z1 z2 z3 z4 z5 zl
  refine (compile_any _ _ sndL xR w4 HV4.out HX4.out (by decide) (by decide)).mono ?_
  rintro e w5 ⟨hq, hb5⟩
  rcases hq with ⟨hc, _⟩ | ⟨_, vF, L, rfl, hrf, hco⟩
  · exact absurd chk_x hc
  obtain ⟨va, vf, rfl, hra, hrff⟩ := id hrf
  obtain ⟨Aa, na, ca, rfl, _, _, _, _⟩ := hra.op
  obtain ⟨Af, nf, cf, rfl, _, _, _, _⟩ := hrff.op
  have HCO := Lib.hid hco
  have HRF5 := Lib.hid hrf
  obtain ⟨Fs, hFs⟩ : ∃ Fs, (trimF (compF sndL xR L)).states = Fs := ⟨_, rfl⟩
  rw [hFs] at HRF5 ⊢
  clear hra hrff hrf hco hFs
  go_upto_region 5 with (fail)
  have hx6 : Below w5.heap.size w5 (w5.alloc (.cells #[.int .i64 Fs, .slice Aa na ca, .slice Af nf cf] 48)) := al_below _ _
  have hf6 : FBlk (w5.alloc (.cells #[.int .i64 Fs, .slice Aa na ca, .slice Af nf cf] 48)) w5.heap.size (.int .i64 Fs) (.slice Aa na ca) (.slice Af nf cf) := heap_alloc_new w5 _
  obtain ⟨b4, hb4⟩ : ∃ b4, w5.heap.size = b4 := ⟨_, rfl⟩
  generalize hW6 : World.alloc w5 _ = wa at hx6 hf6 ⊢
  have hx46 : Below w4.heap.size w4 wa := bchain hb5 hx6
  have HBA := Lib.hid (bchain HB4.out hx46)
  have HVA := Lib.hid (HV4.out.below hx46)
  have HIA := Lib.hid (HI4.out.below hx46)
  have HXA := Lib.hid (HX4.out.below hx46)
  have HXBA := Lib.hid (HXB4.out.below hx46)
  have HYA := Lib.hid (HY4.out.below hx46)
  have HYBA := Lib.hid (HYB4.out.below hx46)
  have HRFA := Lib.hid (HRF5.out.below hx6)
  have HFBA := Lib.hid hf6
  rw [hb4] at HFBA ⊢
  clear hW6 hx6 hf6 hb4 hx46 hb5 HB4 HV4 HI4 HX4 HXB4 HY4 HYB4 HRF5
  have y0 := HIA.out.cell
  have y1 := HIA.out.lt
  obtain ⟨z0, z1, z2, z3, z4, z5⟩ := HXBA.out.cells
  have zl := HXBA.out.lt
  have HC0 : Hid (Below wa.heap.size wa wa) := Below.refl _ _
  have hxok : ROk xR := ⟨by decide, by decide, by decide⟩
  have HXOK := Lib.hid hxok
  have HYOK : Hid (ROk yR) := ⟨by decide, by decide, by decide⟩
  clear hxok
  go_wp2_with fail
  clear y0 y1 z0 z1 z2 z3 z4 z5 zl
  refine (psites_any _ _ _ sndL xR [1, 3, 3] _ (HVA.out.below (al_below _ _)) (HXA.out.below (al_below _ _)) (rdI_blk [1, 3, 3] (by decide) _) HXOK.out (by decide)).mono ?_
  rintro e cw1 ⟨⟨v9, rfl, ho⟩, hb⟩
  rw [sites_x] at ho
  obtain ⟨A9, n9, c9, rfl⟩ := own_sliceN ho
  have HO := Lib.hid ho.rd
  have HC1 : Hid (Below wa.heap.size wa cw1) := bchain (bchain (HC0).out (al_below _ _)) hb
  clear ho hb
  go_wp2_with fail
  refine (rsame_b _ _ [1] [1] _ (Rd.alloc HO.out _) (rdI_blk [1] (by decide) _)).mono ?_
  rintro e cw2 ⟨rfl, hb⟩
  rw [show sameB [1] [1] = true by decide]
  have HC2 : Hid (Below wa.heap.size wa cw2) := bchain (bchain (HC1).out (al_below _ _)) hb
  clear hb HO
  have y0 := (HIA.out.below (HC2).out).cell
  have y1 := (HIA.out.below (HC2).out).lt
  obtain ⟨z0, z1, z2, z3, z4, z5⟩ := (HXBA.out.below (HC2).out).cells
  have zl := (HXBA.out.below (HC2).out).lt
  go_wp2_with fail
  clear y0 y1 z0 z1 z2 z3 z4 z5 zl
  refine (papply_any _ _ _ sndL xR [1, 3, 3] _ (HVA.out.below (bchain HC2.out (al_below _ _))) (HXA.out.below (bchain HC2.out (al_below _ _))) (rdI_blk [1, 3, 3] (by decide) _) HXOK.out (by decide) (by decide)).mono ?_
  rintro e cw3 ⟨⟨v9, rfl, ho⟩, hb⟩
  rw [apply_x] at ho
  obtain ⟨A9, n9, c9, rfl⟩ := own_sliceN ho
  have HO := Lib.hid ho.rd
  have HC3 : Hid (Below wa.heap.size wa cw3) := bchain (bchain (HC2).out (al_below _ _)) hb
  clear ho hb
  go_wp2_with fail
  refine (rsame_b _ _ [1, 4, 3] [1, 4, 3] _ (Rd.alloc HO.out _) (rdI_blk [1, 4, 3] (by decide) _)).mono ?_
  rintro e cw4 ⟨rfl, hb⟩
  rw [show sameB [1, 4, 3] [1, 4, 3] = true by decide]
  have HC4 : Hid (Below wa.heap.size wa cw4) := bchain (bchain (HC3).out (al_below _ _)) hb
  clear hb HO
  have y0 := (HIA.out.below (HC4).out).cell
  have y1 := (HIA.out.below (HC4).out).lt
  obtain ⟨z0, z1, z2, z3, z4, z5⟩ := (HXBA.out.below (HC4).out).cells
  have zl := (HXBA.out.below (HC4).out).lt
  obtain ⟨t0, t1, t2, t3, t4, t5⟩ := (HYBA.out.below (HC4).out).cells
  have tl := (HYBA.out.below (HC4).out).lt
  go_wp2_with fail
  clear y0 y1 z0 z1 z2 z3 z4 z5 zl t0 t1 t2 t3 t4 t5 tl
  have hrs : RdRs (cw4.alloc (.cells #[.slice (some ⟨k1, 0, none⟩) 1 1, .slice (some ⟨k2, 0, none⟩) 1 1, .slice (some ⟨k3, 0, none⟩) 1 1, .slice none 0 0, .bool false, .bool false, .slice (some ⟨j1, 0, none⟩) 1 1, .slice (some ⟨j2, 0, none⟩) 1 1, .slice none 0 0, .slice none 0 0, .bool false, .bool true] 28)) (.slice (some ⟨cw4.heap.size, 0, none⟩) 2 2) [xR, yR] :=
    rdRs_two (heap_alloc_new cw4 _) (HXA.out.below (bchain HC4.out (al_below _ _))) (HYA.out.below (bchain HC4.out (al_below _ _)))
  have hl13 := rdI_blk [1, 3] (by decide) (cw4.alloc (.cells #[.slice (some ⟨k1, 0, none⟩) 1 1, .slice (some ⟨k2, 0, none⟩) 1 1, .slice (some ⟨k3, 0, none⟩) 1 1, .slice none 0 0, .bool false, .bool false, .slice (some ⟨j1, 0, none⟩) 1 1, .slice (some ⟨j2, 0, none⟩) 1 1, .slice none 0 0, .slice none 0 0, .bool false, .bool true] 28))
  rw [World.size_alloc] at hl13
  refine (plast_any _ _ _ sndL [xR, yR] [1, 3] _ (HVA.out.below (bchain HC4.out (bchain (al_below _ _) (al_below _ _)))) (hrs.below (al_below _ _)) hl13 ⟨fun R hR => by simp at hR; rcases hR with rfl | rfl; exact HXOK.out; exact HYOK.out, fun R hR => by simp at hR; rcases hR with rfl | rfl <;> decide, by decide⟩ (by decide) (by decide)).mono ?_
  rintro e cw5 ⟨⟨v9, rfl, ho⟩, hb⟩
  rw [last_xy] at ho
  obtain ⟨A9, n9, c9, rfl⟩ := rdI_slice ho
  have HO := Lib.hid ho
  have HC5 : Hid (Below wa.heap.size wa cw5) := bchain (bchain (bchain HC4.out (al_below _ _)) (al_below _ _)) hb
  clear ho hb hrs hl13
  go_wp2_with fail
  refine (rsame_b _ _ [1] [1] _ (Rd.alloc HO.out _) (rdI_blk [1] (by decide) _)).mono ?_
  rintro e cw6 ⟨rfl, hb⟩
  rw [show sameB [1] [1] = true by decide]
  have HC6 : Hid (Below wa.heap.size wa cw6) := bchain (bchain (HC5).out (al_below _ _)) hb
  clear hb HO
  have y0 := (HIA.out.below (HC6).out).cell
  have y1 := (HIA.out.below (HC6).out).lt
  go_wp2_with fail
  clear y0 y1
  refine (pchkR_any _ _ sndL zR cw6 (HVA.out.below HC6.out) ⟨_, _, _, _, rfl, rdI_nil _, rdI_nil _, rdC_nil _, rdC_nil _⟩ (by decide)).mono ?_
  rintro e cw7 ⟨rfl, hb⟩
  rw [chk_z]
  have HC7 : Hid (Below wa.heap.size wa cw7) := bchain HC6.out hb
  clear hb
  have y0 := (HIA.out.below (HC7).out).cell
  have y1 := (HIA.out.below (HC7).out).lt
  obtain ⟨t0, t1, t2, t3, t4, t5⟩ := (HYBA.out.below (HC7).out).cells
  have tl := (HYBA.out.below (HC7).out).lt
  go_wp2_with fail
  clear y0 y1 t0 t1 t2 t3 t4 t5 tl
  refine (back_any _ _ _ sndL yR [1] 2 _ (HVA.out.below (bchain HC7.out (al_below _ _))) (HYA.out.below (bchain HC7.out (al_below _ _))) (rdI_blk [1] (by decide) _) (by decide) (rgood_of chk_y) (by decide) (fun _ _ => few_4)).mono ?_
  rintro e cw8 ⟨⟨v9, rfl, ho⟩, hb⟩
  rw [back_y] at ho
  obtain ⟨A9, n9, c9, rfl, _, _, _, _⟩ := id ho.op
  have HO := Lib.hid ho
  have HC8 : Hid (Below wa.heap.size wa cw8) := bchain (bchain HC7.out (al_below _ _)) hb
  clear ho hb
  go_wp2_with fail
  have q0 := rdI_blk [1] (by decide) cw8
  have q1 := rdI_blk [1, 4] (by decide) (cw8.alloc (.cells #[.int .i64 1] 3))
  have q2 := rdL_two (Rd.alloc q0 (.cells #[.int .i64 1, .int .i64 4] 3)) q1
  simp only [World.size_alloc] at q1 q2
  refine (rsameL_any _ _ [[1], [1, 4]] [[1], [1, 4]] _ (HO.out.below (bchain (bchain (al_below _ _) (al_below _ _)) (al_below _ _))) q2).mono ?_
  rintro e cw9 ⟨rfl, hb⟩
  rw [decide_eq_true rfl]
  have HC9 : Hid (Below wa.heap.size wa cw9) := bchain (bchain (bchain (bchain HC8.out (al_below _ _)) (al_below _ _)) (al_below _ _)) hb
  clear hb HO q0 q1 q2
  have HGC : Hid (Good (compF sndL xR L)) := comp_good HCO.out (by decide) (rgood_of chk_x)
  have HGT : Hid (Good (trimF (compF sndL xR L))) := trim_good HGC.out
  have HAC : Hid (∀ ys, accB (trimF (compF sndL xR L)) [1, 3, 3] ys = decide (ys = [1, 4, 3])) := by
    intro ys
    rw [trim_acc HGC.out]
    have := comp_acc (out := ys) HCO.out (rgood_of chk_x) (v := [1, 3, 3]) (by decide)
    rw [apply_x] at this
    by_cases h : ys = [1, 4, 3]
    · rw [this.2 h, decide_eq_true h]
    · rw [decide_eq_false h]
      cases hq : accB (compF sndL xR L) [1, 3, 3] ys
      · rfl
      · exact absurd (this.1 hq) h
  obtain ⟨p0, p1, p2, _, _, _⟩ := (HFBA.out.below (HC9).out).facts
  have pl := (HFBA.out.below (HC9).out).lt
  go_wp2_with fail
  clear p0 p1 p2 pl
  have q0 := rdI_blk [1, 3, 3] (by decide) cw9
  have q1 := rdI_blk [1, 4, 3] (by decide) (cw9.alloc (.cells #[.int .i64 1, .int .i64 3, .int .i64 3] 3))
  simp only [World.size_alloc] at q1
  refine (accepts_any _ _ _ (trimF (compF sndL xR L)) [1, 3, 3] [1, 4, 3] _ (HRFA.out.below (bchain (bchain (HC9).out (al_below _ _)) (al_below _ _))) (Rd.alloc q0 _) q1 HGT.out.right HGT.out.s2 (by decide) (by decide)).mono ?_
  rintro e cw10 ⟨rfl, hb⟩
  rw [HAC.out, show decide (([1, 4, 3] : List Int) = [1, 4, 3]) = true by decide]
  have HC10 : Hid (Below wa.heap.size wa cw10) := bchain (bchain (bchain (HC9).out (al_below _ _)) (al_below _ _)) hb
  clear hb q0 q1
  obtain ⟨p0, p1, p2, _, _, _⟩ := (HFBA.out.below (HC10).out).facts
  have pl := (HFBA.out.below (HC10).out).lt
  go_wp2_with fail
  clear p0 p1 p2 pl
  have q0 := rdI_blk [1, 3, 3] (by decide) cw10
  have q1 := rdI_blk [1, 3, 3] (by decide) (cw10.alloc (.cells #[.int .i64 1, .int .i64 3, .int .i64 3] 3))
  simp only [World.size_alloc] at q1
  refine (accepts_any _ _ _ (trimF (compF sndL xR L)) [1, 3, 3] [1, 3, 3] _ (HRFA.out.below (bchain (bchain (HC10).out (al_below _ _)) (al_below _ _))) (Rd.alloc q0 _) q1 HGT.out.right HGT.out.s2 (by decide) (by decide)).mono ?_
  rintro e cw11 ⟨rfl, hb⟩
  rw [HAC.out, show decide (([1, 3, 3] : List Int) = [1, 4, 3]) = false by decide]
  have HC11 : Hid (Below wa.heap.size wa cw11) := bchain (bchain (bchain (HC10).out (al_below _ _)) (al_below _ _)) hb
  clear hb q0 q1
  go_wp2_with fail
  go_ret
  exact ⟨rfl, bchain HBA.out HC11.out⟩
end Go.Proofs.Ytdijlakeonionaa
