/-
  awake returns true.
-/
import Derived.Test.YtmeppkkoepmlnaaT23
namespace Go.Proofs.Ytmeppkkoepmlnaa
open Go.ChangeShapes Go.WideShapes Go.ChangeAt Go.RowKit
theorem ex_e1 : wrongE 24 [[1], [2]] = 0 := rfl
theorem ex_e2 : wrongE 24 [[2], [3, 3]] = 0 := rfl
theorem ex_e3 : wrongE 24 [[1], []] = 0 := rfl
theorem ex_e4 : wrongE 60 [[]] = 0 := rfl
theorem ex_e5 : wrongE 24 [[0], []] = 1 := rfl
set_option maxHeartbeats 8000000 in
set_option maxRecDepth 100000 in
theorem awake_any (w : World) : Calls Try.prog 15 #[] w fun e w' => e = .returned (.bool true) ∧ Below w.heap.size w w' := by
  go_enter Try.func15, Try.ntmps15
  go_wp2_with fail
  refine (pair_yes _ _ [1] [2] _ ?_ ?_ (by decide) (by decide) ex_e1).mono ?_
  · exact (rdI_one w 1 _ rfl).alloc _
  · exact rdI_one _ 2 _ (by simp)
  rintro e w1 ⟨⟨vF, rfl, ho1⟩, hb1⟩
  have h1 := ho1.rd
  clear ho1
  obtain ⟨va, vf, he, ha, hf⟩ := id h1
  subst he
  obtain ⟨A1, n1, c1, rfl, _, _, _, _⟩ := ha.op
  obtain ⟨B1, m1, d1, rfl, _, _, _, _⟩ := hf.op
  have HG1 := Lib.hid h1
  clear ha hf h1
  have HB1 := Lib.hid (alloc2_below hb1)
  clear hb1
  go_wp2_with fail
  generalize hX : World.alloc w1 _ = X1
  have BX1 : Hid (Box X1 w1.heap.size (pairF [1] [2])) := by rw [← hX]; exact Box.make HG1.out
  have HBX1 : Hid (Below w.heap.size w X1) := by rw [← hX]; exact bchain HB1.out ((Below.refl _ _).alloc (Nat.le_refl _) _)
  have hs1 : X1.heap.size = w1.heap.size + 1 := by rw [← hX]; simp
  have HS1 := Lib.hid hs1
  rw [← hs1]
  clear hX hs1 HG1 HB1
  refine (pair_yes _ _ [2] [3, 3] _ ?_ ?_ (by decide) (by decide) ex_e2).mono ?_
  · exact (rdI_one _ 2 _ rfl).alloc _
  · exact rdI_two _ 3 3 _ (by simp)
  rintro e w2 ⟨⟨vF, rfl, ho2⟩, hb2⟩
  have h2 := ho2.rd
  clear ho2
  obtain ⟨va, vf, he, ha, hf⟩ := id h2
  subst he
  obtain ⟨A2, n2, c2, rfl, _, _, _, _⟩ := ha.op
  obtain ⟨B2, m2, d2, rfl, _, _, _, _⟩ := hf.op
  have HG2 := Lib.hid h2
  clear ha hf h2
  have HB2 := Lib.hid (alloc2_below hb2)
  have BX2 := Lib.hid (BX1.out.below HB2.out)
  have HBW2 := Lib.hid (bchain HBX1.out HB2.out)
  clear hb2 BX1 HB2 HBX1 HS1
  generalize w1.heap.size = R1 at BX2 ⊢
  obtain ⟨A, n, c, A', n', c', q0, q1, q2, hlt, HP1⟩ := BX2.out.open
  go_wp2_with fail
  generalize hX : World.alloc w2 _ = X2
  refine (compose_any _ _ (pairF [1] [2]) (pairF [2] [3, 3]) _ ?_ ?_ goodP1 goodP2 ex_many).mono ?_
  · rw [← hX]; exact HP1.out.alloc _
  · rw [← hX]; exact HG2.out.alloc _
  rintro e w3 ⟨⟨vF, rfl, ho3⟩, hb3⟩
  have h3 := ho3.rd
  clear ho3
  obtain ⟨va, vf, he, ha, hf⟩ := id h3
  subst he
  obtain ⟨A3, n3, c3, rfl, _, _, _, _⟩ := ha.op
  obtain ⟨B3, m3, d3, rfl, _, _, _, _⟩ := hf.op
  have HG3 := Lib.hid h3
  clear ha hf h3
  have HBW3 : Hid (Below w.heap.size w w3) := bchain (bchain HBW2.out (by rw [← hX]; exact (Below.refl _ _).alloc (Nat.le_refl _) _)) hb3
  clear hb3 hX BX2 HBW2 HP1 HG2 q0 q1 q2 hlt
  go_wp2_with fail
  generalize hX : World.alloc w3 _ = X3
  have BC : Hid (Box X3 w3.heap.size exC) := by rw [← hX]; exact Box.make HG3.out
  have HBW : Hid (Below w.heap.size w X3) := by rw [← hX]; exact bchain HBW3.out ((Below.refl _ _).alloc (Nat.le_refl _) _)
  have hs1 : X3.heap.size = w3.heap.size + 1 := by rw [← hX]; simp
  rw [← hs1]
  clear hX hs1 HG3 HBW3
  generalize w3.heap.size = RC at BC ⊢
  refine (pair_yes _ _ [1] [] _ ?_ ?_ (by decide) (by decide) ex_e3).mono ?_
  · exact rdI_one _ 1 _ rfl
  · exact rdI_nil _
  rintro e w4 ⟨⟨vF, rfl, ho4⟩, hb4⟩
  have h4 := ho4.rd
  clear ho4
  obtain ⟨va, vf, he, ha, hf⟩ := id h4
  subst he
  obtain ⟨A4, n4, c4, rfl, _, _, _, _⟩ := ha.op
  obtain ⟨B4, m4, d4, rfl, _, _, _, _⟩ := hf.op
  have HG4 := Lib.hid h4
  clear ha hf h4
  have hb4 := alloc_below hb4
  have HBW := Lib.hid (bchain HBW.out hb4)
  have BC := Lib.hid (BC.out.below hb4)
  clear hb4
  go_wp2_with fail
  generalize hX : World.alloc w4 _ = X4
  refine (star_yes _ (pairF [1] []) _ ?_ goodP3.sane ex_full).mono ?_
  · rw [← hX]; exact HG4.out.alloc _
  rintro e w5 ⟨⟨vF, rfl, ho5⟩, hb5⟩
  have h5 := ho5.rd
  clear ho5
  obtain ⟨va, vf, he, ha, hf⟩ := id h5
  subst he
  obtain ⟨A5, n5, c5, rfl, _, _, _, _⟩ := ha.op
  obtain ⟨B5, m5, d5, rfl, _, _, _, _⟩ := hf.op
  have HG5 := Lib.hid h5
  clear ha hf h5
  have hb5 : Below w4.heap.size w4 w5 := alloc_below (by rw [← hX] at hb5; exact hb5)
  have HBW := Lib.hid (bchain HBW.out hb5)
  have BC := Lib.hid (BC.out.below hb5)
  clear hb5 hX HG4
  go_wp2_with fail
  generalize hX : World.alloc w5 _ = X5
  have BS : Hid (Box X5 w5.heap.size exS) := by rw [← hX]; exact Box.make HG5.out
  have hbx : Below w5.heap.size w5 X5 := by rw [← hX]; exact (Below.refl _ _).alloc (Nat.le_refl _) _
  have HBW := Lib.hid (bchain HBW.out hbx)
  have BC := Lib.hid (BC.out.below hbx)
  clear hX hbx HG5
  generalize w5.heap.size = RS at BS ⊢
  refine (ident_yes _ [] _ (rdI_nil _) (by decide) ex_e4).mono ?_
  rintro e w6 ⟨⟨vF, rfl, ho6⟩, hb6⟩
  have h6 := ho6.rd
  clear ho6
  obtain ⟨va, vf, he, ha, hf⟩ := id h6
  subst he
  obtain ⟨A6, n6, c6, rfl, _, _, _, _⟩ := ha.op
  obtain ⟨B6, m6, d6, rfl, _, _, _, _⟩ := hf.op
  have HG6 := Lib.hid h6
  clear ha hf h6
  have HBW := Lib.hid (bchain HBW.out hb6)
  have BC := Lib.hid (BC.out.below hb6)
  have BS := Lib.hid (BS.out.below hb6)
  clear hb6
  go_wp2_with fail
  generalize hX : World.alloc w6 _ = X6
  have BN : Hid (Box X6 w6.heap.size exN) := by rw [← hX]; exact Box.make HG6.out
  have hbx : Below w6.heap.size w6 X6 := by rw [← hX]; exact (Below.refl _ _).alloc (Nat.le_refl _) _
  have hs1 : X6.heap.size = w6.heap.size + 1 := by rw [← hX]; simp
  rw [← hs1]
  have HBW := Lib.hid (bchain HBW.out hbx)
  have BC := Lib.hid (BC.out.below hbx)
  have BS := Lib.hid (BS.out.below hbx)
  clear hX hbx HG6 hs1
  generalize w6.heap.size = RN at BN ⊢
  refine (pair_no _ _ [0] [] _ ?_ ?_ (by decide) (by decide) (by rw [ex_e5]; decide)).mono ?_
  · exact rdI_one _ 0 _ rfl
  · exact rdI_nil _
  rintro e w7 ⟨rfl, hb7⟩
  rw [ex_e5]
  have hb7 := alloc_below hb7
  have HBW := Lib.hid (bchain HBW.out hb7)
  have BC := Lib.hid (BC.out.below hb7)
  have BS := Lib.hid (BS.out.below hb7)
  have BN := Lib.hid (BN.out.below hb7)
  clear hb7
  obtain ⟨A0, n0, c0, A0', n0', c0', y0, y1, y2, hlt, HRD⟩ := BC.out.open
  go_wp2_with fail
  generalize hX : World.alloc w7 _ = X7
  have hbx : Below w7.heap.size w7 X7 := by rw [← hX]; exact (Below.refl _ _).alloc (Nat.le_refl _) _
  refine (check_any _ exC _ (HRD.out.below hbx)).mono ?_
  rintro e w8 ⟨rfl, hbc⟩
  rw [(chk_ok exC).2 goodC]
  have hbc := bchain hbx hbc
  have HBW := Lib.hid (bchain HBW.out hbc)
  have BC := Lib.hid (BC.out.below hbc)
  have BS := Lib.hid (BS.out.below hbc)
  have BN := Lib.hid (BN.out.below hbc)
  clear hbc y0 y1 y2 hlt HRD hbx hX
  obtain ⟨A0, n0, c0, A0', n0', c0', y0, y1, y2, hlt, HRD⟩ := BS.out.open
  go_wp2_with fail
  refine (check_any _ exS _ HRD.out).mono ?_
  rintro e w9 ⟨rfl, hbc⟩
  rw [(chk_ok exS).2 goodS]
  have HBW := Lib.hid (bchain HBW.out hbc)
  have BC := Lib.hid (BC.out.below hbc)
  have BS := Lib.hid (BS.out.below hbc)
  have BN := Lib.hid (BN.out.below hbc)
  clear hbc y0 y1 y2 hlt HRD
  obtain ⟨A0, n0, c0, A0', n0', c0', y0, y1, y2, hlt, HRD⟩ := BN.out.open
  go_wp2_with fail
  refine (check_any _ exN _ HRD.out).mono ?_
  rintro e w10 ⟨rfl, hbc⟩
  rw [(chk_ok exN).2 goodN]
  have HBW := Lib.hid (bchain HBW.out hbc)
  have BC := Lib.hid (BC.out.below hbc)
  have BS := Lib.hid (BS.out.below hbc)
  have BN := Lib.hid (BN.out.below hbc)
  clear hbc y0 y1 y2 hlt HRD
  obtain ⟨A0, n0, c0, A0', n0', c0', y0, y1, y2, hlt, HRD⟩ := BC.out.open
  go_wp2_with fail
  refine (accepts_any _ _ _ exC [1] [3, 3] _ ?_ ?_ ?_ goodC.right goodC.s2 (by decide) (by decide)).mono ?_
  · first | exact HRD.out | exact HRD.out.alloc _ | exact (HRD.out.alloc _).alloc _
  · first | exact rdI_nil _ | exact rdI_one _ _ _ rfl | exact rdI_two _ _ _ _ rfl | exact (rdI_one _ _ _ rfl).alloc _
  · first | exact rdI_nil _ | exact rdI_one _ _ _ (by simp) | exact rdI_two _ _ _ _ (by simp)
  rintro e w11 ⟨rfl, hbc⟩
  rw [ex1]
  have hbc := (by first | exact hbc | exact alloc_below hbc | exact alloc2_below hbc : Below w10.heap.size w10 w11)
  have HBW := Lib.hid (bchain HBW.out hbc)
  have BC := Lib.hid (BC.out.below hbc)
  have BS := Lib.hid (BS.out.below hbc)
  have BN := Lib.hid (BN.out.below hbc)
  clear hbc y0 y1 y2 hlt HRD
  obtain ⟨A0, n0, c0, A0', n0', c0', y0, y1, y2, hlt, HRD⟩ := BC.out.open
  go_wp2_with fail
  refine (accepts_any _ _ _ exC [1] [3] _ ?_ ?_ ?_ goodC.right goodC.s2 (by decide) (by decide)).mono ?_
  · first | exact HRD.out | exact HRD.out.alloc _ | exact (HRD.out.alloc _).alloc _
  · first | exact rdI_nil _ | exact rdI_one _ _ _ rfl | exact rdI_two _ _ _ _ rfl | exact (rdI_one _ _ _ rfl).alloc _
  · first | exact rdI_nil _ | exact rdI_one _ _ _ (by simp) | exact rdI_two _ _ _ _ (by simp)
  rintro e w12 ⟨rfl, hbc⟩
  rw [ex2]
  have hbc := (by first | exact hbc | exact alloc_below hbc | exact alloc2_below hbc : Below w11.heap.size w11 w12)
  have HBW := Lib.hid (bchain HBW.out hbc)
  have BC := Lib.hid (BC.out.below hbc)
  have BS := Lib.hid (BS.out.below hbc)
  have BN := Lib.hid (BN.out.below hbc)
  clear hbc y0 y1 y2 hlt HRD
  obtain ⟨A0, n0, c0, A0', n0', c0', y0, y1, y2, hlt, HRD⟩ := BC.out.open
  go_wp2_with fail
  refine (accepts_any _ _ _ exC [] [] _ ?_ ?_ ?_ goodC.right goodC.s2 (by decide) (by decide)).mono ?_
  · first | exact HRD.out | exact HRD.out.alloc _ | exact (HRD.out.alloc _).alloc _
  · first | exact rdI_nil _ | exact rdI_one _ _ _ rfl | exact rdI_two _ _ _ _ rfl | exact (rdI_one _ _ _ rfl).alloc _
  · first | exact rdI_nil _ | exact rdI_one _ _ _ (by simp) | exact rdI_two _ _ _ _ (by simp)
  rintro e w13 ⟨rfl, hbc⟩
  rw [ex3]
  have hbc := (by first | exact hbc | exact alloc_below hbc | exact alloc2_below hbc : Below w12.heap.size w12 w13)
  have HBW := Lib.hid (bchain HBW.out hbc)
  have BC := Lib.hid (BC.out.below hbc)
  have BS := Lib.hid (BS.out.below hbc)
  have BN := Lib.hid (BN.out.below hbc)
  clear hbc y0 y1 y2 hlt HRD
  obtain ⟨A0, n0, c0, A0', n0', c0', y0, y1, y2, hlt, HRD⟩ := BS.out.open
  go_wp2_with fail
  refine (accepts_any _ _ _ exS [1, 1] [] _ ?_ ?_ ?_ goodS.right goodS.s2 (by decide) (by decide)).mono ?_
  · first | exact HRD.out | exact HRD.out.alloc _ | exact (HRD.out.alloc _).alloc _
  · first | exact rdI_nil _ | exact rdI_one _ _ _ rfl | exact rdI_two _ _ _ _ rfl | exact (rdI_one _ _ _ rfl).alloc _
  · first | exact rdI_nil _ | exact rdI_one _ _ _ (by simp) | exact rdI_two _ _ _ _ (by simp)
  rintro e w14 ⟨rfl, hbc⟩
  rw [ex4]
  have hbc := (by first | exact hbc | exact alloc_below hbc | exact alloc2_below hbc : Below w13.heap.size w13 w14)
  have HBW := Lib.hid (bchain HBW.out hbc)
  have BC := Lib.hid (BC.out.below hbc)
  have BS := Lib.hid (BS.out.below hbc)
  have BN := Lib.hid (BN.out.below hbc)
  clear hbc y0 y1 y2 hlt HRD
  obtain ⟨A0, n0, c0, A0', n0', c0', y0, y1, y2, hlt, HRD⟩ := BS.out.open
  go_wp2_with fail
  refine (accepts_any _ _ _ exS [] [] _ ?_ ?_ ?_ goodS.right goodS.s2 (by decide) (by decide)).mono ?_
  · first | exact HRD.out | exact HRD.out.alloc _ | exact (HRD.out.alloc _).alloc _
  · first | exact rdI_nil _ | exact rdI_one _ _ _ rfl | exact rdI_two _ _ _ _ rfl | exact (rdI_one _ _ _ rfl).alloc _
  · first | exact rdI_nil _ | exact rdI_one _ _ _ (by simp) | exact rdI_two _ _ _ _ (by simp)
  rintro e w15 ⟨rfl, hbc⟩
  rw [ex5]
  have hbc := (by first | exact hbc | exact alloc_below hbc | exact alloc2_below hbc : Below w14.heap.size w14 w15)
  have HBW := Lib.hid (bchain HBW.out hbc)
  have BC := Lib.hid (BC.out.below hbc)
  have BS := Lib.hid (BS.out.below hbc)
  have BN := Lib.hid (BN.out.below hbc)
  clear hbc y0 y1 y2 hlt HRD
  obtain ⟨A0, n0, c0, A0', n0', c0', y0, y1, y2, hlt, HRD⟩ := BS.out.open
  go_wp2_with fail
  refine (accepts_any _ _ _ exS [1] [1] _ ?_ ?_ ?_ goodS.right goodS.s2 (by decide) (by decide)).mono ?_
  · first | exact HRD.out | exact HRD.out.alloc _ | exact (HRD.out.alloc _).alloc _
  · first | exact rdI_nil _ | exact rdI_one _ _ _ rfl | exact rdI_two _ _ _ _ rfl | exact (rdI_one _ _ _ rfl).alloc _
  · first | exact rdI_nil _ | exact rdI_one _ _ _ (by simp) | exact rdI_two _ _ _ _ (by simp)
  rintro e w16 ⟨rfl, hbc⟩
  rw [ex6]
  have hbc := (by first | exact hbc | exact alloc_below hbc | exact alloc2_below hbc : Below w15.heap.size w15 w16)
  have HBW := Lib.hid (bchain HBW.out hbc)
  have BC := Lib.hid (BC.out.below hbc)
  have BS := Lib.hid (BS.out.below hbc)
  have BN := Lib.hid (BN.out.below hbc)
  clear hbc y0 y1 y2 hlt HRD
  obtain ⟨A0, n0, c0, A0', n0', c0', y0, y1, y2, hlt, HRD⟩ := BN.out.open
  go_wp2_with fail
  refine (accepts_any _ _ _ exN [] [] _ ?_ ?_ ?_ goodN.right goodN.s2 (by decide) (by decide)).mono ?_
  · first | exact HRD.out | exact HRD.out.alloc _ | exact (HRD.out.alloc _).alloc _
  · first | exact rdI_nil _ | exact rdI_one _ _ _ rfl | exact rdI_two _ _ _ _ rfl | exact (rdI_one _ _ _ rfl).alloc _
  · first | exact rdI_nil _ | exact rdI_one _ _ _ (by simp) | exact rdI_two _ _ _ _ (by simp)
  rintro e w17 ⟨rfl, hbc⟩
  rw [ex7]
  have hbc := (by first | exact hbc | exact alloc_below hbc | exact alloc2_below hbc : Below w16.heap.size w16 w17)
  have HBW := Lib.hid (bchain HBW.out hbc)
  have BC := Lib.hid (BC.out.below hbc)
  have BS := Lib.hid (BS.out.below hbc)
  have BN := Lib.hid (BN.out.below hbc)
  clear hbc y0 y1 y2 hlt HRD
  obtain ⟨A0, n0, c0, A0', n0', c0', y0, y1, y2, hlt, HRD⟩ := BN.out.open
  go_wp2_with fail
  refine (accepts_any _ _ _ exN [1] [1] _ ?_ ?_ ?_ goodN.right goodN.s2 (by decide) (by decide)).mono ?_
  · first | exact HRD.out | exact HRD.out.alloc _ | exact (HRD.out.alloc _).alloc _
  · first | exact rdI_nil _ | exact rdI_one _ _ _ rfl | exact rdI_two _ _ _ _ rfl | exact (rdI_one _ _ _ rfl).alloc _
  · first | exact rdI_nil _ | exact rdI_one _ _ _ (by simp) | exact rdI_two _ _ _ _ (by simp)
  rintro e w18 ⟨rfl, hbc⟩
  rw [ex8]
  have hbc := (by first | exact hbc | exact alloc_below hbc | exact alloc2_below hbc : Below w17.heap.size w17 w18)
  have HBW := Lib.hid (bchain HBW.out hbc)
  have BC := Lib.hid (BC.out.below hbc)
  have BS := Lib.hid (BS.out.below hbc)
  have BN := Lib.hid (BN.out.below hbc)
  clear hbc y0 y1 y2 hlt HRD
  go_wp2_with fail
  go_ret
  exact ⟨rfl, HBW.out⟩
end Go.Proofs.Ytmeppkkoepmlnaa
