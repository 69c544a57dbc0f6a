/-
  awake: the example of the chapter.
-/
import Derived.Test.YtcmfgblfgldonaaNP3
namespace Go.Proofs.Ytcmfgblfgldonaa
open Go.ChangeShapes Go.WideShapes Go.ChangeAt Go.RowKit
def zeroN : PNet := ⟨0, [], []⟩
theorem zero_chk : chkN zeroN = 2 := by kernel_rfl
theorem rdS_nil (w : World) : RdS w (.slice none 0 0) [] := ⟨none, 0, rfl, by simp, by decide, rfl, fun h => absurd h (Nat.lt_irrefl 0)⟩
theorem rdI_nil (w : World) : RdI w (.slice none 0 0) [] := ⟨none, 0, rfl, by simp, by decide, rfl, fun h => absurd h (Nat.lt_irrefl 0)⟩
theorem below_al {W w' : World} {o : Obj} (h : Below (W.alloc o).heap.size (W.alloc o) w') : Below W.heap.size W w' := ((Below.refl _ _).alloc (Nat.le_refl _) o).trans (h.mono (by simp))
theorem same_yes (xs : List Int) : sameB xs xs = true := (sameB_iff xs xs).2 rfl
set_option maxHeartbeats 4000000 in
set_option maxRecDepth 100000 in
theorem awake_any (w : World) : Calls Try.prog 11 #[] w fun e w' => e = .returned (.bool true) ∧ Below w.heap.size w w' := by
  go_enter Try.func11, Try.ntmps11
  go_wp2_with fail
  generalize hW : World.alloc (World.alloc (World.alloc w _) _) _ = W
  have HV : Hid (RdN W (.agg #[.int .i64 3, .slice (some ⟨w.heap.size, 0, none⟩) 2 2, .slice (some ⟨w.heap.size + 1, 0, none⟩) 1 1]) exN) := by
    rw [Hid, ← hW]
    exact ⟨_, _, rfl, (rdS_row w _ rfl exN.steps (by decide)).below (by repeat (first | assumption | exact Below.refl _ _ | refine Below.alloc ?_ (by first | omega | (simp; done) | (simp; omega)) _ | refine Below.drew ?_ | refine below_drewN ?_ _ | refine Below.setCell ?_ (by first | omega | (simp; done) | (simp; omega)) _)), (rdI_row _ _ (by simp) exN.final (by decide)).below ((Below.refl _ _).alloc (Nat.le_refl _) _)⟩
  have HNB : Hid (NBlk W (w.heap.size + 1 + 1) (.int .i64 3) (.slice (some ⟨w.heap.size, 0, none⟩) 2 2) (.slice (some ⟨w.heap.size + 1, 0, none⟩) 1 1)) := by
    rw [Hid, NBlk, ← hW]
    have := heap_alloc_new ((w.alloc (.cells (stepsCells exN.steps).toArray 42)).alloc (.cells (exN.final.map (Value.int .i64)).toArray 3)) (.cells #[.int .i64 3, .slice (some ⟨w.heap.size, 0, none⟩) 2 2, .slice (some ⟨w.heap.size + 1, 0, none⟩) 1 1] 25)
    simp only [World.size_alloc] at this
    exact this
  have HB : Hid (Below w.heap.size w W) := by rw [← hW]; repeat (first | assumption | exact Below.refl _ _ | refine Below.alloc ?_ (by first | omega | (simp; done) | (simp; omega)) _ | refine Below.drew ?_ | refine below_drewN ?_ _ | refine Below.setCell ?_ (by first | omega | (simp; done) | (simp; omega)) _)
  clear hW
  refine (check_any _ exN _ HV.out).mono ?_
  rintro e W2 ⟨rfl, hb⟩
  rw [ex_chk]
  have HB2 := Lib.hid (bchain HB.out hb)
  have HV2 := Lib.hid (HV.out.below hb)
  have HNB2 := Lib.hid (HNB.out.below hb)
  clear HB HV HNB
  have HB := HB2
  have HV := HV2
  have HNB := HNB2
  clear HB2 HV2 HNB2
  clear hb
  obtain ⟨p0, p1, p2, hpl⟩ := HNB.out.facts
  go_wp2_with fail
  clear p0 p1 p2 hpl
  refine (check_any _ zeroN _ ⟨_, _, rfl, rdS_nil _, rdI_nil _⟩).mono ?_
  rintro e W2 ⟨rfl, hb⟩
  rw [zero_chk]
  have HB2 := Lib.hid (bchain HB.out hb)
  have HV2 := Lib.hid (HV.out.below hb)
  have HNB2 := Lib.hid (HNB.out.below hb)
  clear HB HV HNB
  have HB := HB2
  have HV := HV2
  have HNB := HNB2
  clear HB2 HV2 HNB2
  clear hb
  obtain ⟨p0, p1, p2, hpl⟩ := HNB.out.facts
  go_wp2_with fail
  clear p0 p1 p2 hpl
  refine (endless_any _ exN 3 _ HV.out ex_good rfl).mono ?_
  rintro e W2 ⟨rfl, hb⟩
  rw [ex_end]
  have HB2 := Lib.hid (bchain HB.out hb)
  have HV2 := Lib.hid (HV.out.below hb)
  have HNB2 := Lib.hid (HNB.out.below hb)
  clear HB HV HNB
  have HB := HB2
  have HV := HV2
  have HNB := HNB2
  clear HB2 HV2 HNB2
  clear hb
  obtain ⟨p0, p1, p2, hpl⟩ := HNB.out.facts
  go_wp2_with fail
  clear p0 p1 p2 hpl
  refine (accepts_any _ _ exN 3 [] _ HV.out (rdI_nil _) ex_good rfl).mono ?_
  rintro e W2 ⟨rfl, hb⟩
  rw [ex_acc0]
  have HB2 := Lib.hid (bchain HB.out hb)
  have HV2 := Lib.hid (HV.out.below hb)
  have HNB2 := Lib.hid (HNB.out.below hb)
  clear HB HV HNB
  have HB := HB2
  have HV := HV2
  have HNB := HNB2
  clear HB2 HV2 HNB2
  clear hb
  obtain ⟨p0, p1, p2, hpl⟩ := HNB.out.facts
  go_wp2_with fail
  clear p0 p1 p2 hpl
  refine (accepts_any _ _ exN 3 [1, 2, 2] _ (HV.out.below ((Below.refl _ _).alloc (Nat.le_refl _) _)) (rdI_row _ _ rfl [1, 2, 2] (by decide)) ex_good rfl).mono ?_
  rintro e W2 ⟨rfl, hb⟩
  rw [ex_acc]
  have HB2 := Lib.hid (bchain HB.out (below_al hb))
  have HV2 := Lib.hid (HV.out.below (below_al hb))
  have HNB2 := Lib.hid (HNB.out.below (below_al hb))
  clear HB HV HNB
  have HB := HB2
  have HV := HV2
  have HNB := HNB2
  clear HB2 HV2 HNB2
  clear hb
  obtain ⟨p0, p1, p2, hpl⟩ := HNB.out.facts
  go_wp2_with fail
  clear p0 p1 p2 hpl
  refine (words_any _ exN 3 2 _ HV.out ex_good rfl).mono ?_
  rintro e W3 ⟨⟨vl, rfl, hl⟩, hb⟩
  rw [ex_words2] at hl
  have HL := Lib.hid hl.rd
  have HB2 := Lib.hid (bchain HB.out hb)
  have HV2 := Lib.hid (HV.out.below hb)
  have HNB2 := Lib.hid (HNB.out.below hb)
  clear HB HV HNB
  have HB := HB2
  have HV := HV2
  have HNB := HNB2
  clear HB2 HV2 HNB2
  clear hb hl
  go_wp2_with fail
  refine (equal_any _ _ [[1], [1, 2]] [[1], [1, 2]] _ (HL.out.below (by repeat (first | assumption | exact Below.refl _ _ | refine Below.alloc ?_ (by first | omega | (simp; done) | (simp; omega)) _ | refine Below.drew ?_ | refine below_drewN ?_ _ | refine Below.setCell ?_ (by first | omega | (simp; done) | (simp; omega)) _))) (rdL_two _ _ (by simp) _ _ [1] [1, 2] ((rdI_row _ _ rfl [1] (by decide)).below ((Below.refl _ _).alloc (Nat.le_refl _) _)) (rdI_row _ _ (by simp) [1, 2] (by decide)))).mono ?_
  rintro e W4 ⟨rfl, hb⟩
  rw [decide_eq_true rfl]
  have HB2 := Lib.hid (bchain HB.out (below_al (below_al (below_al hb))))
  have HV2 := Lib.hid (HV.out.below (below_al (below_al (below_al hb))))
  have HNB2 := Lib.hid (HNB.out.below (below_al (below_al (below_al hb))))
  clear HB HV HNB
  have HB := HB2
  have HV := HV2
  have HNB := HNB2
  clear HB2 HV2 HNB2
  clear hb HL
  obtain ⟨p0, p1, p2, hpl⟩ := HNB.out.facts
  go_wp2_with fail
  clear p0 p1 p2 hpl
  refine (words_any _ exN 3 5 _ HV.out ex_good rfl).mono ?_
  rintro e W5 ⟨⟨vl5, rfl, hl⟩, hb⟩
  rw [ex_words5] at hl
  obtain ⟨A5, n5, c5, rfl, _, _, hn5, _⟩ := hl.rd.op
  have hn5 : 0 = n5 := hn5.out
  subst hn5
  have HB2 := Lib.hid (bchain HB.out hb)
  have HV2 := Lib.hid (HV.out.below hb)
  have HNB2 := Lib.hid (HNB.out.below hb)
  clear HB HV HNB
  have HB := HB2
  have HV := HV2
  have HNB := HNB2
  clear HB2 HV2 HNB2
  clear hb hl
  obtain ⟨p0, p1, p2, hpl⟩ := HNB.out.facts
  go_wp2_with fail
  clear p0 p1 p2 hpl
  refine (follow_any _ _ exN 3 [1] _ (HV.out.below ((Below.refl _ _).alloc (Nat.le_refl _) _)) (rdI_row _ _ rfl [1] (by decide)) ex_good rfl).mono ?_
  rintro e W6 ⟨⟨vl6, rfl, hl⟩, hb⟩
  rw [ex_follow] at hl
  have HL := Lib.hid hl.rd
  have HB2 := Lib.hid (bchain HB.out (below_al hb))
  have HV2 := Lib.hid (HV.out.below (below_al hb))
  have HNB2 := Lib.hid (HNB.out.below (below_al hb))
  clear HB HV HNB
  have HB := HB2
  have HV := HV2
  have HNB := HNB2
  clear HB2 HV2 HNB2
  clear hb hl
  go_wp2_with fail
  refine (rsame_b _ _ [2] [2] _ (HL.out.below ((Below.refl _ _).alloc (Nat.le_refl _) _)) (rdI_row _ _ rfl [2] (by decide))).mono ?_
  rintro e W7 ⟨rfl, hb⟩
  rw [same_yes]
  have HB2 := Lib.hid (bchain HB.out (below_al hb))
  have HV2 := Lib.hid (HV.out.below (below_al hb))
  have HNB2 := Lib.hid (HNB.out.below (below_al hb))
  clear HB HV HNB
  have HB := HB2
  have HV := HV2
  have HNB := HNB2
  clear HB2 HV2 HNB2
  clear hb HL
  obtain ⟨p0, p1, p2, hpl⟩ := HNB.out.facts
  go_wp2_with fail
  clear p0 p1 p2 hpl
  refine (classes_any _ exN 3 _ HV.out ex_good rfl).mono ?_
  rintro e W8 ⟨⟨vl8, rfl, hl⟩, hb⟩
  rw [ex_classes] at hl
  have HL := Lib.hid hl.rd
  have HB2 := Lib.hid (bchain HB.out hb)
  have HV2 := Lib.hid (HV.out.below hb)
  have HNB2 := Lib.hid (HNB.out.below hb)
  clear HB HV HNB
  have HB := HB2
  have HV := HV2
  have HNB := HNB2
  clear HB2 HV2 HNB2
  clear hb hl
  go_wp2_with fail
  refine (rsame_b _ _ [1, 2] [1, 2] _ (HL.out.below ((Below.refl _ _).alloc (Nat.le_refl _) _)) (rdI_row _ _ rfl [1, 2] (by decide))).mono ?_
  rintro e W9 ⟨rfl, hb⟩
  rw [same_yes]
  have HB2 := Lib.hid (bchain HB.out (below_al hb))
  have HV2 := Lib.hid (HV.out.below (below_al hb))
  have HNB2 := Lib.hid (HNB.out.below (below_al hb))
  clear HB HV HNB
  have HB := HB2
  have HV := HV2
  have HNB := HNB2
  clear HB2 HV2 HNB2
  clear hb HL
  go_wp2_with fail
  go_ret
  exact ⟨rfl, HB.out⟩
end Go.Proofs.Ytcmfgblfgldonaa
