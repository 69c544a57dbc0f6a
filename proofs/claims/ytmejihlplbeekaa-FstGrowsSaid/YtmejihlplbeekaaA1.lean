/-
  awake: the examples of chapter 20.
-/
import Derived.Test.YtmejihlplbeekaaA0
import Derived.Test.YtmejihlplbeekaaF6
namespace Go.Proofs.Ytmejihlplbeekaa
open Go.ChangeShapes Go.WideShapes Go.ChangeAt Go.RowKit
theorem rdI_row (w : World) (g : Nat) (hg : w.heap.size = g) (xs : List Int) (hl : xs.length ≤ 9223372036854775807) : RdI (w.alloc (.cells (xs.map (Value.int .i64)).toArray 3)) (.slice (some ⟨g, 0, none⟩) xs.length xs.length) xs := by
  subst hg
  refine ⟨_, xs.length, rfl, Nat.le_refl _, hl, by simp, fun _ => ⟨w.heap.size, 0, rfl, by simp, fun j u hu => ?_⟩⟩
  rw [cell_of_row _ _ _ _ _ (0, 0) (heap_alloc_new w _)]
  simpa using hu
theorem rdA_row (w : World) (g : Nat) (hg : w.heap.size = g) (l : List PArc) (hl : l.length ≤ 9223372036854775807) : RdA (w.alloc (.cells (arcsCells l).toArray 42)) (.slice (some ⟨g, 0, none⟩) l.length l.length) l := by
  subst hg
  refine ⟨_, l.length, rfl, Nat.le_refl _, hl, arcsCells_length l, fun _ => ⟨w.heap.size, 0, rfl, by simp, fun j u hu => ?_⟩⟩
  rw [cell_of_row _ _ _ _ _ (0, 0) (heap_alloc_new w _)]
  simpa using hu
theorem rdA_nil (w : World) : RdA w (.slice none 0 0) [] := ⟨none, 0, rfl, by simp, by decide, rfl, fun h => absurd h (Nat.lt_irrefl 0)⟩
theorem rdL_three (w : World) (g : Nat) (hg : w.heap.size = g) (v1 v2 v3 : Value) (l1 l2 l3 : List Int) (h1 : RdI w v1 l1) (h2 : RdI w v2 l2) (h3 : RdI w v3 l3) : RdL (w.alloc (.cells #[v1, v2, v3] 23)) (.slice (some ⟨g, 0, none⟩) 3 3) [l1, l2, l3] := by
  subst hg
  have hb : Below w.heap.size w (w.alloc (.cells #[v1, v2, v3] 23)) := (Below.refl _ _).alloc (Nat.le_refl _) _
  refine ⟨[v1, v2, v3], ⟨_, 3, rfl, by simp, by decide, by simp, fun _ => ⟨w.heap.size, 0, rfl, by simp, fun j u hu => ?_⟩⟩, rfl, fun i u l hu hl => ?_⟩
  · rw [cell_of_row _ _ _ _ _ (0, 0) (heap_alloc_new w _)]
    simpa using hu
  · match i, hu, hl with
    | 0, hu, hl => simp at hu hl; subst hu; subst hl; exact h1.below hb
    | 1, hu, hl => simp at hu hl; subst hu; subst hl; exact h2.below hb
    | 2, hu, hl => simp at hu hl; subst hu; subst hl; exact h3.below hb
theorem al_below (w : World) (o : Obj) : Below w.heap.size w (w.alloc o) := (Below.refl _ _).alloc (Nat.le_refl _) _
theorem wpE_listed {P : Program} {l : List Oper} {Q : Exit → Act → World → Prop} {S : World → Prop} {n f : Nat} {A U : List Nat} {listed listed' : Array Bool} {a : Act} {w : World} (h : decide (listed = listed') = true) (hw : wpE P l Q S n A U f listed' a w) : wpE P l Q S n A U f listed a w := by
  rw [of_decide_eq_true h]
  exact hw
theorem rsameb_any (v u : Value) (xs ys : List Int) (w : World) (hv : RdI w v xs) (hu : RdI w u ys) :
    Calls Try.prog 22 #[v, u] w fun e w' => e = .returned (.bool (sameB xs ys)) ∧ Below w.heap.size w w' := by
  refine (rsame_any v u xs ys w hv hu).mono ?_
  rintro e w' ⟨h, nq, rfl⟩
  exact ⟨h, below_drewN (Below.refl _ _) nq⟩
theorem apply_cut {R G : Prop} (h1 : R → G) (h2 : R) : G := h1 h2
theorem same_yes (xs : List Int) : sameB xs xs = true := (sameB_iff xs xs).2 rfl
set_option maxHeartbeats 4000000 in
set_option maxRecDepth 100000 in
theorem awake_any (w : World) : Calls Try.prog 12 #[] w fun e w' => e = .returned (.bool true) ∧ Below w.heap.size w w' := by
  go_enter Try.func12, Try.ntmps12
  go_upto_region 3 with (fail)
  generalize hW : World.alloc (World.alloc (World.alloc (World.alloc (World.alloc w _) _) _) _) _ = W
  have HO : Hid (RdF W (.agg #[.int .i64 1, .slice none 0 0, .slice (some ⟨w.heap.size, 0, none⟩) 1 1]) oneF) := by
    rw [Hid, ← hW]
    exact ⟨_, _, rfl, rdA_nil _, (rdI_row w _ rfl oneF.final (by decide)).below (bchain (al_below _ _) (bchain (al_below _ _) (bchain (al_below _ _) (al_below _ _))))⟩
  have HOB : Hid (FBlk W (w.heap.size + 1) (.int .i64 1) (.slice none 0 0) (.slice (some ⟨w.heap.size, 0, none⟩) 1 1)) := by
    rw [Hid, FBlk, ← hW]
    refine (Below.heap_alloc _ _ _ (by first | omega | (simp; done) | (simp; omega))).trans ((Below.heap_alloc _ _ _ (by first | omega | (simp; done) | (simp; omega))).trans ((Below.heap_alloc _ _ _ (by first | omega | (simp; done) | (simp; omega))).trans ?_))
    have := heap_alloc_new (w.alloc (.cells #[.int .i64 0] 3)) (.cells #[.int .i64 1, .slice none 0 0, .slice (some ⟨w.heap.size, 0, none⟩) 1 1] 25)
    simpa using this
  have HX : Hid (RdF W (.agg #[.int .i64 1, .slice (some ⟨w.heap.size + 1 + 1, 0, none⟩) 2 2, .slice (some ⟨w.heap.size + 1 + 1 + 1, 0, none⟩) 1 1]) exF) := by
    rw [Hid, ← hW]
    exact ⟨_, _, rfl, (rdA_row _ _ (by simp) exF.arcs (by decide)).below (bchain (al_below _ _) (al_below _ _)), (rdI_row _ _ (by simp) exF.final (by decide)).below (al_below _ _)⟩
  have HXB : Hid (FBlk W (w.heap.size + 1 + 1 + 1 + 1) (.int .i64 1) (.slice (some ⟨w.heap.size + 1 + 1, 0, none⟩) 2 2) (.slice (some ⟨w.heap.size + 1 + 1 + 1, 0, none⟩) 1 1)) := by
    rw [Hid, FBlk, ← hW]
    have := heap_alloc_new (((w.alloc (.cells #[.int .i64 0] 3)).alloc (.cells #[.int .i64 1, .slice none 0 0, .slice (some ⟨w.heap.size, 0, none⟩) 1 1] 25)).alloc (.cells #[.int .i64 0, .int .i64 1, .int .i64 2, .int .i64 0, .int .i64 0, .int .i64 1, .int .i64 0, .int .i64 0] 42) |>.alloc (.cells #[.int .i64 0] 3)) (.cells #[.int .i64 1, .slice (some ⟨w.heap.size + 1 + 1, 0, none⟩) 2 2, .slice (some ⟨w.heap.size + 1 + 1 + 1, 0, none⟩) 1 1] 25)
    simpa using this
  have HBW : Hid (Below w.heap.size w W) := by rw [← hW]; repeat (first | assumption | exact Below.refl _ _ | refine Below.alloc ?_ (by first | omega | (simp; done) | (simp; omega)) _ | refine Below.drew ?_ | refine below_drewN ?_ _ | refine Below.setCell ?_ (by first | omega | (simp; done) | (simp; omega)) _)
  clear hW
  obtain ⟨bo, hbo⟩ : ∃ bo, w.heap.size + 1 = bo := ⟨_, rfl⟩
  obtain ⟨bx, hbx⟩ : ∃ bx, w.heap.size + 1 + 1 + 1 + 1 = bx := ⟨_, rfl⟩
  obtain ⟨o1, ho1⟩ : ∃ o1, w.heap.size = o1 := ⟨_, rfl⟩
  obtain ⟨x1, hx1⟩ : ∃ x1, w.heap.size + 1 + 1 = x1 := ⟨_, rfl⟩
  obtain ⟨x2, hx2⟩ : ∃ x2, w.heap.size + 1 + 1 + 1 = x2 := ⟨_, rfl⟩
  rw [hx2, hx1] at HX
  rw [hbx, hx2, hx1] at HXB
  rw [ho1] at HO
  rw [hbo, ho1] at HOB
  rw [hbx, hx2, hx1, hbo, ho1]
  clear hx1 hx2 ho1 hbo hbx
  have HB0 : Hid (Below W.heap.size W W) := Below.refl _ _
  obtain ⟨p0, p1, p2, _, _, _⟩ := HXB.out.facts
  have hpl := HXB.out.lt
  go_wp2_with fail
  clear p0 p1 p2 hpl
  refine (foutputs_any _ _ exF [1, 1] 2 3 _ (HX.out.below (al_below _ _)) (rdI_row _ _ rfl [1, 1] (by decide)) ex_fin (by decide) (by decide)).mono ?_
  rintro e V1 ⟨⟨vl, rfl, hl⟩, hb⟩
  rw [ex_out3] at hl ⊢
  obtain ⟨Al, nl, cl, rfl, _, _, _, _⟩ := hl.op
  have HL1 := Lib.hid hl
  have HB1 : Hid (Below W.heap.size W V1) := bchain (al_below _ _) hb
  clear hl hb
  obtain ⟨p0, p1, p2, _, _, _⟩ := (HXB.out.below HB1.out).facts
  have hpl := (HXB.out.below HB1.out).lt
  go_wp2_with fail
  clear p0 p1 p2 hpl
  refine (foutputs_any _ _ exF [1, 1] 2 2 _ (HX.out.below (bchain HB1.out (al_below _ _))) (rdI_row _ _ rfl [1, 1] (by decide)) ex_fin (by decide) (by decide)).mono ?_
  rintro e V2 ⟨⟨vm, rfl, _⟩, hb⟩
  rw [ex_out2]
  have HB2 : Hid (Below W.heap.size W V2) := bchain HB1.out (bchain (al_below _ _) hb)
  have HL2 := Lib.hid (HL1.out.below (bchain (al_below _ _) hb))
  clear hb HL1 HB1
  obtain ⟨p0, p1, p2, _, _, _⟩ := (HOB.out.below HB2.out).facts
  have hpl := (HOB.out.below HB2.out).lt
  go_wp2_with fail
  clear p0 p1 p2 hpl
  refine (fcheck_any _ oneF _ (HO.out.below HB2.out)).mono ?_
  rintro e V3 ⟨rfl, hb⟩
  rw [one_chk]
  have HB3 : Hid (Below W.heap.size W V3) := bchain HB2.out hb
  have HL3 := Lib.hid (HL2.out.below hb)
  clear hb HL2 HB2
  go_wp2_with fail
  refine (fcheck_any _ zeroF _ ⟨_, _, rfl, rdA_nil _, rdI_nil _⟩).mono ?_
  rintro e V4 ⟨rfl, hb⟩
  rw [zero_chk]
  have HB4 : Hid (Below W.heap.size W V4) := bchain HB3.out hb
  have HL4 := Lib.hid (HL3.out.below hb)
  clear hb HL3 HB3
  obtain ⟨p0, p1, p2, _, _, _⟩ := (HOB.out.below HB4.out).facts
  have hpl := (HOB.out.below HB4.out).lt
  go_wp2_with fail
  clear p0 p1 p2 hpl
  refine (faccepts_any _ _ _ oneF [] [] _ (HO.out.below HB4.out) (rdI_nil _) (rdI_nil _) one_right (by simp [oneF]) (by decide) (by decide) (by decide) (by decide) (by decide)).mono ?_
  rintro e V5 ⟨rfl, hb⟩
  rw [one_acc]
  have HB5 : Hid (Below W.heap.size W V5) := bchain HB4.out hb
  have HL5 := Lib.hid (HL4.out.below hb)
  clear hb HL4 HB4
  obtain ⟨p0, p1, p2, _, _, _⟩ := (HOB.out.below HB5.out).facts
  have hpl := (HOB.out.below HB5.out).lt
  go_wp2_with fail
  clear p0 p1 p2 hpl
  refine (faccepts_any _ _ _ oneF [1] [] _ (HO.out.below (bchain HB5.out (al_below _ _))) (rdI_row _ _ rfl [1] (by decide)) (rdI_nil _) one_right (by simp [oneF]) (by decide) (by decide) (by decide) (by decide) (by decide)).mono ?_
  rintro e V6 ⟨rfl, hb⟩
  rw [one_acc1]
  have HB6 : Hid (Below W.heap.size W V6) := bchain HB5.out (bchain (al_below _ _) hb)
  have HL6 := Lib.hid (HL5.out.below (bchain (al_below _ _) hb))
  clear hb HL5 HB5
  go_upto_region 7 with (fail)
  refine wp_region_steps 47 46 [0, 1, 2, 3, 4, 5, 6, 7, 8, 9, 10, 11, 12, 13, 14, 15, 16, 17, 18, 19, 20, 21, 22, 23, 24, 25, 26, 27, 28, 29, 30, 31, 32, 33, 34, 35, 36, 37, 38, 39, 40, 41, 42, 43, 44, 45] [] (fun w' => Below W.heap.size W w') (by kernel_rfl) (by kernel_rfl) ?_
  rintro Y0 hY0
  have HBY0 : Hid (Below W.heap.size W Y0) := by rw [hY0]; exact HB6.out.drew
  have HLY0 : Hid (RdL Y0 (.slice Al nl cl) [[], [2], [2, 2]]) := by rw [hY0]; exact HL6.out.below (Below.refl _ _).drew
  clear hY0 HL6 HB6
  have HS : Hid (∀ w' : World, Below W.heap.size W w' → (w'.cell? ⟨bx, 0, none⟩ = some (.int .i64 1) ∧ w'.cell? ⟨bx, 1, none⟩ = some (.slice (some ⟨x1, 0, none⟩) 2 2) ∧ w'.cell? ⟨bx, 2, none⟩ = some (.slice (some ⟨x2, 0, none⟩) 1 1)) ∧ w'.cell? ⟨bo, 0, none⟩ = some (.int .i64 1) ∧ w'.cell? ⟨bo, 1, none⟩ = some (.slice none 0 0) ∧ w'.cell? ⟨bo, 2, none⟩ = some (.slice (some ⟨o1, 0, none⟩) 1 1)) := by
    intro w' h
    obtain ⟨f0, f1, f2, _⟩ := (HXB.out.below h).facts
    obtain ⟨g0, g1, g2, _⟩ := (HOB.out.below h).facts
    exact ⟨⟨f0, f1, f2⟩, g0, g1, g2⟩
  (refine wpE_take 0 (v := ?_) (by kernel_rfl) rfl rfl (by exact HBY0.out) (fun w' hS => ?_) ?_; rotate_left; (focus ((try obtain ⟨⟨s0, s1, s2⟩, u0, u1, u2⟩ := HS.out _ (hS rfl)); clear hS; go_simp; try with_reducible rfl; done)); (try dsimp only); (try simp only [Act.put]); (try simp only [List.setIfInBounds_toArray, List.set_cons_zero, List.set_cons_succ]))
  refine wpE_br [1, 2] (by kernel_rfl) ?_
  apply apply_cut
  · intro key
    refine AllE.cons rfl rfl (fun K hK => ?_) (AllE.cons rfl rfl (fun K hK => ?_) AllE.nil)
    · skip
      go_simp
      obtain ⟨b1, hb1⟩ : ∃ g, Y0.heap.size = g := ⟨_, rfl⟩
      generalize hal : World.alloc Y0 _ = Za
      have HXZa : Hid (Below Y0.heap.size Y0 Za) := by rw [← hal]; exact al_below Y0 _
      have RAZa : Hid (RdI Za (.slice (some ⟨b1, 0, none⟩) 1 1) [2]) := by rw [← hal]; exact rdI_row Y0 b1 hb1 [2] (by decide)
      rw [hb1]
      refine hK.out _ _ (bchain HBY0.out HXZa.out) ?_
      clear hK K hal hb1
      (try dsimp only); (try simp only [Act.put]); (try simp only [List.setIfInBounds_toArray, List.set_cons_zero, List.set_cons_succ])
      have HBZa : Hid (Below W.heap.size W Za) := bchain HBY0.out HXZa.out
      have HLZa := Lib.hid (HLY0.out.below HXZa.out)
      clear HXZa
      refine wpE_br [2] (by kernel_rfl) ?_
      refine AllE.cons rfl rfl (fun K hK => ?_) AllE.nil
      go_simp
      obtain ⟨b2, hb2⟩ : ∃ g, Za.heap.size = g := ⟨_, rfl⟩
      generalize hal : World.alloc Za _ = Zb
      have HXZb : Hid (Below Za.heap.size Za Zb) := by rw [← hal]; exact al_below Za _
      have RBZb : Hid (RdI Zb (.slice (some ⟨b2, 0, none⟩) 2 2) [2, 2]) := by rw [← hal]; exact rdI_row Za b2 hb2 [2, 2] (by decide)
      rw [hb2]
      refine hK.out _ _ (bchain HBZa.out HXZb.out) ?_
      clear hK K hal hb2
      (try dsimp only); (try simp only [Act.put]); (try simp only [List.setIfInBounds_toArray, List.set_cons_zero, List.set_cons_succ])
      have HBZb : Hid (Below W.heap.size W Zb) := bchain HBZa.out HXZb.out
      have HLZb := Lib.hid (HLZa.out.below HXZb.out)
      have RAZb := Lib.hid (RAZa.out.below HXZb.out)
      clear HXZb
      refine wpE_listed (listed' := #[true, true, true, false, false, false, false, false, false, false, false, false, false, false, false, false, false, false, false, false, false, false, false, false, false, false, false, false, false, false, false, false, false, false, false, false, false, false, false, false, false, false, false, false, false, false, false]) (by kernel_rfl) ?_
      clear HBZa HLZa RAZa
      revert RBZb
      revert RAZb
      revert HLZb
      revert HBZb
      revert Zb
      revert b2
      revert b1
      exact key
    · skip
      go_simp
      obtain ⟨b2, hb2⟩ : ∃ g, Y0.heap.size = g := ⟨_, rfl⟩
      generalize hal : World.alloc Y0 _ = Za
      have HXZa : Hid (Below Y0.heap.size Y0 Za) := by rw [← hal]; exact al_below Y0 _
      have RBZa : Hid (RdI Za (.slice (some ⟨b2, 0, none⟩) 2 2) [2, 2]) := by rw [← hal]; exact rdI_row Y0 b2 hb2 [2, 2] (by decide)
      rw [hb2]
      refine hK.out _ _ (bchain HBY0.out HXZa.out) ?_
      clear hK K hal hb2
      (try dsimp only); (try simp only [Act.put]); (try simp only [List.setIfInBounds_toArray, List.set_cons_zero, List.set_cons_succ])
      have HBZa : Hid (Below W.heap.size W Za) := bchain HBY0.out HXZa.out
      have HLZa := Lib.hid (HLY0.out.below HXZa.out)
      clear HXZa
      refine wpE_br [1] (by kernel_rfl) ?_
      refine AllE.cons rfl rfl (fun K hK => ?_) AllE.nil
      go_simp
      obtain ⟨b1, hb1⟩ : ∃ g, Za.heap.size = g := ⟨_, rfl⟩
      generalize hal : World.alloc Za _ = Zb
      have HXZb : Hid (Below Za.heap.size Za Zb) := by rw [← hal]; exact al_below Za _
      have RAZb : Hid (RdI Zb (.slice (some ⟨b1, 0, none⟩) 1 1) [2]) := by rw [← hal]; exact rdI_row Za b1 hb1 [2] (by decide)
      rw [hb1]
      refine hK.out _ _ (bchain HBZa.out HXZb.out) ?_
      clear hK K hal hb1
      (try dsimp only); (try simp only [Act.put]); (try simp only [List.setIfInBounds_toArray, List.set_cons_zero, List.set_cons_succ])
      have HBZb : Hid (Below W.heap.size W Zb) := bchain HBZa.out HXZb.out
      have HLZb := Lib.hid (HLZa.out.below HXZb.out)
      have RBZb := Lib.hid (RBZa.out.below HXZb.out)
      clear HXZb
      refine wpE_listed (listed' := #[true, true, true, false, false, false, false, false, false, false, false, false, false, false, false, false, false, false, false, false, false, false, false, false, false, false, false, false, false, false, false, false, false, false, false, false, false, false, false, false, false, false, false, false, false, false, false]) (by kernel_rfl) ?_
      clear HBZa HLZa RBZa
      revert RBZb
      revert RAZb
      revert HLZb
      revert HBZb
      revert Zb
      revert b2
      revert b1
      exact key
  intro b1 b2 Y1 HBY1 HLY1 RAY1 RBY1
  clear HBY0 HLY0
  refine wpE_br [3] (by kernel_rfl) ?_
  refine AllE.cons rfl rfl (fun K hK => ?_) AllE.nil
  go_simp
  obtain ⟨b3, hb3⟩ : ∃ g, Y1.heap.size = g := ⟨_, rfl⟩
  generalize hal : World.alloc Y1 _ = Y2
  have HXY2 : Hid (Below Y1.heap.size Y1 Y2) := by rw [← hal]; exact al_below Y1 _
  have RLY2 : Hid (RdL Y2 (.slice (some ⟨b3, 0, none⟩) 3 3) [[], [2], [2, 2]]) := by rw [← hal]; exact rdL_three Y1 b3 hb3 _ _ _ [] [2] [2, 2] (rdI_nil _) RAY1.out RBY1.out
  rw [hb3]
  refine hK.out _ _ (bchain HBY1.out HXY2.out) ?_
  clear hK K hal hb3
  (try dsimp only); (try simp only [Act.put]); (try simp only [List.setIfInBounds_toArray, List.set_cons_zero, List.set_cons_succ])
  have HBY2 : Hid (Below W.heap.size W Y2) := bchain HBY1.out HXY2.out
  have HLY2 := Lib.hid (HLY1.out.below HXY2.out)
  clear HXY2 HBY1 RAY1 RBY1 HLY1
  refine wpE_br [4] (by kernel_rfl) ?_
  refine AllE.cons rfl rfl (fun K hK => ?_) AllE.nil
  go_simp
  refine (requal_any _ _ [[], [2], [2, 2]] [[], [2], [2, 2]] Y2 HLY2.out RLY2.out).mono ?_
  rintro e Y3 ⟨rfl, hb⟩
  rw [decide_eq_true rfl]
  have HXY3 := Lib.hid hb
  refine hK.out _ _ (bchain HBY2.out hb) ?_
  clear hK K hb
  (try dsimp only); (try simp only [Act.put]); (try simp only [List.setIfInBounds_toArray, List.set_cons_zero, List.set_cons_succ])
  have HBY3 : Hid (Below W.heap.size W Y3) := bchain HBY2.out HXY3.out
  clear HXY3 HBY2
  (refine wpE_take 5 (v := ?_) (by kernel_rfl) rfl rfl (by exact HBY3.out) (fun w' hS => ?_) ?_; rotate_left; (focus ((try obtain ⟨⟨s0, s1, s2⟩, u0, u1, u2⟩ := HS.out _ (hS rfl)); clear hS; go_simp; try with_reducible rfl; done)); (try dsimp only); (try simp only [Act.put]); (try simp only [List.setIfInBounds_toArray, List.set_cons_zero, List.set_cons_succ]))
  (refine wpE_take 6 (v := ?_) (by kernel_rfl) rfl rfl (by exact HBY3.out) (fun w' hS => ?_) ?_; rotate_left; (focus ((try obtain ⟨⟨s0, s1, s2⟩, u0, u1, u2⟩ := HS.out _ (hS rfl)); clear hS; go_simp; try with_reducible rfl; done)); (try dsimp only); (try simp only [Act.put]); (try simp only [List.setIfInBounds_toArray, List.set_cons_zero, List.set_cons_succ]))
  refine wpE_br [7, 8] (by kernel_rfl) ?_
  apply apply_cut
  · intro key
    refine AllE.cons rfl rfl (fun K hK => ?_) (AllE.cons rfl rfl (fun K hK => ?_) AllE.nil)
    · skip
      go_simp
      obtain ⟨b4, hb4⟩ : ∃ g, Y3.heap.size = g := ⟨_, rfl⟩
      generalize hal : World.alloc Y3 _ = Za
      have HXZa : Hid (Below Y3.heap.size Y3 Za) := by rw [← hal]; exact al_below Y3 _
      have RCZa : Hid (RdI Za (.slice (some ⟨b4, 0, none⟩) 2 2) [1, 1]) := by rw [← hal]; exact rdI_row Y3 b4 hb4 [1, 1] (by decide)
      rw [hb4]
      refine hK.out _ _ (bchain HBY3.out HXZa.out) ?_
      clear hK K hal hb4
      (try dsimp only); (try simp only [Act.put]); (try simp only [List.setIfInBounds_toArray, List.set_cons_zero, List.set_cons_succ])
      have HBZa : Hid (Below W.heap.size W Za) := bchain HBY3.out HXZa.out
      clear HXZa
      refine wpE_br [8] (by kernel_rfl) ?_
      refine AllE.cons rfl rfl (fun K hK => ?_) AllE.nil
      go_simp
      obtain ⟨b5, hb5⟩ : ∃ g, Za.heap.size = g := ⟨_, rfl⟩
      generalize hal : World.alloc Za _ = Zb
      have HXZb : Hid (Below Za.heap.size Za Zb) := by rw [← hal]; exact al_below Za _
      have RDZb : Hid (RdI Zb (.slice (some ⟨b5, 0, none⟩) 1 1) [2]) := by rw [← hal]; exact rdI_row Za b5 hb5 [2] (by decide)
      rw [hb5]
      refine hK.out _ _ (bchain HBZa.out HXZb.out) ?_
      clear hK K hal hb5
      (try dsimp only); (try simp only [Act.put]); (try simp only [List.setIfInBounds_toArray, List.set_cons_zero, List.set_cons_succ])
      have HBZb : Hid (Below W.heap.size W Zb) := bchain HBZa.out HXZb.out
      have RCZb := Lib.hid (RCZa.out.below HXZb.out)
      clear HXZb
      refine wpE_listed (listed' := #[true, true, true, true, true, true, true, true, true, false, false, false, false, false, false, false, false, false, false, false, false, false, false, false, false, false, false, false, false, false, false, false, false, false, false, false, false, false, false, false, false, false, false, false, false, false, false]) (by kernel_rfl) ?_
      clear HBZa RCZa
      revert RDZb
      revert RCZb
      revert HBZb
      revert Zb
      revert b5
      revert b4
      exact key
    · skip
      go_simp
      obtain ⟨b5, hb5⟩ : ∃ g, Y3.heap.size = g := ⟨_, rfl⟩
      generalize hal : World.alloc Y3 _ = Za
      have HXZa : Hid (Below Y3.heap.size Y3 Za) := by rw [← hal]; exact al_below Y3 _
      have RDZa : Hid (RdI Za (.slice (some ⟨b5, 0, none⟩) 1 1) [2]) := by rw [← hal]; exact rdI_row Y3 b5 hb5 [2] (by decide)
      rw [hb5]
      refine hK.out _ _ (bchain HBY3.out HXZa.out) ?_
      clear hK K hal hb5
      (try dsimp only); (try simp only [Act.put]); (try simp only [List.setIfInBounds_toArray, List.set_cons_zero, List.set_cons_succ])
      have HBZa : Hid (Below W.heap.size W Za) := bchain HBY3.out HXZa.out
      clear HXZa
      refine wpE_br [7] (by kernel_rfl) ?_
      refine AllE.cons rfl rfl (fun K hK => ?_) AllE.nil
      go_simp
      obtain ⟨b4, hb4⟩ : ∃ g, Za.heap.size = g := ⟨_, rfl⟩
      generalize hal : World.alloc Za _ = Zb
      have HXZb : Hid (Below Za.heap.size Za Zb) := by rw [← hal]; exact al_below Za _
      have RCZb : Hid (RdI Zb (.slice (some ⟨b4, 0, none⟩) 2 2) [1, 1]) := by rw [← hal]; exact rdI_row Za b4 hb4 [1, 1] (by decide)
      rw [hb4]
      refine hK.out _ _ (bchain HBZa.out HXZb.out) ?_
      clear hK K hal hb4
      (try dsimp only); (try simp only [Act.put]); (try simp only [List.setIfInBounds_toArray, List.set_cons_zero, List.set_cons_succ])
      have HBZb : Hid (Below W.heap.size W Zb) := bchain HBZa.out HXZb.out
      have RDZb := Lib.hid (RDZa.out.below HXZb.out)
      clear HXZb
      refine wpE_listed (listed' := #[true, true, true, true, true, true, true, true, true, false, false, false, false, false, false, false, false, false, false, false, false, false, false, false, false, false, false, false, false, false, false, false, false, false, false, false, false, false, false, false, false, false, false, false, false, false, false]) (by kernel_rfl) ?_
      clear HBZa RDZa
      revert RDZb
      revert RCZb
      revert HBZb
      revert Zb
      revert b5
      revert b4
      exact key
  intro b4 b5 Y4 HBY4 RCY4 RDY4
  clear HBY3 
  refine wpE_br [9] (by kernel_rfl) ?_
  refine AllE.cons rfl rfl (fun K hK => ?_) AllE.nil
  go_simp
  refine (faccepts_any _ _ _ exF [1, 1] [2] Y4 (HX.out.below HBY4.out) RCY4.out RDY4.out ex_right (by simp [exF]) (by decide) (by decide) (by decide) (by decide) (by decide)).mono ?_
  rintro e Y5 ⟨rfl, hb⟩
  rw [ex_acc2]
  have HXY5 := Lib.hid hb
  refine hK.out _ _ (bchain HBY4.out hb) ?_
  clear hK K hb
  (try dsimp only); (try simp only [Act.put]); (try simp only [List.setIfInBounds_toArray, List.set_cons_zero, List.set_cons_succ])
  have HBY5 : Hid (Below W.heap.size W Y5) := bchain HBY4.out HXY5.out
  clear HXY5 HBY4
  (refine wpE_take 10 (v := ?_) (by kernel_rfl) rfl rfl (by exact HBY5.out) (fun w' hS => ?_) ?_; rotate_left; (focus ((try obtain ⟨⟨s0, s1, s2⟩, u0, u1, u2⟩ := HS.out _ (hS rfl)); clear hS; go_simp; try with_reducible rfl; done)); (try dsimp only); (try simp only [Act.put]); (try simp only [List.setIfInBounds_toArray, List.set_cons_zero, List.set_cons_succ]))
  (refine wpE_take 11 (v := ?_) (by kernel_rfl) rfl rfl (by exact HBY5.out) (fun w' hS => ?_) ?_; rotate_left; (focus ((try obtain ⟨⟨s0, s1, s2⟩, u0, u1, u2⟩ := HS.out _ (hS rfl)); clear hS; go_simp; try with_reducible rfl; done)); (try dsimp only); (try simp only [Act.put]); (try simp only [List.setIfInBounds_toArray, List.set_cons_zero, List.set_cons_succ]))
  (refine wpE_take 12 (v := ?_) (by kernel_rfl) rfl rfl (by exact HBY5.out) (fun w' hS => ?_) ?_; rotate_left; (focus ((try obtain ⟨⟨s0, s1, s2⟩, u0, u1, u2⟩ := HS.out _ (hS rfl)); clear hS; go_simp; try with_reducible rfl; done)); (try dsimp only); (try simp only [Act.put]); (try simp only [List.setIfInBounds_toArray, List.set_cons_zero, List.set_cons_succ]))
  refine wpE_br [13, 14] (by kernel_rfl) ?_
  apply apply_cut
  · intro key
    refine AllE.cons rfl rfl (fun K hK => ?_) (AllE.cons rfl rfl (fun K hK => ?_) AllE.nil)
    · skip
      go_simp
      obtain ⟨b6, hb6⟩ : ∃ g, Y5.heap.size = g := ⟨_, rfl⟩
      generalize hal : World.alloc Y5 _ = Za
      have HXZa : Hid (Below Y5.heap.size Y5 Za) := by rw [← hal]; exact al_below Y5 _
      have REZa : Hid (RdI Za (.slice (some ⟨b6, 0, none⟩) 1 1) [1]) := by rw [← hal]; exact rdI_row Y5 b6 hb6 [1] (by decide)
      rw [hb6]
      refine hK.out _ _ (bchain HBY5.out HXZa.out) ?_
      clear hK K hal hb6
      (try dsimp only); (try simp only [Act.put]); (try simp only [List.setIfInBounds_toArray, List.set_cons_zero, List.set_cons_succ])
      have HBZa : Hid (Below W.heap.size W Za) := bchain HBY5.out HXZa.out
      clear HXZa
      refine wpE_br [14] (by kernel_rfl) ?_
      refine AllE.cons rfl rfl (fun K hK => ?_) AllE.nil
      go_simp
      obtain ⟨b7, hb7⟩ : ∃ g, Za.heap.size = g := ⟨_, rfl⟩
      generalize hal : World.alloc Za _ = Zb
      have HXZb : Hid (Below Za.heap.size Za Zb) := by rw [← hal]; exact al_below Za _
      have RFZb : Hid (RdI Zb (.slice (some ⟨b7, 0, none⟩) 2 2) [2, 2]) := by rw [← hal]; exact rdI_row Za b7 hb7 [2, 2] (by decide)
      rw [hb7]
      refine hK.out _ _ (bchain HBZa.out HXZb.out) ?_
      clear hK K hal hb7
      (try dsimp only); (try simp only [Act.put]); (try simp only [List.setIfInBounds_toArray, List.set_cons_zero, List.set_cons_succ])
      have HBZb : Hid (Below W.heap.size W Zb) := bchain HBZa.out HXZb.out
      have REZb := Lib.hid (REZa.out.below HXZb.out)
      clear HXZb
      refine wpE_listed (listed' := #[true, true, true, true, true, true, true, true, true, true, true, true, true, true, true, false, false, false, false, false, false, false, false, false, false, false, false, false, false, false, false, false, false, false, false, false, false, false, false, false, false, false, false, false, false, false, false]) (by kernel_rfl) ?_
      clear HBZa REZa
      revert RFZb
      revert REZb
      revert HBZb
      revert Zb
      revert b7
      revert b6
      exact key
    · skip
      go_simp
      obtain ⟨b7, hb7⟩ : ∃ g, Y5.heap.size = g := ⟨_, rfl⟩
      generalize hal : World.alloc Y5 _ = Za
      have HXZa : Hid (Below Y5.heap.size Y5 Za) := by rw [← hal]; exact al_below Y5 _
      have RFZa : Hid (RdI Za (.slice (some ⟨b7, 0, none⟩) 2 2) [2, 2]) := by rw [← hal]; exact rdI_row Y5 b7 hb7 [2, 2] (by decide)
      rw [hb7]
      refine hK.out _ _ (bchain HBY5.out HXZa.out) ?_
      clear hK K hal hb7
      (try dsimp only); (try simp only [Act.put]); (try simp only [List.setIfInBounds_toArray, List.set_cons_zero, List.set_cons_succ])
      have HBZa : Hid (Below W.heap.size W Za) := bchain HBY5.out HXZa.out
      clear HXZa
      refine wpE_br [13] (by kernel_rfl) ?_
      refine AllE.cons rfl rfl (fun K hK => ?_) AllE.nil
      go_simp
      obtain ⟨b6, hb6⟩ : ∃ g, Za.heap.size = g := ⟨_, rfl⟩
      generalize hal : World.alloc Za _ = Zb
      have HXZb : Hid (Below Za.heap.size Za Zb) := by rw [← hal]; exact al_below Za _
      have REZb : Hid (RdI Zb (.slice (some ⟨b6, 0, none⟩) 1 1) [1]) := by rw [← hal]; exact rdI_row Za b6 hb6 [1] (by decide)
      rw [hb6]
      refine hK.out _ _ (bchain HBZa.out HXZb.out) ?_
      clear hK K hal hb6
      (try dsimp only); (try simp only [Act.put]); (try simp only [List.setIfInBounds_toArray, List.set_cons_zero, List.set_cons_succ])
      have HBZb : Hid (Below W.heap.size W Zb) := bchain HBZa.out HXZb.out
      have RFZb := Lib.hid (RFZa.out.below HXZb.out)
      clear HXZb
      refine wpE_listed (listed' := #[true, true, true, true, true, true, true, true, true, true, true, true, true, true, true, false, false, false, false, false, false, false, false, false, false, false, false, false, false, false, false, false, false, false, false, false, false, false, false, false, false, false, false, false, false, false, false]) (by kernel_rfl) ?_
      clear HBZa RFZa
      revert RFZb
      revert REZb
      revert HBZb
      revert Zb
      revert b7
      revert b6
      exact key
  intro b6 b7 Y6 HBY6 REY6 RFY6
  clear HBY5 
  refine wpE_br [15] (by kernel_rfl) ?_
  refine AllE.cons rfl rfl (fun K hK => ?_) AllE.nil
  go_simp
  refine (faccepts_any _ _ _ exF [1] [2, 2] Y6 (HX.out.below HBY6.out) REY6.out RFY6.out ex_right (by simp [exF]) (by decide) (by decide) (by decide) (by decide) (by decide)).mono ?_
  rintro e Y7 ⟨rfl, hb⟩
  rw [ex_acc22]
  have HXY7 := Lib.hid hb
  refine hK.out _ _ (bchain HBY6.out hb) ?_
  clear hK K hb
  (try dsimp only); (try simp only [Act.put]); (try simp only [List.setIfInBounds_toArray, List.set_cons_zero, List.set_cons_succ])
  have HBY7 : Hid (Below W.heap.size W Y7) := bchain HBY6.out HXY7.out
  clear HXY7 HBY6
  (refine wpE_take 16 (v := ?_) (by kernel_rfl) rfl rfl (by exact HBY7.out) (fun w' hS => ?_) ?_; rotate_left; (focus ((try obtain ⟨⟨s0, s1, s2⟩, u0, u1, u2⟩ := HS.out _ (hS rfl)); clear hS; go_simp; try with_reducible rfl; done)); (try dsimp only); (try simp only [Act.put]); (try simp only [List.setIfInBounds_toArray, List.set_cons_zero, List.set_cons_succ]))
  (refine wpE_take 17 (v := ?_) (by kernel_rfl) rfl rfl (by exact HBY7.out) (fun w' hS => ?_) ?_; rotate_left; (focus ((try obtain ⟨⟨s0, s1, s2⟩, u0, u1, u2⟩ := HS.out _ (hS rfl)); clear hS; go_simp; try with_reducible rfl; done)); (try dsimp only); (try simp only [Act.put]); (try simp only [List.setIfInBounds_toArray, List.set_cons_zero, List.set_cons_succ]))
  (refine wpE_take 18 (v := ?_) (by kernel_rfl) rfl rfl (by exact HBY7.out) (fun w' hS => ?_) ?_; rotate_left; (focus ((try obtain ⟨⟨s0, s1, s2⟩, u0, u1, u2⟩ := HS.out _ (hS rfl)); clear hS; go_simp; try with_reducible rfl; done)); (try dsimp only); (try simp only [Act.put]); (try simp only [List.setIfInBounds_toArray, List.set_cons_zero, List.set_cons_succ]))
  (refine wpE_take 19 (v := ?_) (by kernel_rfl) rfl rfl (by exact HBY7.out) (fun w' hS => ?_) ?_; rotate_left; (focus ((try obtain ⟨⟨s0, s1, s2⟩, u0, u1, u2⟩ := HS.out _ (hS rfl)); clear hS; go_simp; try with_reducible rfl; done)); (try dsimp only); (try simp only [Act.put]); (try simp only [List.setIfInBounds_toArray, List.set_cons_zero, List.set_cons_succ]))
  refine wpE_br [20, 21] (by kernel_rfl) ?_
  apply apply_cut
  · intro key
    refine AllE.cons rfl rfl (fun K hK => ?_) (AllE.cons rfl rfl (fun K hK => ?_) AllE.nil)
    · skip
      go_simp
      refine (useful_any _ exF Y7 (HX.out.below HBY7.out) ex_fin (by decide)).mono ?_
      rintro e Za ⟨⟨vu, rfl, hu⟩, hb⟩
      rw [ex_useful] at hu
      obtain ⟨-, Au, cu, rfl⟩ := own_slice hu
      have RUZa : Hid (RdI Za (.slice Au [(0 : Int)].length cu) [0]) := hu.rd
      have HXZa := Lib.hid hb
      refine hK.out _ _ (bchain HBY7.out hb) ?_
      clear hK K hb hu
      (try dsimp only); (try simp only [Act.put]); (try simp only [List.setIfInBounds_toArray, List.set_cons_zero, List.set_cons_succ])
      have HBZa : Hid (Below W.heap.size W Za) := bchain HBY7.out HXZa.out
      clear HXZa
      refine wpE_br [21] (by kernel_rfl) ?_
      refine AllE.cons rfl rfl (fun K hK => ?_) AllE.nil
      go_simp
      obtain ⟨b8, hb8⟩ : ∃ g, Za.heap.size = g := ⟨_, rfl⟩
      generalize hal : World.alloc Za _ = Zb
      have HXZb : Hid (Below Za.heap.size Za Zb) := by rw [← hal]; exact al_below Za _
      have RGZb : Hid (RdI Zb (.slice (some ⟨b8, 0, none⟩) 1 1) [0]) := by rw [← hal]; exact rdI_row Za b8 hb8 [0] (by decide)
      rw [hb8]
      refine hK.out _ _ (bchain HBZa.out HXZb.out) ?_
      clear hK K hal hb8
      (try dsimp only); (try simp only [Act.put]); (try simp only [List.setIfInBounds_toArray, List.set_cons_zero, List.set_cons_succ])
      have HBZb : Hid (Below W.heap.size W Zb) := bchain HBZa.out HXZb.out
      have RUZb := Lib.hid (RUZa.out.below HXZb.out)
      clear HXZb
      refine wpE_listed (listed' := #[true, true, true, true, true, true, true, true, true, true, true, true, true, true, true, true, true, true, true, true, true, true, false, false, false, false, false, false, false, false, false, false, false, false, false, false, false, false, false, false, false, false, false, false, false, false, false]) (by kernel_rfl) ?_
      clear HBZa RUZa
      revert RGZb
      revert RUZb
      revert HBZb
      revert Zb
      revert cu
      revert Au
      revert b8
      exact key
    · skip
      go_simp
      obtain ⟨b8, hb8⟩ : ∃ g, Y7.heap.size = g := ⟨_, rfl⟩
      generalize hal : World.alloc Y7 _ = Za
      have HXZa : Hid (Below Y7.heap.size Y7 Za) := by rw [← hal]; exact al_below Y7 _
      have RGZa : Hid (RdI Za (.slice (some ⟨b8, 0, none⟩) 1 1) [0]) := by rw [← hal]; exact rdI_row Y7 b8 hb8 [0] (by decide)
      rw [hb8]
      refine hK.out _ _ (bchain HBY7.out HXZa.out) ?_
      clear hK K hal hb8
      (try dsimp only); (try simp only [Act.put]); (try simp only [List.setIfInBounds_toArray, List.set_cons_zero, List.set_cons_succ])
      have HBZa : Hid (Below W.heap.size W Za) := bchain HBY7.out HXZa.out
      clear HXZa
      refine wpE_br [20] (by kernel_rfl) ?_
      refine AllE.cons rfl rfl (fun K hK => ?_) AllE.nil
      go_simp
      refine (useful_any _ exF Za (HX.out.below HBZa.out) ex_fin (by decide)).mono ?_
      rintro e Zb ⟨⟨vu, rfl, hu⟩, hb⟩
      rw [ex_useful] at hu
      obtain ⟨-, Au, cu, rfl⟩ := own_slice hu
      have RUZb : Hid (RdI Zb (.slice Au [(0 : Int)].length cu) [0]) := hu.rd
      have HXZb := Lib.hid hb
      refine hK.out _ _ (bchain HBZa.out hb) ?_
      clear hK K hb hu
      (try dsimp only); (try simp only [Act.put]); (try simp only [List.setIfInBounds_toArray, List.set_cons_zero, List.set_cons_succ])
      have HBZb : Hid (Below W.heap.size W Zb) := bchain HBZa.out HXZb.out
      have RGZb := Lib.hid (RGZa.out.below HXZb.out)
      clear HXZb
      refine wpE_listed (listed' := #[true, true, true, true, true, true, true, true, true, true, true, true, true, true, true, true, true, true, true, true, true, true, false, false, false, false, false, false, false, false, false, false, false, false, false, false, false, false, false, false, false, false, false, false, false, false, false]) (by kernel_rfl) ?_
      clear HBZa RGZa
      revert RGZb
      revert RUZb
      revert HBZb
      revert Zb
      revert cu
      revert Au
      revert b8
      exact key
  intro b8 Au cu Y8 HBY8 RUY8 RGY8
  clear HBY7
  refine wpE_br [22] (by kernel_rfl) ?_
  refine AllE.cons rfl rfl (fun K hK => ?_) AllE.nil
  go_simp
  refine (rsameb_any _ _ [0] [0] Y8 RUY8.out RGY8.out).mono ?_
  rintro e Y9 ⟨rfl, hb⟩
  rw [same_yes]
  have HXY9 := Lib.hid hb
  refine hK.out _ _ (bchain HBY8.out hb) ?_
  clear hK K hb
  (try dsimp only); (try simp only [Act.put]); (try simp only [List.setIfInBounds_toArray, List.set_cons_zero, List.set_cons_succ])
  have HBY9 : Hid (Below W.heap.size W Y9) := bchain HBY8.out HXY9.out
  clear HXY9 HBY8
  (refine wpE_take 23 (v := ?_) (by kernel_rfl) rfl rfl (by exact HBY9.out) (fun w' hS => ?_) ?_; rotate_left; (focus ((try obtain ⟨⟨s0, s1, s2⟩, u0, u1, u2⟩ := HS.out _ (hS rfl)); clear hS; go_simp; try with_reducible rfl; done)); (try dsimp only); (try simp only [Act.put]); (try simp only [List.setIfInBounds_toArray, List.set_cons_zero, List.set_cons_succ]))
  (refine wpE_take 24 (v := ?_) (by kernel_rfl) rfl rfl (by exact HBY9.out) (fun w' hS => ?_) ?_; rotate_left; (focus ((try obtain ⟨⟨s0, s1, s2⟩, u0, u1, u2⟩ := HS.out _ (hS rfl)); clear hS; go_simp; try with_reducible rfl; done)); (try dsimp only); (try simp only [Act.put]); (try simp only [List.setIfInBounds_toArray, List.set_cons_zero, List.set_cons_succ]))
  (refine wpE_take 25 (v := ?_) (by kernel_rfl) rfl rfl (by exact HBY9.out) (fun w' hS => ?_) ?_; rotate_left; (focus ((try obtain ⟨⟨s0, s1, s2⟩, u0, u1, u2⟩ := HS.out _ (hS rfl)); clear hS; go_simp; try with_reducible rfl; done)); (try dsimp only); (try simp only [Act.put]); (try simp only [List.setIfInBounds_toArray, List.set_cons_zero, List.set_cons_succ]))
  refine wpE_br [26] (by kernel_rfl) ?_
  refine AllE.cons rfl rfl (fun K hK => ?_) AllE.nil
  go_simp
  refine (fempty_any _ exF Y9 (HX.out.below HBY9.out) ex_fin (by decide)).mono ?_
  rintro e Y10 ⟨rfl, hb⟩
  rw [ex_empty]
  have HXY10 := Lib.hid hb
  refine hK.out _ _ (bchain HBY9.out hb) ?_
  clear hK K hb
  (try dsimp only); (try simp only [Act.put]); (try simp only [List.setIfInBounds_toArray, List.set_cons_zero, List.set_cons_succ])
  have HBY10 : Hid (Below W.heap.size W Y10) := bchain HBY9.out HXY10.out
  clear HXY10 HBY9
  (refine wpE_take 27 (v := ?_) (by kernel_rfl) rfl rfl (by exact HBY10.out) (fun w' hS => ?_) ?_; rotate_left; (focus ((try obtain ⟨⟨s0, s1, s2⟩, u0, u1, u2⟩ := HS.out _ (hS rfl)); clear hS; go_simp; try with_reducible rfl; done)); (try dsimp only); (try simp only [Act.put]); (try simp only [List.setIfInBounds_toArray, List.set_cons_zero, List.set_cons_succ]))
  (refine wpE_take 28 (v := ?_) (by kernel_rfl) rfl rfl (by exact HBY10.out) (fun w' hS => ?_) ?_; rotate_left; (focus ((try obtain ⟨⟨s0, s1, s2⟩, u0, u1, u2⟩ := HS.out _ (hS rfl)); clear hS; go_simp; try with_reducible rfl; done)); (try dsimp only); (try simp only [Act.put]); (try simp only [List.setIfInBounds_toArray, List.set_cons_zero, List.set_cons_succ]))
  (refine wpE_take 29 (v := ?_) (by kernel_rfl) rfl rfl (by exact HBY10.out) (fun w' hS => ?_) ?_; rotate_left; (focus ((try obtain ⟨⟨s0, s1, s2⟩, u0, u1, u2⟩ := HS.out _ (hS rfl)); clear hS; go_simp; try with_reducible rfl; done)); (try dsimp only); (try simp only [Act.put]); (try simp only [List.setIfInBounds_toArray, List.set_cons_zero, List.set_cons_succ]))
  refine wpE_br [30] (by kernel_rfl) ?_
  refine AllE.cons rfl rfl (fun K hK => ?_) AllE.nil
  go_simp
  obtain ⟨b9, hb9⟩ : ∃ g, Y10.heap.size = g := ⟨_, rfl⟩
  generalize hal : World.alloc Y10 _ = Y11
  have HXY11 : Hid (Below Y10.heap.size Y10 Y11) := by rw [← hal]; exact al_below Y10 _
  have RIY11 : Hid (RdI Y11 (.slice (some ⟨b9, 0, none⟩) 1 1) [1]) := by rw [← hal]; exact rdI_row Y10 b9 hb9 [1] (by decide)
  rw [hb9]
  refine hK.out _ _ (bchain HBY10.out HXY11.out) ?_
  clear hK K hal hb9
  (try dsimp only); (try simp only [Act.put]); (try simp only [List.setIfInBounds_toArray, List.set_cons_zero, List.set_cons_succ])
  have HBY11 : Hid (Below W.heap.size W Y11) := bchain HBY10.out HXY11.out
  clear HXY11
  clear HBY10
  (refine wpE_take 31 (v := ?_) (by kernel_rfl) rfl rfl (by exact HBY11.out) (fun w' hS => ?_) ?_; rotate_left; (focus ((try obtain ⟨⟨s0, s1, s2⟩, u0, u1, u2⟩ := HS.out _ (hS rfl)); clear hS; go_simp; try with_reducible rfl; done)); (try dsimp only); (try simp only [Act.put]); (try simp only [List.setIfInBounds_toArray, List.set_cons_zero, List.set_cons_succ]))
  refine wpE_br [32] (by kernel_rfl) ?_
  refine AllE.cons rfl rfl (fun K hK => ?_) AllE.nil
  go_simp
  refine (fempty_any _ twoF Y11 ⟨_, _, rfl, rdA_nil _, RIY11.out⟩ two_fin (by decide)).mono ?_
  rintro e Y12 ⟨rfl, hb⟩
  rw [two_empty]
  have HXY12 := Lib.hid hb
  refine hK.out _ _ (bchain HBY11.out hb) ?_
  clear hK K hb
  (try dsimp only); (try simp only [Act.put]); (try simp only [List.setIfInBounds_toArray, List.set_cons_zero, List.set_cons_succ])
  have HBY12 : Hid (Below W.heap.size W Y12) := bchain HBY11.out HXY12.out
  clear HXY12 HBY11
  (refine wpE_take 33 (v := ?_) (by kernel_rfl) rfl rfl (by exact HBY12.out) (fun w' hS => ?_) ?_; rotate_left; (focus ((try obtain ⟨⟨s0, s1, s2⟩, u0, u1, u2⟩ := HS.out _ (hS rfl)); clear hS; go_simp; try with_reducible rfl; done)); (try dsimp only); (try simp only [Act.put]); (try simp only [List.setIfInBounds_toArray, List.set_cons_zero, List.set_cons_succ]))
  (refine wpE_take 34 (v := ?_) (by kernel_rfl) rfl rfl (by exact HBY12.out) (fun w' hS => ?_) ?_; rotate_left; (focus ((try obtain ⟨⟨s0, s1, s2⟩, u0, u1, u2⟩ := HS.out _ (hS rfl)); clear hS; go_simp; try with_reducible rfl; done)); (try dsimp only); (try simp only [Act.put]); (try simp only [List.setIfInBounds_toArray, List.set_cons_zero, List.set_cons_succ]))
  (refine wpE_take 35 (v := ?_) (by kernel_rfl) rfl rfl (by exact HBY12.out) (fun w' hS => ?_) ?_; rotate_left; (focus ((try obtain ⟨⟨s0, s1, s2⟩, u0, u1, u2⟩ := HS.out _ (hS rfl)); clear hS; go_simp; try with_reducible rfl; done)); (try dsimp only); (try simp only [Act.put]); (try simp only [List.setIfInBounds_toArray, List.set_cons_zero, List.set_cons_succ]))
  (refine wpE_take 37 (v := ?_) (by kernel_rfl) rfl rfl (by exact HBY12.out) (fun w' hS => ?_) ?_; rotate_left; (focus ((try obtain ⟨⟨s0, s1, s2⟩, u0, u1, u2⟩ := HS.out _ (hS rfl)); clear hS; go_simp; try with_reducible rfl; done)); (try dsimp only); (try simp only [Act.put]); (try simp only [List.setIfInBounds_toArray, List.set_cons_zero, List.set_cons_succ]))
  refine wpE_br [36] (by kernel_rfl) ?_
  refine AllE.cons rfl rfl (fun K hK => ?_) AllE.nil
  go_simp
  refine (ftrim_any _ exF Y12 (HX.out.below HBY12.out) ex_fin (by decide)).mono ?_
  rintro e Y13 ⟨⟨vt, rfl, ht⟩, hb⟩
  rw [ex_trim] at ht
  have ht2 := ht.rd
  obtain ⟨ta, tf, rfl, hta, htf⟩ := ht
  obtain ⟨_, _, rfl⟩ := own_sliceA hta
  obtain ⟨_, _, _, rfl⟩ := own_slice htf
  have RTY13 := Lib.hid ht2
  clear ht2 hta htf
  have HXY13 := Lib.hid hb
  refine hK.out _ _ (bchain HBY12.out hb) ?_
  clear hK K hb
  (try dsimp only); (try simp only [Act.put]); (try simp only [List.setIfInBounds_toArray, List.set_cons_zero, List.set_cons_succ])
  have HBY13 : Hid (Below W.heap.size W Y13) := bchain HBY12.out HXY13.out
  clear HXY13 HBY12
  refine wpE_br [38] (by kernel_rfl) ?_
  refine AllE.cons rfl rfl (fun K hK => ?_) AllE.nil
  go_simp
  refine (fsame_any _ _ exF exF Y13 RTY13.out (HX.out.below HBY13.out)).mono ?_
  rintro e Y14 ⟨rfl, hb⟩
  rw [pB_yes rfl]
  have HXY14 := Lib.hid hb
  refine hK.out _ _ (bchain HBY13.out hb) ?_
  clear hK K hb
  (try dsimp only); (try simp only [Act.put]); (try simp only [List.setIfInBounds_toArray, List.set_cons_zero, List.set_cons_succ])
  have HBY14 : Hid (Below W.heap.size W Y14) := bchain HBY13.out HXY14.out
  clear HXY14 HBY13
  (refine wpE_take 39 (v := ?_) (by kernel_rfl) rfl rfl (by exact HBY14.out) (fun w' hS => ?_) ?_; rotate_left; (focus ((try obtain ⟨⟨s0, s1, s2⟩, u0, u1, u2⟩ := HS.out _ (hS rfl)); clear hS; go_simp; try with_reducible rfl; done)); (try dsimp only); (try simp only [Act.put]); (try simp only [List.setIfInBounds_toArray, List.set_cons_zero, List.set_cons_succ]))
  (refine wpE_take 40 (v := ?_) (by kernel_rfl) rfl rfl (by exact HBY14.out) (fun w' hS => ?_) ?_; rotate_left; (focus ((try obtain ⟨⟨s0, s1, s2⟩, u0, u1, u2⟩ := HS.out _ (hS rfl)); clear hS; go_simp; try with_reducible rfl; done)); (try dsimp only); (try simp only [Act.put]); (try simp only [List.setIfInBounds_toArray, List.set_cons_zero, List.set_cons_succ]))
  (refine wpE_take 41 (v := ?_) (by kernel_rfl) rfl rfl (by exact HBY14.out) (fun w' hS => ?_) ?_; rotate_left; (focus ((try obtain ⟨⟨s0, s1, s2⟩, u0, u1, u2⟩ := HS.out _ (hS rfl)); clear hS; go_simp; try with_reducible rfl; done)); (try dsimp only); (try simp only [Act.put]); (try simp only [List.setIfInBounds_toArray, List.set_cons_zero, List.set_cons_succ]))
  (refine wpE_take 42 (v := ?_) (by kernel_rfl) rfl rfl (by exact HBY14.out) (fun w' hS => ?_) ?_; rotate_left; (focus ((try obtain ⟨⟨s0, s1, s2⟩, u0, u1, u2⟩ := HS.out _ (hS rfl)); clear hS; go_simp; try with_reducible rfl; done)); (try dsimp only); (try simp only [Act.put]); (try simp only [List.setIfInBounds_toArray, List.set_cons_zero, List.set_cons_succ]))
  refine wpE_br [43] (by kernel_rfl) ?_
  refine AllE.cons rfl rfl (fun K hK => ?_) AllE.nil
  go_simp
  refine (fsame_any _ _ oneF exF Y14 (HO.out.below HBY14.out) (HX.out.below HBY14.out)).mono ?_
  rintro e Y15 ⟨rfl, hb⟩
  rw [pB_no one_ne]
  have HXY15 := Lib.hid hb
  refine hK.out _ _ (bchain HBY14.out hb) ?_
  clear hK K hb
  (try dsimp only); (try simp only [Act.put]); (try simp only [List.setIfInBounds_toArray, List.set_cons_zero, List.set_cons_succ])
  have HBY15 : Hid (Below W.heap.size W Y15) := bchain HBY14.out HXY15.out
  clear HXY15 HBY14
  (refine wpE_take 44 (v := ?_) (by kernel_rfl) rfl rfl (by exact HBY15.out) (fun w' hS => ?_) ?_; rotate_left; (focus ((try obtain ⟨⟨s0, s1, s2⟩, u0, u1, u2⟩ := HS.out _ (hS rfl)); clear hS; go_simp; try with_reducible rfl; done)); (try dsimp only); (try simp only [Act.put]); (try simp only [List.setIfInBounds_toArray, List.set_cons_zero, List.set_cons_succ]))
  (refine wpE_take 45 (v := ?_) (by kernel_rfl) rfl rfl (by exact HBY15.out) (fun w' hS => ?_) ?_; rotate_left; (focus ((try obtain ⟨⟨s0, s1, s2⟩, u0, u1, u2⟩ := HS.out _ (hS rfl)); clear hS; go_simp; try with_reducible rfl; done)); (try dsimp only); (try simp only [Act.put]); (try simp only [List.setIfInBounds_toArray, List.set_cons_zero, List.set_cons_succ]))
  clear HS
  refine wpE_rest 46 (by kernel_rfl) ?_
  simp only [List.drop_succ_cons, List.drop_zero]
  go_wp2_with fail
  refine NoPanic.normal ?_
  go_wp2_with fail
  go_ret
  exact ⟨rfl, bchain HBW.out HBY15.out⟩
end Go.Proofs.Ytmejihlplbeekaa
