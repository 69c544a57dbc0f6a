/-
  Copy of the reference 21.
-/
import Derived.Test.YtmeppkkoepmlnaaT24
import Derived.Test.YtmeppkkoepmlnaaReg3
namespace Go.Proofs.Ytmeppkkoepmlnaa
open Go.ChangeShapes Go.WideShapes Go.ChangeAt Go.RowKit
theorem own_newA (w : World) (base g : Nat) (hg : w.heap.size = g) (hb : base ≤ g) : OwnA (w.alloc (.cells #[] 57)) base (.slice (some ⟨g, 0, none⟩) 0 0) [] := by
  subst hg
  exact ⟨rfl, .inr ⟨w.heap.size, 0, #[], rfl, hb, heap_alloc_new w _, Nat.le_refl _, by simp [maxLen], rfl, rfl⟩⟩
theorem own_newI (w : World) (base g : Nat) (hg : w.heap.size = g) (hb : base ≤ g) : OwnI (w.alloc (.cells #[] 3)) base (.slice (some ⟨g, 0, none⟩) 0 0) [] := by
  subst hg
  exact ⟨rfl, .inr ⟨w.heap.size, 0, #[], rfl, hb, heap_alloc_new w _, Nat.le_refl _, by simp [maxLen], rfl, rfl⟩⟩
theorem OwnA.keptI {w w' : World} {base : Nat} {v u : Value} {l : List PArc} {xs : List Int} (h : OwnA w base v l) (hu : OwnI w base u xs) (hg : w.grownBy w' u.ownBlock) : OwnA w' base v l := by
  refine World.ownsRow.kept h hg ?_
  cases hv : v.ownBlock with
  | none => exact .inl rfl
  | some k =>
    refine .inr fun he => ?_
    obtain ⟨cs, hc⟩ := row_type h hv
    obtain ⟨cs', hc'⟩ := row_type hu he.symm
    exact ne_of_type hc hc' (by decide) rfl
theorem OwnI.keptA {w w' : World} {base : Nat} {v u : Value} {l : List PArc} {xs : List Int} (h : OwnI w base u xs) (hu : OwnA w base v l) (hg : w.grownBy w' v.ownBlock) : OwnI w' base u xs := by
  refine World.ownsRow.kept h hg ?_
  cases hv : u.ownBlock with
  | none => exact .inl rfl
  | some k =>
    refine .inr fun he => ?_
    obtain ⟨cs, hc⟩ := row_type h hv
    obtain ⟨cs', hc'⟩ := row_type hu he.symm
    exact ne_of_type hc hc' (by decide) rfl
theorem below_grown {W w w' : World} {base : Nat} {e : TypeId} {size n : Nat} {v : Value} {xs : List Value} (h : Below W.heap.size W w) (hB : W.heap.size ≤ base) (ho : w.ownsRow base e size v n xs) (hg : w.grownBy w' v.ownBlock) : Below W.heap.size W w' :=
  h.grown hg h.size (fun k hk => Nat.le_trans hB (World.ownsRow.lt ho k hk).1)
-- $1 world before, $2 world after, $3 number of the hypothesis Below before, $4 after, $5 own lemma, $6 name of the new fact
-- $1 world before, $2 after, $3 Below before, $4 after, $5 own of the empty row, $6 new own
-- $1 the world, $2 Below, $3 OwnA, $4 OwnI
set_option maxHeartbeats 2000000 in
theorem copy_any (v : Value) (F : PFst) (w : World) (hv : RdF w v F) (h1 : F.arcs.length ≤ 300000) (h2 : F.final.length ≤ 300000) :
    Calls Try.prog 26 #[v] w fun e w' => (∃ vF, e = .returned vF ∧ OwnF w.heap.size w' vF F) ∧ Below w.heap.size w w' := by
  have HV := Lib.hid hv
  have HL1 := Lib.hid h1
  have HL2 := Lib.hid h2
  obtain ⟨va, vf, rfl, ha, hf⟩ := hv
  obtain ⟨A, n, c, rfl, _, _, _, _⟩ := ha.op
  obtain ⟨A', n', c', rfl, _, _, _, _⟩ := hf.op
  have HA := Lib.hid ha
  have HF := Lib.hid hf
  clear ha hf h1 h2
  go_enter Try.func26, Try.ntmps26
  go_wp2_with fail
  generalize hW : World.alloc (World.alloc w _) _ = W
  have HP : Hid (FBlk W w.heap.size (.int .i64 F.states) (.slice A n c) (.slice A' n' c')) := by rw [← hW]; exact (Below.heap_alloc _ _ _ (by simp)).trans (heap_alloc_new w _)
  have HR : Hid (FBlk W (w.heap.size + 1) (.int .i64 0) (.slice none 0 0) (.slice none 0 0)) := by
    rw [Hid, FBlk, ← hW]
    have := heap_alloc_new (w.alloc (.cells #[.int .i64 F.states, .slice A n c, .slice A' n' c'] 29)) (.cells #[.int .i64 0, .slice none 0 0, .slice none 0 0] 29)
    simpa using this
  have HBW : Hid (Below w.heap.size w W) := by rw [← hW]; repeat (first | assumption | exact Below.refl _ _ | refine Below.alloc ?_ (by first | omega | (simp; done) | (simp; omega)) _ | refine Below.drew ?_ | refine below_drewN ?_ _ | refine Below.setCell ?_ (by first | omega | (simp; done) | (simp; omega)) _)
  have hWz : W.heap.size = w.heap.size + 2 := by rw [← hW]; simp
  have HWz := Lib.hid hWz
  clear hW hWz
  refine wp_region_steps 12 10 [0, 1, 2, 3, 4, 5, 6, 7, 8, 9] [] (fun w' => Below W.heap.size W w') (by kernel_rfl) (by kernel_rfl) ?_
  rintro D hD
  have HSD : Hid (Below W.heap.size W D) := by rw [hD]; exact (Below.refl _ _).drew
  clear hD
  have HS : Hid (∀ w' : World, Below W.heap.size W w' → w'.cell? ⟨w.heap.size, 0, none⟩ = some (.int .i64 F.states) ∧ w'.cell? ⟨w.heap.size, 1, none⟩ = some (.slice A n c) ∧ w'.cell? ⟨w.heap.size, 2, none⟩ = some (.slice A' n' c')) := by
    intro w' h
    obtain ⟨f0, f1, f2, _, _, _⟩ := (HP.out.below h).facts
    exact ⟨f0, f1, f2⟩
  (refine wpE_take 0 (v := ?_) (by kernel_rfl) rfl rfl (by exact HSD.out) (fun w' hS => ?_) ?_; rotate_left; (focus ((try obtain ⟨s0, s1, s2⟩ := HS.out _ (hS rfl)); clear hS; go_simp; try with_reducible rfl; done)); (try simp only [Act.put, List.setIfInBounds_toArray, List.set_cons_zero, List.set_cons_succ]))
  (refine wpE_take 1 (v := ?_) (by kernel_rfl) rfl rfl (by exact HSD.out) (fun w' hS => ?_) ?_; rotate_left; (focus ((try obtain ⟨s0, s1, s2⟩ := HS.out _ (hS rfl)); clear hS; go_simp; try with_reducible rfl; done)); (try simp only [Act.put, List.setIfInBounds_toArray, List.set_cons_zero, List.set_cons_succ]))
  (refine wpE_take 3 (v := ?_) (by kernel_rfl) rfl rfl (by exact HSD.out) (fun w' hS => ?_) ?_; rotate_left; (focus ((try obtain ⟨s0, s1, s2⟩ := HS.out _ (hS rfl)); clear hS; go_simp; try with_reducible rfl; done)); (try simp only [Act.put, List.setIfInBounds_toArray, List.set_cons_zero, List.set_cons_succ]))
  (refine wpE_take 4 (v := ?_) (by kernel_rfl) rfl rfl (by exact HSD.out) (fun w' hS => ?_) ?_; rotate_left; (focus ((try obtain ⟨s0, s1, s2⟩ := HS.out _ (hS rfl)); clear hS; go_simp; try with_reducible rfl; done)); (try simp only [Act.put, List.setIfInBounds_toArray, List.set_cons_zero, List.set_cons_succ]))
  (refine wpE_take 7 (v := ?_) (by kernel_rfl) rfl rfl (by exact HSD.out) (fun w' hS => ?_) ?_; rotate_left; (focus ((try obtain ⟨s0, s1, s2⟩ := HS.out _ (hS rfl)); clear hS; go_simp; try with_reducible rfl; done)); (try simp only [Act.put, List.setIfInBounds_toArray, List.set_cons_zero, List.set_cons_succ]))
  (refine wpE_take 8 (v := ?_) (by kernel_rfl) rfl rfl (by exact HSD.out) (fun w' hS => ?_) ?_; rotate_left; (focus ((try obtain ⟨s0, s1, s2⟩ := HS.out _ (hS rfl)); clear hS; go_simp; try with_reducible rfl; done)); (try simp only [Act.put, List.setIfInBounds_toArray, List.set_cons_zero, List.set_cons_succ]))
  refine wpE_br [2, 6] (by kernel_rfl) ?_
  refine AllE.cons rfl rfl (fun K hK => ?_) (AllE.cons rfl rfl (fun K hK => ?_) AllE.nil)
  · skip
    go_simp
    refine hK.out _ _ ((HSD).out.alloc (HSD).out.size _) ?_
    clear hK K
    (try simp only [Act.put, List.setIfInBounds_toArray, List.set_cons_zero, List.set_cons_succ])
    generalize hX : World.alloc D _ = X1
    have HS1 : Hid (Below W.heap.size W X1) := by rw [← hX]; exact (HSD).out.alloc (HSD).out.size _
    have HXX1 : Hid (Below D.heap.size D X1) := by rw [← hX]; exact (Below.refl _ _).alloc (Nat.le_refl _) _
    have O2 := Lib.hid (own_newA D W.heap.size _ rfl (HSD).out.size)
    rw [hX] at O2
    clear hX
    refine wpE_br [5, 6] (by kernel_rfl) ?_
    refine AllE.cons rfl rfl (fun K hK => ?_) (AllE.cons rfl rfl (fun K hK => ?_) AllE.nil)
    · skip
      refine wp_app_arcs (.tmp 5) (.tmp 7) rfl W.heap.size _ [] rfl (O2).out _ F.arcs rfl (HA.out.below (bchain HBW.out (HS1).out)) (by have := HL1.out; simp; omega) (HS1).out.size ?_
      intro va' X2 ho hg _
      refine hK.out _ _ (below_grown (HS1).out (Nat.le_refl _) (O2).out hg) ?_
      clear hK K
      (try simp only [Act.put, List.setIfInBounds_toArray, List.set_cons_zero, List.set_cons_succ])
      have HS2 := Lib.hid (below_grown (HS1).out (Nat.le_refl _) (O2).out hg)
      have O5 : Hid (OwnA X2 W.heap.size va' F.arcs) := ho
      have HGR := Lib.hid hg
      clear ho hg
      refine wpE_br [6] (by kernel_rfl) ?_
      refine AllE.cons rfl rfl (fun K hK => ?_) AllE.nil
      go_simp
      refine hK.out _ _ ((HS2).out.alloc (HS2).out.size _) ?_
      clear hK K
      (try simp only [Act.put, List.setIfInBounds_toArray, List.set_cons_zero, List.set_cons_succ])
      generalize hX : World.alloc X2 _ = X3
      have HS3 : Hid (Below W.heap.size W X3) := by rw [← hX]; exact (HS2).out.alloc (HS2).out.size _
      have HXX3 : Hid (Below X2.heap.size X2 X3) := by rw [← hX]; exact (Below.refl _ _).alloc (Nat.le_refl _) _
      have O6 := Lib.hid (own_newI X2 W.heap.size _ rfl (HS2).out.size)
      rw [hX] at O6
      clear hX
      have O53 : Hid (OwnA X3 W.heap.size va' F.arcs) := own_below O5.out HXX3.out
      refine wpE_br [9] (by kernel_rfl) ?_
      refine AllE.cons rfl rfl (fun K hK => ?_) AllE.nil
      refine wp_app_ints (.tmp 9) (.tmp 11) rfl W.heap.size _ [] rfl (O6).out _ F.final rfl (HF.out.below (bchain HBW.out (HS3).out)) (by have := HL2.out; simp; omega) (HS3).out.size ?_
      intro vf' X4 ho hg _
      refine hK.out _ _ (below_grown (HS3).out (Nat.le_refl _) (O6).out hg) ?_
      clear hK K
      (try simp only [Act.put, List.setIfInBounds_toArray, List.set_cons_zero, List.set_cons_succ])
      have HS4 := Lib.hid (below_grown (HS3).out (Nat.le_refl _) (O6).out hg)
      have O9 : Hid (OwnI X4 W.heap.size vf' F.final) := ho
      have HGI := Lib.hid hg
      clear ho hg
      have O54 := Lib.hid (O53.out.keptI O6.out HGI.out)
      refine wpE_rest 10 (by kernel_rfl) ?_
      simp only [List.drop_succ_cons, List.drop_zero]
      obtain ⟨A3, n3, c3, rfl, _, _, _, _⟩ := (O54).out.rd.op
      obtain ⟨A4, n4, c4, rfl, _, _, _, _⟩ := (O9).out.rd.op
      have hRw := HR.out.below (HS4).out
      obtain ⟨r0, r1, r2, f0, f1, f2⟩ := hRw.facts
      have HRW := Lib.hid hRw
      clear hRw
      go_wp2_with fail
      refine NoPanic.normal ?_
      go_wp2_with fail
      refine bodyPost_ret (v := .agg #[.int .i64 F.states, .slice A3 n3 c3, .slice A4 n4 c4]) ?_ rfl ?_
      · simp [results, Try.results26, go_sem, r0, r1, r2]
      refine ⟨⟨_, rfl, _, _, rfl, ?_, ?_⟩, ?_⟩
      · have hne : (Value.slice A3 n3 c3).ownBlock ≠ some (w.heap.size + 1) := fun he => by obtain ⟨cs, hc⟩ := row_type (O54).out he; exact ne_of_type HRW.out hc (by decide) rfl
        exact own_base (own_setCell (own_setCell (own_setCell (O54).out hne _ _) hne _ _) hne _ _) (by rw [HWz.out]; omega)
      · have hne : (Value.slice A4 n4 c4).ownBlock ≠ some (w.heap.size + 1) := fun he => by obtain ⟨cs, hc⟩ := row_type (O9).out he; exact ne_of_type HRW.out hc (by decide) rfl
        exact own_base (own_setCell (own_setCell (own_setCell (O9).out hne _ _) hne _ _) hne _ _) (by rw [HWz.out]; omega)
      · exact (((bchain HBW.out (HS4).out).setCell (by first | omega | (simp; done) | (simp; omega)) _).setCell (by first | omega | (simp; done) | (simp; omega)) _).setCell (by first | omega | (simp; done) | (simp; omega)) _
    · skip
      go_simp
      refine hK.out _ _ ((HS1).out.alloc (HS1).out.size _) ?_
      clear hK K
      (try simp only [Act.put, List.setIfInBounds_toArray, List.set_cons_zero, List.set_cons_succ])
      generalize hX : World.alloc X1 _ = X2
      have HS2 : Hid (Below W.heap.size W X2) := by rw [← hX]; exact (HS1).out.alloc (HS1).out.size _
      have HXX2 : Hid (Below X1.heap.size X1 X2) := by rw [← hX]; exact (Below.refl _ _).alloc (Nat.le_refl _) _
      have O6 := Lib.hid (own_newI X1 W.heap.size _ rfl (HS1).out.size)
      rw [hX] at O6
      clear hX
      have O22 : Hid (OwnA X2 W.heap.size _ []) := own_below O2.out HXX2.out
      refine wpE_br [5] (by kernel_rfl) ?_
      refine AllE.cons rfl rfl (fun K hK => ?_) AllE.nil
      refine wp_app_arcs (.tmp 5) (.tmp 7) rfl W.heap.size _ [] rfl (O22).out _ F.arcs rfl (HA.out.below (bchain HBW.out (HS2).out)) (by have := HL1.out; simp; omega) (HS2).out.size ?_
      intro va' X3 ho hg _
      refine hK.out _ _ (below_grown (HS2).out (Nat.le_refl _) (O22).out hg) ?_
      clear hK K
      (try simp only [Act.put, List.setIfInBounds_toArray, List.set_cons_zero, List.set_cons_succ])
      have HS3 := Lib.hid (below_grown (HS2).out (Nat.le_refl _) (O22).out hg)
      have O5 : Hid (OwnA X3 W.heap.size va' F.arcs) := ho
      have HGR := Lib.hid hg
      clear ho hg
      have O63 := Lib.hid (O6.out.keptA O22.out HGR.out)
      refine wpE_br [9] (by kernel_rfl) ?_
      refine AllE.cons rfl rfl (fun K hK => ?_) AllE.nil
      refine wp_app_ints (.tmp 9) (.tmp 11) rfl W.heap.size _ [] rfl (O63).out _ F.final rfl (HF.out.below (bchain HBW.out (HS3).out)) (by have := HL2.out; simp; omega) (HS3).out.size ?_
      intro vf' X4 ho hg _
      refine hK.out _ _ (below_grown (HS3).out (Nat.le_refl _) (O63).out hg) ?_
      clear hK K
      (try simp only [Act.put, List.setIfInBounds_toArray, List.set_cons_zero, List.set_cons_succ])
      have HS4 := Lib.hid (below_grown (HS3).out (Nat.le_refl _) (O63).out hg)
      have O9 : Hid (OwnI X4 W.heap.size vf' F.final) := ho
      have HGI := Lib.hid hg
      clear ho hg
      have O54 := Lib.hid (O5.out.keptI O63.out HGI.out)
      refine wpE_rest 10 (by kernel_rfl) ?_
      simp only [List.drop_succ_cons, List.drop_zero]
      obtain ⟨A3, n3, c3, rfl, _, _, _, _⟩ := (O54).out.rd.op
      obtain ⟨A4, n4, c4, rfl, _, _, _, _⟩ := (O9).out.rd.op
      have hRw := HR.out.below (HS4).out
      obtain ⟨r0, r1, r2, f0, f1, f2⟩ := hRw.facts
      have HRW := Lib.hid hRw
      clear hRw
      go_wp2_with fail
      refine NoPanic.normal ?_
      go_wp2_with fail
      refine bodyPost_ret (v := .agg #[.int .i64 F.states, .slice A3 n3 c3, .slice A4 n4 c4]) ?_ rfl ?_
      · simp [results, Try.results26, go_sem, r0, r1, r2]
      refine ⟨⟨_, rfl, _, _, rfl, ?_, ?_⟩, ?_⟩
      · have hne : (Value.slice A3 n3 c3).ownBlock ≠ some (w.heap.size + 1) := fun he => by obtain ⟨cs, hc⟩ := row_type (O54).out he; exact ne_of_type HRW.out hc (by decide) rfl
        exact own_base (own_setCell (own_setCell (own_setCell (O54).out hne _ _) hne _ _) hne _ _) (by rw [HWz.out]; omega)
      · have hne : (Value.slice A4 n4 c4).ownBlock ≠ some (w.heap.size + 1) := fun he => by obtain ⟨cs, hc⟩ := row_type (O9).out he; exact ne_of_type HRW.out hc (by decide) rfl
        exact own_base (own_setCell (own_setCell (own_setCell (O9).out hne _ _) hne _ _) hne _ _) (by rw [HWz.out]; omega)
      · exact (((bchain HBW.out (HS4).out).setCell (by first | omega | (simp; done) | (simp; omega)) _).setCell (by first | omega | (simp; done) | (simp; omega)) _).setCell (by first | omega | (simp; done) | (simp; omega)) _
  · skip
    go_simp
    refine hK.out _ _ ((HSD).out.alloc (HSD).out.size _) ?_
    clear hK K
    (try simp only [Act.put, List.setIfInBounds_toArray, List.set_cons_zero, List.set_cons_succ])
    generalize hX : World.alloc D _ = X1
    have HS1 : Hid (Below W.heap.size W X1) := by rw [← hX]; exact (HSD).out.alloc (HSD).out.size _
    have HXX1 : Hid (Below D.heap.size D X1) := by rw [← hX]; exact (Below.refl _ _).alloc (Nat.le_refl _) _
    have O6 := Lib.hid (own_newI D W.heap.size _ rfl (HSD).out.size)
    rw [hX] at O6
    clear hX
    refine wpE_br [2] (by kernel_rfl) ?_
    refine AllE.cons rfl rfl (fun K hK => ?_) AllE.nil
    go_simp
    refine hK.out _ _ ((HS1).out.alloc (HS1).out.size _) ?_
    clear hK K
    (try simp only [Act.put, List.setIfInBounds_toArray, List.set_cons_zero, List.set_cons_succ])
    generalize hX : World.alloc X1 _ = X2
    have HS2 : Hid (Below W.heap.size W X2) := by rw [← hX]; exact (HS1).out.alloc (HS1).out.size _
    have HXX2 : Hid (Below X1.heap.size X1 X2) := by rw [← hX]; exact (Below.refl _ _).alloc (Nat.le_refl _) _
    have O2 := Lib.hid (own_newA X1 W.heap.size _ rfl (HS1).out.size)
    rw [hX] at O2
    clear hX
    have O62 : Hid (OwnI X2 W.heap.size _ []) := own_below O6.out HXX2.out
    refine wpE_br [5] (by kernel_rfl) ?_
    refine AllE.cons rfl rfl (fun K hK => ?_) AllE.nil
    refine wp_app_arcs (.tmp 5) (.tmp 7) rfl W.heap.size _ [] rfl (O2).out _ F.arcs rfl (HA.out.below (bchain HBW.out (HS2).out)) (by have := HL1.out; simp; omega) (HS2).out.size ?_
    intro va' X3 ho hg _
    refine hK.out _ _ (below_grown (HS2).out (Nat.le_refl _) (O2).out hg) ?_
    clear hK K
    (try simp only [Act.put, List.setIfInBounds_toArray, List.set_cons_zero, List.set_cons_succ])
    have HS3 := Lib.hid (below_grown (HS2).out (Nat.le_refl _) (O2).out hg)
    have O5 : Hid (OwnA X3 W.heap.size va' F.arcs) := ho
    have HGR := Lib.hid hg
    clear ho hg
    have O63 := Lib.hid (O62.out.keptA O2.out HGR.out)
    refine wpE_br [9] (by kernel_rfl) ?_
    refine AllE.cons rfl rfl (fun K hK => ?_) AllE.nil
    refine wp_app_ints (.tmp 9) (.tmp 11) rfl W.heap.size _ [] rfl (O63).out _ F.final rfl (HF.out.below (bchain HBW.out (HS3).out)) (by have := HL2.out; simp; omega) (HS3).out.size ?_
    intro vf' X4 ho hg _
    refine hK.out _ _ (below_grown (HS3).out (Nat.le_refl _) (O63).out hg) ?_
    clear hK K
    (try simp only [Act.put, List.setIfInBounds_toArray, List.set_cons_zero, List.set_cons_succ])
    have HS4 := Lib.hid (below_grown (HS3).out (Nat.le_refl _) (O63).out hg)
    have O9 : Hid (OwnI X4 W.heap.size vf' F.final) := ho
    have HGI := Lib.hid hg
    clear ho hg
    have O54 := Lib.hid (O5.out.keptI O63.out HGI.out)
    refine wpE_rest 10 (by kernel_rfl) ?_
    simp only [List.drop_succ_cons, List.drop_zero]
    obtain ⟨A3, n3, c3, rfl, _, _, _, _⟩ := (O54).out.rd.op
    obtain ⟨A4, n4, c4, rfl, _, _, _, _⟩ := (O9).out.rd.op
    have hRw := HR.out.below (HS4).out
    obtain ⟨r0, r1, r2, f0, f1, f2⟩ := hRw.facts
    have HRW := Lib.hid hRw
    clear hRw
    go_wp2_with fail
    refine NoPanic.normal ?_
    go_wp2_with fail
    refine bodyPost_ret (v := .agg #[.int .i64 F.states, .slice A3 n3 c3, .slice A4 n4 c4]) ?_ rfl ?_
    · simp [results, Try.results26, go_sem, r0, r1, r2]
    refine ⟨⟨_, rfl, _, _, rfl, ?_, ?_⟩, ?_⟩
    · have hne : (Value.slice A3 n3 c3).ownBlock ≠ some (w.heap.size + 1) := fun he => by obtain ⟨cs, hc⟩ := row_type (O54).out he; exact ne_of_type HRW.out hc (by decide) rfl
      exact own_base (own_setCell (own_setCell (own_setCell (O54).out hne _ _) hne _ _) hne _ _) (by rw [HWz.out]; omega)
    · have hne : (Value.slice A4 n4 c4).ownBlock ≠ some (w.heap.size + 1) := fun he => by obtain ⟨cs, hc⟩ := row_type (O9).out he; exact ne_of_type HRW.out hc (by decide) rfl
      exact own_base (own_setCell (own_setCell (own_setCell (O9).out hne _ _) hne _ _) hne _ _) (by rw [HWz.out]; omega)
    · exact (((bchain HBW.out (HS4).out).setCell (by first | omega | (simp; done) | (simp; omega)) _).setCell (by first | omega | (simp; done) | (simp; omega)) _).setCell (by first | omega | (simp; done) | (simp; omega)) _
end Go.Proofs.Ytmeppkkoepmlnaa
