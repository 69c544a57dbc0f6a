/-
  FstopsConcat: the walk.
-/
import Derived.Test.YtmeppkkoepmlnaaT29
namespace Go.Proofs.Ytmeppkkoepmlnaa
open Go.ChangeShapes Go.WideShapes Go.ChangeAt Go.RowKit
theorem lconcat_any (v u : Value) (a b : PFst) (w : World) (hv : RdF w v a) (hu : RdF w u b) (ha : LightOk a) (hb : LightOk b) :
    Calls Try.prog 34 #[v, u] w fun e w' => (∃ vF, e = .returned (.tuple #[vF, .int .i64 0]) ∧ OwnF w.heap.size w' vF (concatF a b)) ∧ Below w.heap.size w w' :=
  concatF_any v u a b w hv hu ha.sane hb.sane (union_small ha hb)
set_option maxHeartbeats 4000000 in
set_option maxRecDepth 100000 in
theorem concat_walk (v u x : Value) (a b : PFst) (xs ys : List Int) (w : World) (hv : RdF w v a) (hu : RdF w u b) (hx : RdT w x xs ys) :
    Calls Try.prog 9 #[v, u, x] w fun e w' => e = .returned (.bool true) ∧ Below w.heap.size w w' := by
  obtain ⟨va, vf, rfl, ha, hf⟩ := id hv
  obtain ⟨A1, n1, c1, rfl, _, _, _, _⟩ := ha.op
  obtain ⟨A2, n2, c2, rfl, _, _, _, _⟩ := hf.op
  obtain ⟨ua, uf, rfl, ka, kf⟩ := id hu
  obtain ⟨B1, m1, d1, rfl, _, _, _, _⟩ := ka.op
  obtain ⟨B2, m2, d2, rfl, _, _, _, _⟩ := kf.op
  obtain ⟨vx, vy, rfl, hx1, hx2⟩ := id hx
  obtain ⟨X1, k1, e1, rfl, _, _, _, _⟩ := hx1.op
  obtain ⟨X2, k2, e2, rfl, _, _, _, _⟩ := hx2.op
  have HV := Lib.hid hv
  have HU := Lib.hid hu
  have HX := Lib.hid hx
  clear ha hf ka kf hx1 hx2 hv hu hx
  go_enter Try.func9, Try.ntmps9
  go_wp2_with fail
  generalize hW : World.alloc (World.alloc (World.alloc w _) _) _ = W
  have HP1 : Hid (FBlk W w.heap.size (.int .i64 a.states) (.slice A1 n1 c1) (.slice A2 n2 c2)) := by
    rw [← hW]; exact (Below.heap_alloc _ _ _ (by first | omega | (simp; done) | (simp; omega))).trans ((Below.heap_alloc _ _ _ (by first | omega | (simp; done) | (simp; omega))).trans (heap_alloc_new w _))
  have HP2 : Hid (FBlk W (w.heap.size + 1) (.int .i64 b.states) (.slice B1 m1 d1) (.slice B2 m2 d2)) := by
    rw [Hid, FBlk, ← hW]
    refine (Below.heap_alloc _ _ _ (by first | omega | (simp; done) | (simp; omega))).trans ?_
    have := heap_alloc_new (w.alloc (.cells #[.int .i64 a.states, .slice A1 n1 c1, .slice A2 n2 c2] 29)) (.cells #[.int .i64 b.states, .slice B1 m1 d1, .slice B2 m2 d2] 29)
    simpa using this
  have HP3 : Hid (TBlk W (w.heap.size + 1 + 1) (.slice X1 k1 e1) (.slice X2 k2 e2)) := by
    rw [Hid, TBlk, ← hW]
    have := heap_alloc_new ((w.alloc (.cells #[.int .i64 a.states, .slice A1 n1 c1, .slice A2 n2 c2] 29)).alloc (.cells #[.int .i64 b.states, .slice B1 m1 d1, .slice B2 m2 d2] 29)) (.cells #[.slice X1 k1 e1, .slice X2 k2 e2] 24)
    simpa using this
  have HBW : Hid (Below w.heap.size w W) := by rw [← hW]; repeat (first | assumption | exact Below.refl _ _ | refine Below.alloc ?_ (by first | omega | (simp; done) | (simp; omega)) _ | refine Below.drew ?_ | refine below_drewN ?_ _ | refine Below.setCell ?_ (by first | omega | (simp; done) | (simp; omega)) _)
  clear hW
  have HV := Lib.hid (HV.out.below HBW.out)
  have HU := Lib.hid (HU.out.below HBW.out)
  have HX := Lib.hid (HX.out.below HBW.out)
  refine (light_any _ a _ HV.out).mono ?_
  rintro e w1 ⟨rfl, hb⟩
  have HB1 := Lib.hid hb
  clear hb
  cases hla : lightB a
  · skip
    go_wp2_with fail
    refine (awake_any _).mono ?_
    rintro e wz ⟨rfl, hbz⟩
    have HBZ := Lib.hid (bchain (HB1).out hbz)
    clear hbz
    go_wp2_with fail
    go_ret
    exact ⟨rfl, bchain HBW.out HBZ.out⟩
  obtain ⟨p0, p1, p2, hp⟩ := (HP2.out.below HB1.out).facts3
  go_wp2_with fail
  refine (light_any _ b _ (HU.out.below HB1.out)).mono ?_
  rintro e w2 ⟨rfl, hb⟩
  have HB2 := Lib.hid (bchain HB1.out hb)
  clear hb p0 p1 p2 hp
  cases hlb : lightB b
  · skip
    go_wp2_with fail
    refine (awake_any _).mono ?_
    rintro e wz ⟨rfl, hbz⟩
    have HBZ := Lib.hid (bchain (HB2).out hbz)
    clear hbz
    go_wp2_with fail
    go_ret
    exact ⟨rfl, bchain HBW.out HBZ.out⟩
  obtain ⟨p0, p1, hp⟩ := (HP3.out.below HB2.out).facts
  go_wp2_with fail
  refine (short_any _ xs ys _ (HX.out.below HB2.out)).mono ?_
  rintro e w3 ⟨rfl, hb⟩
  have HB3 := Lib.hid (bchain HB2.out hb)
  clear hb p0 p1 hp HB1 HB2
  cases hsh : (decide (xs.length ≤ 4) && decide (ys.length ≤ 4))
  · skip
    go_wp2_with fail
    refine (awake_any _).mono ?_
    rintro e wz ⟨rfl, hbz⟩
    have HBZ := Lib.hid (bchain (HB3).out hbz)
    clear hbz
    go_wp2_with fail
    go_ret
    exact ⟨rfl, bchain HBW.out HBZ.out⟩
  have HLA := Lib.hid (lightOk hla)
  have HLB := Lib.hid (lightOk hlb)
  simp only [Bool.and_eq_true, decide_eq_true_eq] at hsh
  have HSH := Lib.hid hsh
  clear hla hlb hsh
  go_upto_region 3 with (fail)
  go_cut [7, 8] (fun s7 s8 wx => ∃ g : Nat, s7 = .pointer (some ⟨g, 0, none⟩) ∧ s8 = .int .i64 0 ∧ Hid (Box wx g (concatF a b)) ∧ Hid (Below W.heap.size W wx))
  case first =>
    refine wp_region_steps 11 9 [0, 1, 2, 3, 4, 5, 6, 8] [7] (fun w' => Below W.heap.size W w') (by kernel_rfl) (by kernel_rfl) ?_
    rintro D hD
    have HSD : Hid (Below W.heap.size W D) := by rw [hD]; exact HB3.out.drew
    clear hD
    have HS : Hid (∀ w' : World, Below W.heap.size W w' → w'.cell? ⟨w.heap.size, 0, none⟩ = some (.int .i64 a.states) ∧ w'.cell? ⟨w.heap.size, 1, none⟩ = some (.slice A1 n1 c1) ∧ w'.cell? ⟨w.heap.size, 2, none⟩ = some (.slice A2 n2 c2) ∧ w'.cell? ⟨w.heap.size + 1, 0, none⟩ = some (.int .i64 b.states) ∧ w'.cell? ⟨w.heap.size + 1, 1, none⟩ = some (.slice B1 m1 d1) ∧ w'.cell? ⟨w.heap.size + 1, 2, none⟩ = some (.slice B2 m2 d2)) := by
      intro w' h
      obtain ⟨f0, f1, f2, _⟩ := (HP1.out.below h).facts3
      obtain ⟨g0, g1, g2, _⟩ := (HP2.out.below h).facts3
      exact ⟨f0, f1, f2, g0, g1, g2⟩
    (refine wpE_take 0 (v := ?_) (by kernel_rfl) rfl rfl (by exact HSD.out) (fun w' hS => ?_) ?_; rotate_left; (focus ((try obtain ⟨s0, s1, s2, s3, s4, s5⟩ := HS.out _ (hS rfl)); clear hS; go_simp; try with_reducible rfl; done)); (try simp only [Act.put, List.setIfInBounds_toArray, List.set_cons_zero, List.set_cons_succ]))
    (refine wpE_take 2 (v := ?_) (by kernel_rfl) rfl rfl (by exact HSD.out) (fun w' hS => ?_) ?_; rotate_left; (focus ((try obtain ⟨s0, s1, s2, s3, s4, s5⟩ := HS.out _ (hS rfl)); clear hS; go_simp; try with_reducible rfl; done)); (try simp only [Act.put, List.setIfInBounds_toArray, List.set_cons_zero, List.set_cons_succ]))
    refine wpE_br [1, 8] (by kernel_rfl) ?_
    refine AllE.cons rfl rfl (fun K hK => ?_) (AllE.cons rfl rfl (fun K hK => ?_) AllE.nil)
    · skip
      go_simp
      refine (copy_any _ a _ ((HV).out.below HSD.out) (by have := (HLA).out.n; omega) (by have := (HLA).out.f; omega)).mono ?_
      rintro e Y1 ⟨⟨vcA, rfl, hrc⟩, hb⟩
      obtain ⟨caA, cfA, he, hca, hcf⟩ := id hrc
      subst he
      obtain ⟨_, _, _, rfl, _, _, _, _⟩ := hca.rd.op
      obtain ⟨_, _, _, rfl, _, _, _, _⟩ := hcf.rd.op
      refine hK.out _ _ (bchain HSD.out hb) ?_
      clear hK K hca hcf
      (try simp only [Act.put, List.setIfInBounds_toArray, List.set_cons_zero, List.set_cons_succ])
      have HSY1 := Lib.hid (bchain HSD.out hb)
      have HXY1 := Lib.hid hb
      have RAY1 := Lib.hid hrc.rd
      clear hrc hb
      refine wpE_br [3, 8] (by kernel_rfl) ?_
      refine AllE.cons rfl rfl (fun K hK => ?_) (AllE.cons rfl rfl (fun K hK => ?_) AllE.nil)
      · skip
        go_simp
        refine (copy_any _ b _ ((HU).out.below HSY1.out) (by have := (HLB).out.n; omega) (by have := (HLB).out.f; omega)).mono ?_
        rintro e Y2 ⟨⟨vcB, rfl, hrc⟩, hb⟩
        obtain ⟨caB, cfB, he, hca, hcf⟩ := id hrc
        subst he
        obtain ⟨_, _, _, rfl, _, _, _, _⟩ := hca.rd.op
        obtain ⟨_, _, _, rfl, _, _, _, _⟩ := hcf.rd.op
        refine hK.out _ _ (bchain HSY1.out hb) ?_
        clear hK K hca hcf
        (try simp only [Act.put, List.setIfInBounds_toArray, List.set_cons_zero, List.set_cons_succ])
        have HSY2 := Lib.hid (bchain HSY1.out hb)
        have HXY2 := Lib.hid hb
        have RBY2 := Lib.hid hrc.rd
        clear hrc hb
        refine wpE_br [4, 8] (by kernel_rfl) ?_
        refine AllE.cons rfl rfl (fun K hK => ?_) (AllE.cons rfl rfl (fun K hK => ?_) AllE.nil)
        · skip
          go_simp
          refine (lconcat_any _ _ a b _ (RAY1.out.below HXY2.out) RBY2.out HLA.out HLB.out).mono ?_
          rintro e Y3 ⟨⟨vF, rfl, hrc⟩, hb⟩
          obtain ⟨oa, of, he, hca, hcf⟩ := id hrc
          subst he
          obtain ⟨_, _, _, rfl, _, _, _, _⟩ := hca.rd.op
          obtain ⟨_, _, _, rfl, _, _, _, _⟩ := hcf.rd.op
          refine hK.out _ _ (bchain HSY2.out hb) ?_
          clear hK K hca hcf
          (try simp only [Act.put, List.setIfInBounds_toArray, List.set_cons_zero, List.set_cons_succ])
          have HSY3 := Lib.hid (bchain HSY2.out hb)
          have HXY3 := Lib.hid hb
          have OY3 := Lib.hid hrc
          clear hrc hb
          (refine wpE_take 5 (v := ?_) (by kernel_rfl) rfl rfl (by exact HSY3.out) (fun w' hS => ?_) ?_; rotate_left; (focus ((try obtain s0 := HS.out _ (hS rfl)); clear hS; go_simp; try with_reducible rfl; done)); (try simp only [Act.put, List.setIfInBounds_toArray, List.set_cons_zero, List.set_cons_succ]))
          (refine wpE_take 6 (v := ?_) (by kernel_rfl) rfl rfl (by exact HSY3.out) (fun w' hS => ?_) ?_; rotate_left; (focus ((try obtain s0 := HS.out _ (hS rfl)); clear hS; go_simp; try with_reducible rfl; done)); (try simp only [Act.put, List.setIfInBounds_toArray, List.set_cons_zero, List.set_cons_succ]))
          (refine wpE_take 7 (v := ?_) (by kernel_rfl) rfl rfl (by exact HSY3.out) (fun w' hS => ?_) ?_; rotate_left; (focus ((try obtain s0 := HS.out _ (hS rfl)); clear hS; go_simp; try with_reducible rfl; done)); (try simp only [Act.put, List.setIfInBounds_toArray, List.set_cons_zero, List.set_cons_succ]))
          refine wpE_br [8] (by kernel_rfl) ?_
          refine AllE.cons rfl rfl (fun K hK => ?_) AllE.nil
          go_simp
          refine hK.out _ _ (HSY3.out.alloc HSY3.out.size _) ?_
          clear hK K
          (try simp only [Act.put, List.setIfInBounds_toArray, List.set_cons_zero, List.set_cons_succ])
          generalize hX : World.alloc Y3 _ = Y4
          have HSY4 : Hid (Below W.heap.size W Y4) := by rw [← hX]; exact HSY3.out.alloc HSY3.out.size _
          have HXY4 : Hid (Below Y3.heap.size Y3 Y4) := by rw [← hX]; exact (Below.refl _ _).alloc (Nat.le_refl _) _
          have ZY4 : Hid (FBlk Y4 Y3.heap.size (.int .i64 0) (.slice none 0 0) (.slice none 0 0)) := by rw [← hX]; exact heap_alloc_new _ _
          clear hX
          have OY4 := Lib.hid (OY3.out.below HXY4.out)
          have hge : W.heap.size ≤ Y3.heap.size := HSY3.out.size
          refine wpE_rest 9 (by kernel_rfl) ?_
          simp only [List.drop_succ_cons, List.drop_zero]
          obtain ⟨r0, r1, r2, f0, f1, f2⟩ := (ZY4).out.facts
          go_wp2_with fail
          refine NoPanic.normal ?_
          go_wp2_with fail
          go_meet
          case rel => exact ⟨_, rfl, rfl, Box.stored (OY4).out (ZY4).out, ((HSY4.out.setCell (by exact hge) _).setCell (by exact hge) _).setCell (by exact hge) _⟩
        · skip
          go_simp
          refine hK.out _ _ (HSY2.out.alloc HSY2.out.size _) ?_
          clear hK K
          (try simp only [Act.put, List.setIfInBounds_toArray, List.set_cons_zero, List.set_cons_succ])
          generalize hX : World.alloc Y2 _ = Y3
          have HSY3 : Hid (Below W.heap.size W Y3) := by rw [← hX]; exact HSY2.out.alloc HSY2.out.size _
          have HXY3 : Hid (Below Y2.heap.size Y2 Y3) := by rw [← hX]; exact (Below.refl _ _).alloc (Nat.le_refl _) _
          have ZY3 : Hid (FBlk Y3 Y2.heap.size (.int .i64 0) (.slice none 0 0) (.slice none 0 0)) := by rw [← hX]; exact heap_alloc_new _ _
          clear hX
          refine wpE_br [4] (by kernel_rfl) ?_
          refine AllE.cons rfl rfl (fun K hK => ?_) AllE.nil
          go_simp
          refine (lconcat_any _ _ a b _ ((RAY1.out.below HXY2.out).below HXY3.out) (RBY2.out.below HXY3.out) HLA.out HLB.out).mono ?_
          rintro e Y4 ⟨⟨vF, rfl, hrc⟩, hb⟩
          obtain ⟨oa, of, he, hca, hcf⟩ := id hrc
          subst he
          obtain ⟨_, _, _, rfl, _, _, _, _⟩ := hca.rd.op
          obtain ⟨_, _, _, rfl, _, _, _, _⟩ := hcf.rd.op
          refine hK.out _ _ (bchain HSY3.out hb) ?_
          clear hK K hca hcf
          (try simp only [Act.put, List.setIfInBounds_toArray, List.set_cons_zero, List.set_cons_succ])
          have HSY4 := Lib.hid (bchain HSY3.out hb)
          have HXY4 := Lib.hid hb
          have OY4 := Lib.hid hrc
          clear hrc hb
          (refine wpE_take 5 (v := ?_) (by kernel_rfl) rfl rfl (by exact HSY4.out) (fun w' hS => ?_) ?_; rotate_left; (focus ((try obtain s0 := HS.out _ (hS rfl)); clear hS; go_simp; try with_reducible rfl; done)); (try simp only [Act.put, List.setIfInBounds_toArray, List.set_cons_zero, List.set_cons_succ]))
          (refine wpE_take 6 (v := ?_) (by kernel_rfl) rfl rfl (by exact HSY4.out) (fun w' hS => ?_) ?_; rotate_left; (focus ((try obtain s0 := HS.out _ (hS rfl)); clear hS; go_simp; try with_reducible rfl; done)); (try simp only [Act.put, List.setIfInBounds_toArray, List.set_cons_zero, List.set_cons_succ]))
          (refine wpE_take 7 (v := ?_) (by kernel_rfl) rfl rfl (by exact HSY4.out) (fun w' hS => ?_) ?_; rotate_left; (focus ((try obtain s0 := HS.out _ (hS rfl)); clear hS; go_simp; try with_reducible rfl; done)); (try simp only [Act.put, List.setIfInBounds_toArray, List.set_cons_zero, List.set_cons_succ]))
          have ZY4 := Lib.hid (ZY3.out.below HXY4.out)
          have hge : W.heap.size ≤ Y2.heap.size := HSY2.out.size
          refine wpE_rest 9 (by kernel_rfl) ?_
          simp only [List.drop_succ_cons, List.drop_zero]
          obtain ⟨r0, r1, r2, f0, f1, f2⟩ := (ZY4).out.facts
          go_wp2_with fail
          refine NoPanic.normal ?_
          go_wp2_with fail
          go_meet
          case rel => exact ⟨_, rfl, rfl, Box.stored (OY4).out (ZY4).out, ((HSY4.out.setCell (by exact hge) _).setCell (by exact hge) _).setCell (by exact hge) _⟩
      · skip
        go_simp
        refine hK.out _ _ (HSY1.out.alloc HSY1.out.size _) ?_
        clear hK K
        (try simp only [Act.put, List.setIfInBounds_toArray, List.set_cons_zero, List.set_cons_succ])
        generalize hX : World.alloc Y1 _ = Y2
        have HSY2 : Hid (Below W.heap.size W Y2) := by rw [← hX]; exact HSY1.out.alloc HSY1.out.size _
        have HXY2 : Hid (Below Y1.heap.size Y1 Y2) := by rw [← hX]; exact (Below.refl _ _).alloc (Nat.le_refl _) _
        have ZY2 : Hid (FBlk Y2 Y1.heap.size (.int .i64 0) (.slice none 0 0) (.slice none 0 0)) := by rw [← hX]; exact heap_alloc_new _ _
        clear hX
        refine wpE_br [3] (by kernel_rfl) ?_
        refine AllE.cons rfl rfl (fun K hK => ?_) AllE.nil
        go_simp
        refine (copy_any _ b _ ((HU).out.below HSY2.out) (by have := (HLB).out.n; omega) (by have := (HLB).out.f; omega)).mono ?_
        rintro e Y3 ⟨⟨vcB, rfl, hrc⟩, hb⟩
        obtain ⟨caB, cfB, he, hca, hcf⟩ := id hrc
        subst he
        obtain ⟨_, _, _, rfl, _, _, _, _⟩ := hca.rd.op
        obtain ⟨_, _, _, rfl, _, _, _, _⟩ := hcf.rd.op
        refine hK.out _ _ (bchain HSY2.out hb) ?_
        clear hK K hca hcf
        (try simp only [Act.put, List.setIfInBounds_toArray, List.set_cons_zero, List.set_cons_succ])
        have HSY3 := Lib.hid (bchain HSY2.out hb)
        have HXY3 := Lib.hid hb
        have RBY3 := Lib.hid hrc.rd
        clear hrc hb
        refine wpE_br [4] (by kernel_rfl) ?_
        refine AllE.cons rfl rfl (fun K hK => ?_) AllE.nil
        go_simp
        refine (lconcat_any _ _ a b _ ((RAY1.out.below HXY2.out).below HXY3.out) RBY3.out HLA.out HLB.out).mono ?_
        rintro e Y4 ⟨⟨vF, rfl, hrc⟩, hb⟩
        obtain ⟨oa, of, he, hca, hcf⟩ := id hrc
        subst he
        obtain ⟨_, _, _, rfl, _, _, _, _⟩ := hca.rd.op
        obtain ⟨_, _, _, rfl, _, _, _, _⟩ := hcf.rd.op
        refine hK.out _ _ (bchain HSY3.out hb) ?_
        clear hK K hca hcf
        (try simp only [Act.put, List.setIfInBounds_toArray, List.set_cons_zero, List.set_cons_succ])
        have HSY4 := Lib.hid (bchain HSY3.out hb)
        have HXY4 := Lib.hid hb
        have OY4 := Lib.hid hrc
        clear hrc hb
        (refine wpE_take 5 (v := ?_) (by kernel_rfl) rfl rfl (by exact HSY4.out) (fun w' hS => ?_) ?_; rotate_left; (focus ((try obtain s0 := HS.out _ (hS rfl)); clear hS; go_simp; try with_reducible rfl; done)); (try simp only [Act.put, List.setIfInBounds_toArray, List.set_cons_zero, List.set_cons_succ]))
        (refine wpE_take 6 (v := ?_) (by kernel_rfl) rfl rfl (by exact HSY4.out) (fun w' hS => ?_) ?_; rotate_left; (focus ((try obtain s0 := HS.out _ (hS rfl)); clear hS; go_simp; try with_reducible rfl; done)); (try simp only [Act.put, List.setIfInBounds_toArray, List.set_cons_zero, List.set_cons_succ]))
        (refine wpE_take 7 (v := ?_) (by kernel_rfl) rfl rfl (by exact HSY4.out) (fun w' hS => ?_) ?_; rotate_left; (focus ((try obtain s0 := HS.out _ (hS rfl)); clear hS; go_simp; try with_reducible rfl; done)); (try simp only [Act.put, List.setIfInBounds_toArray, List.set_cons_zero, List.set_cons_succ]))
        have ZY4 := Lib.hid ((ZY2.out.below HXY3.out).below HXY4.out)
        have hge : W.heap.size ≤ Y1.heap.size := HSY1.out.size
        refine wpE_rest 9 (by kernel_rfl) ?_
        simp only [List.drop_succ_cons, List.drop_zero]
        obtain ⟨r0, r1, r2, f0, f1, f2⟩ := (ZY4).out.facts
        go_wp2_with fail
        refine NoPanic.normal ?_
        go_wp2_with fail
        go_meet
        case rel => exact ⟨_, rfl, rfl, Box.stored (OY4).out (ZY4).out, ((HSY4.out.setCell (by exact hge) _).setCell (by exact hge) _).setCell (by exact hge) _⟩
    · skip
      go_simp
      refine hK.out _ _ (HSD.out.alloc HSD.out.size _) ?_
      clear hK K
      (try simp only [Act.put, List.setIfInBounds_toArray, List.set_cons_zero, List.set_cons_succ])
      generalize hX : World.alloc D _ = Y1
      have HSY1 : Hid (Below W.heap.size W Y1) := by rw [← hX]; exact HSD.out.alloc HSD.out.size _
      have HXY1 : Hid (Below D.heap.size D Y1) := by rw [← hX]; exact (Below.refl _ _).alloc (Nat.le_refl _) _
      have ZY1 : Hid (FBlk Y1 D.heap.size (.int .i64 0) (.slice none 0 0) (.slice none 0 0)) := by rw [← hX]; exact heap_alloc_new _ _
      clear hX
      refine wpE_br [1] (by kernel_rfl) ?_
      refine AllE.cons rfl rfl (fun K hK => ?_) AllE.nil
      go_simp
      refine (copy_any _ a _ ((HV).out.below HSY1.out) (by have := (HLA).out.n; omega) (by have := (HLA).out.f; omega)).mono ?_
      rintro e Y2 ⟨⟨vcA, rfl, hrc⟩, hb⟩
      obtain ⟨caA, cfA, he, hca, hcf⟩ := id hrc
      subst he
      obtain ⟨_, _, _, rfl, _, _, _, _⟩ := hca.rd.op
      obtain ⟨_, _, _, rfl, _, _, _, _⟩ := hcf.rd.op
      refine hK.out _ _ (bchain HSY1.out hb) ?_
      clear hK K hca hcf
      (try simp only [Act.put, List.setIfInBounds_toArray, List.set_cons_zero, List.set_cons_succ])
      have HSY2 := Lib.hid (bchain HSY1.out hb)
      have HXY2 := Lib.hid hb
      have RAY2 := Lib.hid hrc.rd
      clear hrc hb
      refine wpE_br [3] (by kernel_rfl) ?_
      refine AllE.cons rfl rfl (fun K hK => ?_) AllE.nil
      go_simp
      refine (copy_any _ b _ ((HU).out.below HSY2.out) (by have := (HLB).out.n; omega) (by have := (HLB).out.f; omega)).mono ?_
      rintro e Y3 ⟨⟨vcB, rfl, hrc⟩, hb⟩
      obtain ⟨caB, cfB, he, hca, hcf⟩ := id hrc
      subst he
      obtain ⟨_, _, _, rfl, _, _, _, _⟩ := hca.rd.op
      obtain ⟨_, _, _, rfl, _, _, _, _⟩ := hcf.rd.op
      refine hK.out _ _ (bchain HSY2.out hb) ?_
      clear hK K hca hcf
      (try simp only [Act.put, List.setIfInBounds_toArray, List.set_cons_zero, List.set_cons_succ])
      have HSY3 := Lib.hid (bchain HSY2.out hb)
      have HXY3 := Lib.hid hb
      have RBY3 := Lib.hid hrc.rd
      clear hrc hb
      refine wpE_br [4] (by kernel_rfl) ?_
      refine AllE.cons rfl rfl (fun K hK => ?_) AllE.nil
      go_simp
      refine (lconcat_any _ _ a b _ (RAY2.out.below HXY3.out) RBY3.out HLA.out HLB.out).mono ?_
      rintro e Y4 ⟨⟨vF, rfl, hrc⟩, hb⟩
      obtain ⟨oa, of, he, hca, hcf⟩ := id hrc
      subst he
      obtain ⟨_, _, _, rfl, _, _, _, _⟩ := hca.rd.op
      obtain ⟨_, _, _, rfl, _, _, _, _⟩ := hcf.rd.op
      refine hK.out _ _ (bchain HSY3.out hb) ?_
      clear hK K hca hcf
      (try simp only [Act.put, List.setIfInBounds_toArray, List.set_cons_zero, List.set_cons_succ])
      have HSY4 := Lib.hid (bchain HSY3.out hb)
      have HXY4 := Lib.hid hb
      have OY4 := Lib.hid hrc
      clear hrc hb
      (refine wpE_take 5 (v := ?_) (by kernel_rfl) rfl rfl (by exact HSY4.out) (fun w' hS => ?_) ?_; rotate_left; (focus ((try obtain s0 := HS.out _ (hS rfl)); clear hS; go_simp; try with_reducible rfl; done)); (try simp only [Act.put, List.setIfInBounds_toArray, List.set_cons_zero, List.set_cons_succ]))
      (refine wpE_take 6 (v := ?_) (by kernel_rfl) rfl rfl (by exact HSY4.out) (fun w' hS => ?_) ?_; rotate_left; (focus ((try obtain s0 := HS.out _ (hS rfl)); clear hS; go_simp; try with_reducible rfl; done)); (try simp only [Act.put, List.setIfInBounds_toArray, List.set_cons_zero, List.set_cons_succ]))
      (refine wpE_take 7 (v := ?_) (by kernel_rfl) rfl rfl (by exact HSY4.out) (fun w' hS => ?_) ?_; rotate_left; (focus ((try obtain s0 := HS.out _ (hS rfl)); clear hS; go_simp; try with_reducible rfl; done)); (try simp only [Act.put, List.setIfInBounds_toArray, List.set_cons_zero, List.set_cons_succ]))
      have ZY4 := Lib.hid (((ZY1.out.below HXY2.out).below HXY3.out).below HXY4.out)
      have hge : W.heap.size ≤ D.heap.size := HSD.out.size
      refine wpE_rest 9 (by kernel_rfl) ?_
      simp only [List.drop_succ_cons, List.drop_zero]
      obtain ⟨r0, r1, r2, f0, f1, f2⟩ := (ZY4).out.facts
      go_wp2_with fail
      refine NoPanic.normal ?_
      go_wp2_with fail
      go_meet
      case rel => exact ⟨_, rfl, rfl, Box.stored (OY4).out (ZY4).out, ((HSY4.out.setCell (by exact hge) _).setCell (by exact hge) _).setCell (by exact hge) _⟩
  case rest =>
    obtain ⟨g, rfl, rfl, HBOX, HBC⟩ := hcut
    obtain ⟨C1, z1, o1, C2, z2, o2, y0, y1, y2, hgl, HRU⟩ := HBOX.out.open
    have HBB := Lib.hid (bchain HBW.out HBC.out)
    have hb1 : a.states + b.states ≤ 1000 := by have := HLA.out.s; have := HLB.out.s; omega
    have hb2 : a.arcs.length + b.arcs.length ≤ 10000 := by have := HLA.out.n; have := HLB.out.n; omega
    have hb3 : a.final.length ≤ 1100 := by have := HLA.out.f; omega
    have HGU := Lib.hid (concat_good HLA.out.good HLB.out.good hb1 hb2 hb3)
    have HACC : Hid (accB (concatF a b) xs ys = allJ a b xs ys (xs.length + 1)) := by
      rw [Hid, Bool.eq_iff_iff, accB_iff, allJ_iff]
      exact concat_acc HLA.out.good HLB.out.good hb1 hb2 hb3 xs ys
    have HS : Hid (∀ w' : World, Below wc.heap.size wc w' → (w'.cell? ⟨w.heap.size, 0, none⟩ = some (.int .i64 a.states) ∧ w'.cell? ⟨w.heap.size, 1, none⟩ = some (.slice A1 n1 c1) ∧ w'.cell? ⟨w.heap.size, 2, none⟩ = some (.slice A2 n2 c2) ∧ w'.cell? ⟨w.heap.size + 1, 0, none⟩ = some (.int .i64 b.states) ∧ w'.cell? ⟨w.heap.size + 1, 1, none⟩ = some (.slice B1 m1 d1) ∧ w'.cell? ⟨w.heap.size + 1, 2, none⟩ = some (.slice B2 m2 d2)) ∧ (w'.cell? ⟨g, 0, none⟩ = some (.int .i64 (concatF a b).states) ∧ w'.cell? ⟨g, 1, none⟩ = some (.slice C1 z1 o1) ∧ w'.cell? ⟨g, 2, none⟩ = some (.slice C2 z2 o2)) ∧ w'.cell? ⟨w.heap.size + 1 + 1, 0, none⟩ = some (.slice X1 k1 e1) ∧ w'.cell? ⟨w.heap.size + 1 + 1, 1, none⟩ = some (.slice X2 k2 e2)) := by
      intro w' h
      have hW := bchain HBC.out h
      obtain ⟨f0, f1, f2, _⟩ := (HP1.out.below hW).facts3
      obtain ⟨g0, g1, g2, _⟩ := (HP2.out.below hW).facts3
      obtain ⟨t0, t1, _⟩ := (HP3.out.below hW).facts
      exact ⟨⟨f0, f1, f2, g0, g1, g2⟩, ⟨(h.cell hgl).trans y0, (h.cell hgl).trans y1, (h.cell hgl).trans y2⟩, t0, t1⟩
    have HRA := Lib.hid (HV.out.below HBC.out)
    have HRB := Lib.hid (HU.out.below HBC.out)
    have HRX := Lib.hid (HX.out.below HBC.out)
    clear y0 y1 y2 hb1 hb2 hb3
    go_wp2_with fail
    refine wp_region_ord 7 [0, 1, 2, 3, 4, 5, 6] [] [0, 1, 2, 3, 4, 5] [6, 7, 8, 9, 10, 11] (fun w' => Below wc.heap.size wc w') (by kernel_rfl) (by kernel_rfl) ?_
    rintro D hD
    have HSD : Hid (Below wc.heap.size wc D) := by rw [hD]; exact (Below.refl _ _).drew
    clear hD
    refine ⟨HSD.out, ?_⟩
    iterate 6 (refine wpHead_cons (v := ?_) rfl rfl (fun w' hS => ?_) ?_; rotate_left; (focus ((try obtain ⟨⟨s0, s1, s2, s3, s4, s5⟩, ⟨t0, t1, t2⟩, x0, x1⟩ := HS.out _ (hS rfl)); clear hS; go_simp; try with_reducible rfl; done)); (try simp only [Act.put, List.setIfInBounds_toArray, List.set_cons_zero, List.set_cons_succ]))
    refine wpHead_nil ?_
    refine wpTail_cons rfl rfl (fun K hK => ?_)
    go_simp
    refine (joined_any _ _ _ a b xs ys _ (HRA.out.below HSD.out) (HRB.out.below HSD.out) (HRX.out.below HSD.out) HLA.out.good HLB.out.good HSH.out.1 HSH.out.2).mono ?_
    rintro e Y1 ⟨rfl, hb⟩
    refine hK.out _ _ (fun _ => bchain HSD.out hb) ?_
    clear hK K
    (try simp only [Act.put, List.setIfInBounds_toArray, List.set_cons_zero, List.set_cons_succ])
    have HSY1 := Lib.hid (bchain HSD.out hb)
    clear hb
    refine wpTail_rest 7 rfl ?_
    simp only [List.drop_succ_cons, List.drop_zero]
    go_wp2_with fail
    refine (takes_any _ _ (concatF a b) xs ys _ _ (HRU.out.below HSY1.out) (HRX.out.below HSY1.out) HGU.out (le4 HSH.out.1) (le4 HSH.out.2)).mono ?_
    rintro e Y2 ⟨rfl, hb⟩
    rw [show (accB (concatF a b) xs ys == allJ a b xs ys (xs.length + 1)) = true by rw [HACC.out]; simp]
    have HSY2 := Lib.hid (bchain HSY1.out hb)
    clear hb
    go_wp2_with fail
    refine (awake_any _).mono ?_
    rintro e wz ⟨rfl, hb⟩
    have HSZ := Lib.hid (bchain HSY2.out hb)
    clear hb
    go_wp2_with fail
    refine NoPanic.normal ?_
    go_wp2_with fail
    go_ret
    exact ⟨rfl, bchain HBB.out HSZ.out⟩
end Go.Proofs.Ytmeppkkoepmlnaa
