/-
  FstopsOrder: the walk.
-/
import Derived.Test.YtmeppkkoepmlnaaT39
namespace Go.Proofs.Ytmeppkkoepmlnaa
open Go.ChangeShapes Go.WideShapes Go.ChangeAt Go.RowKit
structure Mid (F : PFst) : Prop where
  good : Good F
  s : F.states ≤ 16
  n : F.arcs.length ≤ 128
theorem Mid.n3 {F : PFst} (h : Mid F) : F.arcs.length ≤ 300000 := by have := h.n; omega
theorem Mid.f3 {F : PFst} (h : Mid F) : F.final.length ≤ 300000 := by
  have h1 := final_len h.good.ord h.good.fin
  have := h.s; omega
theorem LightOk.mid {F : PFst} (h : LightOk F) : Mid F := ⟨h.good, by have := h.s; omega, by have := h.n; omega⟩
theorem mid_few {a b : PFst} (ha : Mid a) (hb : Mid b) : manyB a b = false := by
  have a1 := ha.good.s1; have b1 := hb.good.s1
  have a2 := ha.s; have b2 := hb.s; have a3 := ha.n; have b3 := hb.n
  have h1 : a.states * b.states ≤ 16 * 16 := mul_lt_small (by omega) (by omega) a2 b2
  have h2 : (a.arcs.length : Int) * (b.arcs.length : Int) ≤ 128 * 128 := mul_lt_small (by omega) (by omega) (by omega) (by omega)
  have h3 : (a.arcs.length : Int) * b.states ≤ 128 * 16 := mul_lt_small (by omega) (by omega) (by omega) (by omega)
  have h4 : a.states * (b.arcs.length : Int) ≤ 16 * 128 := mul_lt_small (by omega) (by omega) (by omega) (by omega)
  simp only [manyB, Bool.or_eq_false_iff, decide_eq_false_iff_not]
  exact ⟨by omega, by omega⟩
theorem mid_good {a b : PFst} (ha : Mid a) (hb : Mid b) : Good (compF a b) := compF_good ha.good hb.good (fits_of ha.good.s1 hb.good.s1 (mid_few ha hb))
theorem comp_mid {a b : PFst} (ha : LightOk a) (hb : LightOk b) : Mid (compF a b) := by
  have a1 := ha.good.s1; have b1 := hb.good.s1
  refine ⟨mid_good ha.mid hb.mid, mul_lt_small (A := 4) (B := 4) (by omega) (by omega) ha.s hb.s, ?_⟩
  have h1 := flatMap_le a.arcs (cx b) (b.arcs.length + b.states.toNat) (fun x _ => cx_le b x)
  have h2 := flatMap_le b.arcs (cy b.states a.states.toNat) a.states.toNat (fun x _ => cy_le _ _ x)
  have a2 := ha.s; have b2 := hb.s; have a3 := ha.n; have b3 := hb.n
  have h3 : a.arcs.length * (b.arcs.length + b.states.toNat) ≤ 8 * 12 := Nat.mul_le_mul a3 (by omega)
  have h4 : b.arcs.length * a.states.toNat ≤ 8 * 4 := Nat.mul_le_mul b3 (by omega)
  simp only [compF, List.length_append]
  omega
theorem mcompose_any (v u : Value) (a b : PFst) (w : World) (hv : RdF w v a) (hu : RdF w u b) (ha : Mid a) (hb : Mid b) :
    Calls Try.prog 28 #[v, u] w fun e w' => (∃ vF, e = .returned (.tuple #[vF, .int .i64 0]) ∧ OwnF w.heap.size w' vF (compF a b)) ∧ Below w.heap.size w w' :=
  compose_any v u a b w hv hu ha.good hb.good (mid_few ha hb)
theorem order_same {a b c : PFst} (ha : Mid a) (hb : Mid b) (hc : Mid c) (hab : Mid (compF a b)) (hbc : Mid (compF b c)) (xs zs : List Int) : accB (compF (compF a b) c) xs zs = accB (compF a (compF b c)) xs zs := by
  have p : ∀ {F : PFst}, Mid F → 0 ≤ F.states := fun h => by have := h.good.s1; omega
  rw [Bool.eq_iff_iff, accB_iff, accB_iff, comp_acc hab.good hc.good (compF_is (p hab) (p hc)) (mid_good hab hc), comp_acc ha.good hbc.good (compF_is (p ha) (p hbc)) (mid_good ha hbc)]
  constructor
  · rintro ⟨ys, h1, h2⟩
    obtain ⟨us, h3, h4⟩ := (comp_acc ha.good hb.good (compF_is (p ha) (p hb)) hab.good xs ys).1 h1
    exact ⟨us, h3, (comp_acc hb.good hc.good (compF_is (p hb) (p hc)) hbc.good us zs).2 ⟨ys, h4, h2⟩⟩
  · rintro ⟨us, h1, h2⟩
    obtain ⟨ys, h3, h4⟩ := (comp_acc hb.good hc.good (compF_is (p hb) (p hc)) hbc.good us zs).1 h2
    exact ⟨ys, (comp_acc ha.good hb.good (compF_is (p ha) (p hb)) hab.good xs ys).2 ⟨us, h1, h3⟩, h4⟩
theorem Box.of {w w' : World} {R : Nat} {va vf : Value} {F : PFst} (h : FBlk w' R (.int .i64 F.states) va vf) (hr : RdF w (.agg #[.int .i64 F.states, va, vf]) F) (hb : Below w.heap.size w w') : Box w' R F := ⟨va, vf, h, hr.below hb⟩
set_option maxHeartbeats 8000000 in
set_option maxRecDepth 100000 in
theorem order_walk (v u t x : Value) (a b c : PFst) (xs ys : List Int) (w : World) (hv : RdF w v a) (hu : RdF w u b) (ht : RdF w t c) (hx : RdT w x xs ys) :
    Calls Try.prog 10 #[v, u, t, x] w fun e w' => e = .returned (.bool true) ∧ Below w.heap.size w w' := by
  obtain ⟨va, vf, rfl, ha, hf⟩ := id hv
  obtain ⟨A1, n1, c1, rfl, _, _, _, _⟩ := ha.op
  obtain ⟨A2, n2, c2, rfl, _, _, _, _⟩ := hf.op
  obtain ⟨ua, uf, rfl, ka, kf⟩ := id hu
  obtain ⟨B1, m1, d1, rfl, _, _, _, _⟩ := ka.op
  obtain ⟨B2, m2, d2, rfl, _, _, _, _⟩ := kf.op
  obtain ⟨ta, tf, rfl, la, lf⟩ := id ht
  obtain ⟨C1, j1, f1, rfl, _, _, _, _⟩ := la.op
  obtain ⟨C2, j2, f2, rfl, _, _, _, _⟩ := lf.op
  obtain ⟨vx, vy, rfl, hx1, hx2⟩ := id hx
  obtain ⟨X1, k1, e1, rfl, _, _, _, _⟩ := hx1.op
  obtain ⟨X2, k2, e2, rfl, _, _, _, _⟩ := hx2.op
  have HV := Lib.hid hv
  have HU := Lib.hid hu
  have HTT := Lib.hid ht
  have HX := Lib.hid hx
  clear ha hf ka kf la lf hx1 hx2 hv hu ht hx
  go_enter Try.func10, Try.ntmps10
  go_wp2_with fail
  generalize hW : World.alloc (World.alloc (World.alloc (World.alloc w _) _) _) _ = W
  have HBW : Hid (Below w.heap.size w W) := by rw [← hW]; repeat (first | assumption | exact Below.refl _ _ | refine Below.alloc ?_ (by first | omega | (simp; done) | (simp; omega)) _ | refine Below.drew ?_ | refine below_drewN ?_ _ | refine Below.setCell ?_ (by first | omega | (simp; done) | (simp; omega)) _)
  have HP1 : Hid (FBlk W w.heap.size (.int .i64 a.states) (.slice A1 n1 c1) (.slice A2 n2 c2)) := by
    rw [← hW]; exact (Below.heap_alloc _ _ _ (by first | omega | (simp; done) | (simp; omega))).trans ((Below.heap_alloc _ _ _ (by first | omega | (simp; done) | (simp; omega))).trans ((Below.heap_alloc _ _ _ (by first | omega | (simp; done) | (simp; omega))).trans (heap_alloc_new w _)))
  have HP2 : Hid (FBlk W (w.heap.size + 1) (.int .i64 b.states) (.slice B1 m1 d1) (.slice B2 m2 d2)) := by
    rw [Hid, FBlk, ← hW]
    refine (Below.heap_alloc _ _ _ (by first | omega | (simp; done) | (simp; omega))).trans ((Below.heap_alloc _ _ _ (by first | omega | (simp; done) | (simp; omega))).trans ?_)
    have := heap_alloc_new (w.alloc (.cells #[.int .i64 a.states, .slice A1 n1 c1, .slice A2 n2 c2] 29)) (.cells #[.int .i64 b.states, .slice B1 m1 d1, .slice B2 m2 d2] 29)
    simpa using this
  have HP3 : Hid (FBlk W (w.heap.size + 1 + 1) (.int .i64 c.states) (.slice C1 j1 f1) (.slice C2 j2 f2)) := by
    rw [Hid, FBlk, ← hW]
    refine (Below.heap_alloc _ _ _ (by first | omega | (simp; done) | (simp; omega))).trans ?_
    have := heap_alloc_new ((w.alloc (.cells #[.int .i64 a.states, .slice A1 n1 c1, .slice A2 n2 c2] 29)).alloc (.cells #[.int .i64 b.states, .slice B1 m1 d1, .slice B2 m2 d2] 29)) (.cells #[.int .i64 c.states, .slice C1 j1 f1, .slice C2 j2 f2] 29)
    simpa using this
  have HT : Hid (TBlk W (w.heap.size + 1 + 1 + 1) (.slice X1 k1 e1) (.slice X2 k2 e2)) := by
    rw [Hid, TBlk, ← hW]
    have := heap_alloc_new (((w.alloc (.cells #[.int .i64 a.states, .slice A1 n1 c1, .slice A2 n2 c2] 29)).alloc (.cells #[.int .i64 b.states, .slice B1 m1 d1, .slice B2 m2 d2] 29)).alloc (.cells #[.int .i64 c.states, .slice C1 j1 f1, .slice C2 j2 f2] 29)) (.cells #[.slice X1 k1 e1, .slice X2 k2 e2] 24)
    simpa using this
  clear hW
  have BA : Hid (Box W w.heap.size a) := Box.of HP1.out HV.out HBW.out
  have BB : Hid (Box W (w.heap.size + 1) b) := Box.of HP2.out HU.out HBW.out
  have BC : Hid (Box W (w.heap.size + 1 + 1) c) := Box.of HP3.out HTT.out HBW.out
  have HX := Lib.hid (HX.out.below HBW.out)
  have HV := Lib.hid (HV.out.below HBW.out)
  clear HP1 HP2 HP3 HU HTT
  refine (light_any _ a _ HV.out).mono ?_
  rintro e w1 ⟨rfl, hb⟩
  have HB1 := Lib.hid hb
  clear hb
  cases hla : lightB a
  · skip
    go_wp2_with fail
    refine (awake_any _).mono ?_
    rintro e wz ⟨rfl, hbz⟩
    have HBZ := Lib.hid (bchain (HB1).out hbz)
    clear hbz
    go_wp2_with fail
    go_ret
    exact ⟨rfl, bchain HBW.out HBZ.out⟩
  obtain ⟨_, _, _, _, _, _, p0, p1, p2, hg1, HRA⟩ := (BB.out.below HB1.out).open
  go_wp2_with fail
  refine (light_any _ b _ HRA.out).mono ?_
  rintro e w2 ⟨rfl, hb⟩
  have HB2 := Lib.hid (bchain HB1.out hb)
  clear hb p0 p1 p2 hg1 HRA
  cases hlb : lightB b
  · skip
    go_wp2_with fail
    refine (awake_any _).mono ?_
    rintro e wz ⟨rfl, hbz⟩
    have HBZ := Lib.hid (bchain (HB2).out hbz)
    clear hbz
    go_wp2_with fail
    go_ret
    exact ⟨rfl, bchain HBW.out HBZ.out⟩
  obtain ⟨_, _, _, _, _, _, p0, p1, p2, hg1, HRA⟩ := (BC.out.below HB2.out).open
  go_wp2_with fail
  refine (light_any _ c _ HRA.out).mono ?_
  rintro e w3 ⟨rfl, hb⟩
  have HB3 := Lib.hid (bchain HB2.out hb)
  clear hb p0 p1 p2 hg1 HRA
  cases hlc : lightB c
  · skip
    go_wp2_with fail
    refine (awake_any _).mono ?_
    rintro e wz ⟨rfl, hbz⟩
    have HBZ := Lib.hid (bchain (HB3).out hbz)
    clear hbz
    go_wp2_with fail
    go_ret
    exact ⟨rfl, bchain HBW.out HBZ.out⟩
  obtain ⟨p0, p1, hp⟩ := (HT.out.below HB3.out).facts
  go_wp2_with fail
  refine (short_any _ xs ys _ (HX.out.below HB3.out)).mono ?_
  rintro e w4 ⟨rfl, hb⟩
  have HB4 := Lib.hid (bchain HB3.out hb)
  clear hb p0 p1 hp HB1 HB2 HB3
  cases hsh : (decide (xs.length ≤ 4) && decide (ys.length ≤ 4))
  · skip
    go_wp2_with fail
    refine (awake_any _).mono ?_
    rintro e wz ⟨rfl, hbz⟩
    have HBZ := Lib.hid (bchain (HB4).out hbz)
    clear hbz
    go_wp2_with fail
    go_ret
    exact ⟨rfl, bchain HBW.out HBZ.out⟩
  have HLA := Lib.hid (lightOk hla)
  have HLB := Lib.hid (lightOk hlb)
  have HLC := Lib.hid (lightOk hlc)
  have HMA := Lib.hid HLA.out.mid
  have HMB := Lib.hid HLB.out.mid
  have HMC := Lib.hid HLC.out.mid
  have HMF := Lib.hid (comp_mid HLA.out HLB.out)
  have HMG := Lib.hid (comp_mid HLB.out HLC.out)
  simp only [Bool.and_eq_true, decide_eq_true_eq] at hsh
  have HSH := Lib.hid hsh
  clear hla hlb hlc hsh
  have HBW := Lib.hid (bchain HBW.out (HB4).out)
  have BA := Lib.hid (BA.out.below (HB4).out)
  have BB := Lib.hid (BB.out.below (HB4).out)
  have BC := Lib.hid (BC.out.below (HB4).out)
  have HT := Lib.hid (HT.out.below (HB4).out)
  have HX := Lib.hid (HX.out.below (HB4).out)
  clear HB4 HV
  go_upto_region 3 with (fail)
  obtain ⟨W, rfl⟩ : ∃ W' : World, W' = w4 := ⟨_, rfl⟩
  go_cut [9, 10] (fun s7 s8 wx => ∃ g : Nat, s7 = .pointer (some ⟨g, 0, none⟩) ∧ s8 = .int .i64 0 ∧ Hid (Box wx g (compF a b)) ∧ Hid (Below W.heap.size W wx))
  case first =>
    obtain ⟨A1, n1, c1, A2, n2, c2, p0, p1, p2, hg1, HRA⟩ := (BA).out.open
    obtain ⟨B1, m1, d1, B2, m2, d2, q0, q1, q2, hg2, HRB⟩ := (BB).out.open
    have HS := Lib.hid (fun (w' : World) (h : Below W.heap.size W w') => And.intro ((h.cell hg1).trans p0) (And.intro ((h.cell hg1).trans p1) (And.intro ((h.cell hg1).trans p2) (And.intro ((h.cell hg2).trans q0) (And.intro ((h.cell hg2).trans q1) ((h.cell hg2).trans q2))))))
    clear p0 p1 p2 q0 q1 q2
    refine wp_region_steps 11 9 [0, 1, 2, 3, 4, 5, 6, 8] [7] (fun w' => Below W.heap.size W w') (by kernel_rfl) (by kernel_rfl) ?_
    rintro D hD
    have HSD : Hid (Below W.heap.size W D) := by rw [hD]; exact (Below.refl _ _).drew
    clear hD
    (refine wpE_take 0 (v := ?_) (by kernel_rfl) rfl rfl (by exact HSD.out) (fun w' hS => ?_) ?_; rotate_left; (focus ((try obtain ⟨s0, s1, s2, s3, s4, s5⟩ := HS.out _ (hS rfl)); clear hS; go_simp; try with_reducible rfl; done)); (try simp only [Act.put, List.setIfInBounds_toArray, List.set_cons_zero, List.set_cons_succ]))
    (refine wpE_take 2 (v := ?_) (by kernel_rfl) rfl rfl (by exact HSD.out) (fun w' hS => ?_) ?_; rotate_left; (focus ((try obtain ⟨s0, s1, s2, s3, s4, s5⟩ := HS.out _ (hS rfl)); clear hS; go_simp; try with_reducible rfl; done)); (try simp only [Act.put, List.setIfInBounds_toArray, List.set_cons_zero, List.set_cons_succ]))
    refine wpE_br [1, 8] (by kernel_rfl) ?_
    refine AllE.cons rfl rfl (fun K hK => ?_) (AllE.cons rfl rfl (fun K hK => ?_) AllE.nil)
    · skip
      go_simp
      refine (copy_any _ a _ ((HRA).out.below HSD.out) (HMA).out.n3 (HMA).out.f3).mono ?_
      rintro e Y1 ⟨⟨vcA, rfl, hrc⟩, hb⟩
      obtain ⟨caA, cfA, he, hca, hcf⟩ := id hrc
      subst he
      obtain ⟨_, _, _, rfl, _, _, _, _⟩ := hca.rd.op
      obtain ⟨_, _, _, rfl, _, _, _, _⟩ := hcf.rd.op
      refine hK.out _ _ (bchain HSD.out hb) ?_
      clear hK K hca hcf
      (try simp only [Act.put, List.setIfInBounds_toArray, List.set_cons_zero, List.set_cons_succ])
      have HSY1 := Lib.hid (bchain HSD.out hb)
      have HXY1 := Lib.hid hb
      have RAY1 := Lib.hid hrc.rd
      clear hrc hb
      refine wpE_br [3, 8] (by kernel_rfl) ?_
      refine AllE.cons rfl rfl (fun K hK => ?_) (AllE.cons rfl rfl (fun K hK => ?_) AllE.nil)
      · skip
        go_simp
        refine (copy_any _ b _ ((HRB).out.below HSY1.out) (HMB).out.n3 (HMB).out.f3).mono ?_
        rintro e Y2 ⟨⟨vcB, rfl, hrc⟩, hb⟩
        obtain ⟨caB, cfB, he, hca, hcf⟩ := id hrc
        subst he
        obtain ⟨_, _, _, rfl, _, _, _, _⟩ := hca.rd.op
        obtain ⟨_, _, _, rfl, _, _, _, _⟩ := hcf.rd.op
        refine hK.out _ _ (bchain HSY1.out hb) ?_
        clear hK K hca hcf
        (try simp only [Act.put, List.setIfInBounds_toArray, List.set_cons_zero, List.set_cons_succ])
        have HSY2 := Lib.hid (bchain HSY1.out hb)
        have HXY2 := Lib.hid hb
        have RBY2 := Lib.hid hrc.rd
        clear hrc hb
        refine wpE_br [4, 8] (by kernel_rfl) ?_
        refine AllE.cons rfl rfl (fun K hK => ?_) (AllE.cons rfl rfl (fun K hK => ?_) AllE.nil)
        · skip
          go_simp
          refine (mcompose_any _ _ a b _ (RAY1.out.below HXY2.out) RBY2.out (HMA).out (HMB).out).mono ?_
          rintro e Y3 ⟨⟨vF, rfl, hrc⟩, hb⟩
          obtain ⟨oa, of, he, hca, hcf⟩ := id hrc
          subst he
          obtain ⟨_, _, _, rfl, _, _, _, _⟩ := hca.rd.op
          obtain ⟨_, _, _, rfl, _, _, _, _⟩ := hcf.rd.op
          refine hK.out _ _ (bchain HSY2.out hb) ?_
          clear hK K hca hcf
          (try simp only [Act.put, List.setIfInBounds_toArray, List.set_cons_zero, List.set_cons_succ])
          have HSY3 := Lib.hid (bchain HSY2.out hb)
          have HXY3 := Lib.hid hb
          have OY3 := Lib.hid hrc
          clear hrc hb
          (refine wpE_take 5 (v := ?_) (by kernel_rfl) rfl rfl (by exact HSY3.out) (fun w' hS => ?_) ?_; rotate_left; (focus ((try obtain s0 := HS.out _ (hS rfl)); clear hS; go_simp; try with_reducible rfl; done)); (try simp only [Act.put, List.setIfInBounds_toArray, List.set_cons_zero, List.set_cons_succ]))
          (refine wpE_take 6 (v := ?_) (by kernel_rfl) rfl rfl (by exact HSY3.out) (fun w' hS => ?_) ?_; rotate_left; (focus ((try obtain s0 := HS.out _ (hS rfl)); clear hS; go_simp; try with_reducible rfl; done)); (try simp only [Act.put, List.setIfInBounds_toArray, List.set_cons_zero, List.set_cons_succ]))
          (refine wpE_take 7 (v := ?_) (by kernel_rfl) rfl rfl (by exact HSY3.out) (fun w' hS => ?_) ?_; rotate_left; (focus ((try obtain s0 := HS.out _ (hS rfl)); clear hS; go_simp; try with_reducible rfl; done)); (try simp only [Act.put, List.setIfInBounds_toArray, List.set_cons_zero, List.set_cons_succ]))
          refine wpE_br [8] (by kernel_rfl) ?_
          refine AllE.cons rfl rfl (fun K hK => ?_) AllE.nil
          go_simp
          refine hK.out _ _ (HSY3.out.alloc HSY3.out.size _) ?_
          clear hK K
          (try simp only [Act.put, List.setIfInBounds_toArray, List.set_cons_zero, List.set_cons_succ])
          generalize hX : World.alloc Y3 _ = Y4
          have HSY4 : Hid (Below W.heap.size W Y4) := by rw [← hX]; exact HSY3.out.alloc HSY3.out.size _
          have HXY4 : Hid (Below Y3.heap.size Y3 Y4) := by rw [← hX]; exact (Below.refl _ _).alloc (Nat.le_refl _) _
          have ZY4 : Hid (FBlk Y4 Y3.heap.size (.int .i64 0) (.slice none 0 0) (.slice none 0 0)) := by rw [← hX]; exact heap_alloc_new _ _
          clear hX
          have OY4 := Lib.hid (OY3.out.below HXY4.out)
          have hge : W.heap.size ≤ Y3.heap.size := HSY3.out.size
          refine wpE_rest 9 (by kernel_rfl) ?_
          simp only [List.drop_succ_cons, List.drop_zero]
          obtain ⟨r0, r1, r2, f0, f1, f2⟩ := (ZY4).out.facts
          go_wp2_with fail
          refine NoPanic.normal ?_
          go_wp2_with fail
          go_meet
          case rel => exact ⟨_, rfl, rfl, Box.stored (OY4).out (ZY4).out, ((HSY4.out.setCell (by exact hge) _).setCell (by exact hge) _).setCell (by exact hge) _⟩
        · skip
          go_simp
          refine hK.out _ _ (HSY2.out.alloc HSY2.out.size _) ?_
          clear hK K
          (try simp only [Act.put, List.setIfInBounds_toArray, List.set_cons_zero, List.set_cons_succ])
          generalize hX : World.alloc Y2 _ = Y3
          have HSY3 : Hid (Below W.heap.size W Y3) := by rw [← hX]; exact HSY2.out.alloc HSY2.out.size _
          have HXY3 : Hid (Below Y2.heap.size Y2 Y3) := by rw [← hX]; exact (Below.refl _ _).alloc (Nat.le_refl _) _
          have ZY3 : Hid (FBlk Y3 Y2.heap.size (.int .i64 0) (.slice none 0 0) (.slice none 0 0)) := by rw [← hX]; exact heap_alloc_new _ _
          clear hX
          refine wpE_br [4] (by kernel_rfl) ?_
          refine AllE.cons rfl rfl (fun K hK => ?_) AllE.nil
          go_simp
          refine (mcompose_any _ _ a b _ ((RAY1.out.below HXY2.out).below HXY3.out) (RBY2.out.below HXY3.out) (HMA).out (HMB).out).mono ?_
          rintro e Y4 ⟨⟨vF, rfl, hrc⟩, hb⟩
          obtain ⟨oa, of, he, hca, hcf⟩ := id hrc
          subst he
          obtain ⟨_, _, _, rfl, _, _, _, _⟩ := hca.rd.op
          obtain ⟨_, _, _, rfl, _, _, _, _⟩ := hcf.rd.op
          refine hK.out _ _ (bchain HSY3.out hb) ?_
          clear hK K hca hcf
          (try simp only [Act.put, List.setIfInBounds_toArray, List.set_cons_zero, List.set_cons_succ])
          have HSY4 := Lib.hid (bchain HSY3.out hb)
          have HXY4 := Lib.hid hb
          have OY4 := Lib.hid hrc
          clear hrc hb
          (refine wpE_take 5 (v := ?_) (by kernel_rfl) rfl rfl (by exact HSY4.out) (fun w' hS => ?_) ?_; rotate_left; (focus ((try obtain s0 := HS.out _ (hS rfl)); clear hS; go_simp; try with_reducible rfl; done)); (try simp only [Act.put, List.setIfInBounds_toArray, List.set_cons_zero, List.set_cons_succ]))
          (refine wpE_take 6 (v := ?_) (by kernel_rfl) rfl rfl (by exact HSY4.out) (fun w' hS => ?_) ?_; rotate_left; (focus ((try obtain s0 := HS.out _ (hS rfl)); clear hS; go_simp; try with_reducible rfl; done)); (try simp only [Act.put, List.setIfInBounds_toArray, List.set_cons_zero, List.set_cons_succ]))
          (refine wpE_take 7 (v := ?_) (by kernel_rfl) rfl rfl (by exact HSY4.out) (fun w' hS => ?_) ?_; rotate_left; (focus ((try obtain s0 := HS.out _ (hS rfl)); clear hS; go_simp; try with_reducible rfl; done)); (try simp only [Act.put, List.setIfInBounds_toArray, List.set_cons_zero, List.set_cons_succ]))
          have ZY4 := Lib.hid (ZY3.out.below HXY4.out)
          have hge : W.heap.size ≤ Y2.heap.size := HSY2.out.size
          refine wpE_rest 9 (by kernel_rfl) ?_
          simp only [List.drop_succ_cons, List.drop_zero]
          obtain ⟨r0, r1, r2, f0, f1, f2⟩ := (ZY4).out.facts
          go_wp2_with fail
          refine NoPanic.normal ?_
          go_wp2_with fail
          go_meet
          case rel => exact ⟨_, rfl, rfl, Box.stored (OY4).out (ZY4).out, ((HSY4.out.setCell (by exact hge) _).setCell (by exact hge) _).setCell (by exact hge) _⟩
      · skip
        go_simp
        refine hK.out _ _ (HSY1.out.alloc HSY1.out.size _) ?_
        clear hK K
        (try simp only [Act.put, List.setIfInBounds_toArray, List.set_cons_zero, List.set_cons_succ])
        generalize hX : World.alloc Y1 _ = Y2
        have HSY2 : Hid (Below W.heap.size W Y2) := by rw [← hX]; exact HSY1.out.alloc HSY1.out.size _
        have HXY2 : Hid (Below Y1.heap.size Y1 Y2) := by rw [← hX]; exact (Below.refl _ _).alloc (Nat.le_refl _) _
        have ZY2 : Hid (FBlk Y2 Y1.heap.size (.int .i64 0) (.slice none 0 0) (.slice none 0 0)) := by rw [← hX]; exact heap_alloc_new _ _
        clear hX
        refine wpE_br [3] (by kernel_rfl) ?_
        refine AllE.cons rfl rfl (fun K hK => ?_) AllE.nil
        go_simp
        refine (copy_any _ b _ ((HRB).out.below HSY2.out) (HMB).out.n3 (HMB).out.f3).mono ?_
        rintro e Y3 ⟨⟨vcB, rfl, hrc⟩, hb⟩
        obtain ⟨caB, cfB, he, hca, hcf⟩ := id hrc
        subst he
        obtain ⟨_, _, _, rfl, _, _, _, _⟩ := hca.rd.op
        obtain ⟨_, _, _, rfl, _, _, _, _⟩ := hcf.rd.op
        refine hK.out _ _ (bchain HSY2.out hb) ?_
        clear hK K hca hcf
        (try simp only [Act.put, List.setIfInBounds_toArray, List.set_cons_zero, List.set_cons_succ])
        have HSY3 := Lib.hid (bchain HSY2.out hb)
        have HXY3 := Lib.hid hb
        have RBY3 := Lib.hid hrc.rd
        clear hrc hb
        refine wpE_br [4] (by kernel_rfl) ?_
        refine AllE.cons rfl rfl (fun K hK => ?_) AllE.nil
        go_simp
        refine (mcompose_any _ _ a b _ ((RAY1.out.below HXY2.out).below HXY3.out) RBY3.out (HMA).out (HMB).out).mono ?_
        rintro e Y4 ⟨⟨vF, rfl, hrc⟩, hb⟩
        obtain ⟨oa, of, he, hca, hcf⟩ := id hrc
        subst he
        obtain ⟨_, _, _, rfl, _, _, _, _⟩ := hca.rd.op
        obtain ⟨_, _, _, rfl, _, _, _, _⟩ := hcf.rd.op
        refine hK.out _ _ (bchain HSY3.out hb) ?_
        clear hK K hca hcf
        (try simp only [Act.put, List.setIfInBounds_toArray, List.set_cons_zero, List.set_cons_succ])
        have HSY4 := Lib.hid (bchain HSY3.out hb)
        have HXY4 := Lib.hid hb
        have OY4 := Lib.hid hrc
        clear hrc hb
        (refine wpE_take 5 (v := ?_) (by kernel_rfl) rfl rfl (by exact HSY4.out) (fun w' hS => ?_) ?_; rotate_left; (focus ((try obtain s0 := HS.out _ (hS rfl)); clear hS; go_simp; try with_reducible rfl; done)); (try simp only [Act.put, List.setIfInBounds_toArray, List.set_cons_zero, List.set_cons_succ]))
        (refine wpE_take 6 (v := ?_) (by kernel_rfl) rfl rfl (by exact HSY4.out) (fun w' hS => ?_) ?_; rotate_left; (focus ((try obtain s0 := HS.out _ (hS rfl)); clear hS; go_simp; try with_reducible rfl; done)); (try simp only [Act.put, List.setIfInBounds_toArray, List.set_cons_zero, List.set_cons_succ]))
        (refine wpE_take 7 (v := ?_) (by kernel_rfl) rfl rfl (by exact HSY4.out) (fun w' hS => ?_) ?_; rotate_left; (focus ((try obtain s0 := HS.out _ (hS rfl)); clear hS; go_simp; try with_reducible rfl; done)); (try simp only [Act.put, List.setIfInBounds_toArray, List.set_cons_zero, List.set_cons_succ]))
        have ZY4 := Lib.hid ((ZY2.out.below HXY3.out).below HXY4.out)
        have hge : W.heap.size ≤ Y1.heap.size := HSY1.out.size
        refine wpE_rest 9 (by kernel_rfl) ?_
        simp only [List.drop_succ_cons, List.drop_zero]
        obtain ⟨r0, r1, r2, f0, f1, f2⟩ := (ZY4).out.facts
        go_wp2_with fail
        refine NoPanic.normal ?_
        go_wp2_with fail
        go_meet
        case rel => exact ⟨_, rfl, rfl, Box.stored (OY4).out (ZY4).out, ((HSY4.out.setCell (by exact hge) _).setCell (by exact hge) _).setCell (by exact hge) _⟩
    · skip
      go_simp
      refine hK.out _ _ (HSD.out.alloc HSD.out.size _) ?_
      clear hK K
      (try simp only [Act.put, List.setIfInBounds_toArray, List.set_cons_zero, List.set_cons_succ])
      generalize hX : World.alloc D _ = Y1
      have HSY1 : Hid (Below W.heap.size W Y1) := by rw [← hX]; exact HSD.out.alloc HSD.out.size _
      have HXY1 : Hid (Below D.heap.size D Y1) := by rw [← hX]; exact (Below.refl _ _).alloc (Nat.le_refl _) _
      have ZY1 : Hid (FBlk Y1 D.heap.size (.int .i64 0) (.slice none 0 0) (.slice none 0 0)) := by rw [← hX]; exact heap_alloc_new _ _
      clear hX
      refine wpE_br [1] (by kernel_rfl) ?_
      refine AllE.cons rfl rfl (fun K hK => ?_) AllE.nil
      go_simp
      refine (copy_any _ a _ ((HRA).out.below HSY1.out) (HMA).out.n3 (HMA).out.f3).mono ?_
      rintro e Y2 ⟨⟨vcA, rfl, hrc⟩, hb⟩
      obtain ⟨caA, cfA, he, hca, hcf⟩ := id hrc
      subst he
      obtain ⟨_, _, _, rfl, _, _, _, _⟩ := hca.rd.op
      obtain ⟨_, _, _, rfl, _, _, _, _⟩ := hcf.rd.op
      refine hK.out _ _ (bchain HSY1.out hb) ?_
      clear hK K hca hcf
      (try simp only [Act.put, List.setIfInBounds_toArray, List.set_cons_zero, List.set_cons_succ])
      have HSY2 := Lib.hid (bchain HSY1.out hb)
      have HXY2 := Lib.hid hb
      have RAY2 := Lib.hid hrc.rd
      clear hrc hb
      refine wpE_br [3] (by kernel_rfl) ?_
      refine AllE.cons rfl rfl (fun K hK => ?_) AllE.nil
      go_simp
      refine (copy_any _ b _ ((HRB).out.below HSY2.out) (HMB).out.n3 (HMB).out.f3).mono ?_
      rintro e Y3 ⟨⟨vcB, rfl, hrc⟩, hb⟩
      obtain ⟨caB, cfB, he, hca, hcf⟩ := id hrc
      subst he
      obtain ⟨_, _, _, rfl, _, _, _, _⟩ := hca.rd.op
      obtain ⟨_, _, _, rfl, _, _, _, _⟩ := hcf.rd.op
      refine hK.out _ _ (bchain HSY2.out hb) ?_
      clear hK K hca hcf
      (try simp only [Act.put, List.setIfInBounds_toArray, List.set_cons_zero, List.set_cons_succ])
      have HSY3 := Lib.hid (bchain HSY2.out hb)
      have HXY3 := Lib.hid hb
      have RBY3 := Lib.hid hrc.rd
      clear hrc hb
      refine wpE_br [4] (by kernel_rfl) ?_
      refine AllE.cons rfl rfl (fun K hK => ?_) AllE.nil
      go_simp
      refine (mcompose_any _ _ a b _ (RAY2.out.below HXY3.out) RBY3.out (HMA).out (HMB).out).mono ?_
      rintro e Y4 ⟨⟨vF, rfl, hrc⟩, hb⟩
      obtain ⟨oa, of, he, hca, hcf⟩ := id hrc
      subst he
      obtain ⟨_, _, _, rfl, _, _, _, _⟩ := hca.rd.op
      obtain ⟨_, _, _, rfl, _, _, _, _⟩ := hcf.rd.op
      refine hK.out _ _ (bchain HSY3.out hb) ?_
      clear hK K hca hcf
      (try simp only [Act.put, List.setIfInBounds_toArray, List.set_cons_zero, List.set_cons_succ])
      have HSY4 := Lib.hid (bchain HSY3.out hb)
      have HXY4 := Lib.hid hb
      have OY4 := Lib.hid hrc
      clear hrc hb
      (refine wpE_take 5 (v := ?_) (by kernel_rfl) rfl rfl (by exact HSY4.out) (fun w' hS => ?_) ?_; rotate_left; (focus ((try obtain s0 := HS.out _ (hS rfl)); clear hS; go_simp; try with_reducible rfl; done)); (try simp only [Act.put, List.setIfInBounds_toArray, List.set_cons_zero, List.set_cons_succ]))
      (refine wpE_take 6 (v := ?_) (by kernel_rfl) rfl rfl (by exact HSY4.out) (fun w' hS => ?_) ?_; rotate_left; (focus ((try obtain s0 := HS.out _ (hS rfl)); clear hS; go_simp; try with_reducible rfl; done)); (try simp only [Act.put, List.setIfInBounds_toArray, List.set_cons_zero, List.set_cons_succ]))
      (refine wpE_take 7 (v := ?_) (by kernel_rfl) rfl rfl (by exact HSY4.out) (fun w' hS => ?_) ?_; rotate_left; (focus ((try obtain s0 := HS.out _ (hS rfl)); clear hS; go_simp; try with_reducible rfl; done)); (try simp only [Act.put, List.setIfInBounds_toArray, List.set_cons_zero, List.set_cons_succ]))
      have ZY4 := Lib.hid (((ZY1.out.below HXY2.out).below HXY3.out).below HXY4.out)
      have hge : W.heap.size ≤ D.heap.size := HSD.out.size
      refine wpE_rest 9 (by kernel_rfl) ?_
      simp only [List.drop_succ_cons, List.drop_zero]
      obtain ⟨r0, r1, r2, f0, f1, f2⟩ := (ZY4).out.facts
      go_wp2_with fail
      refine NoPanic.normal ?_
      go_wp2_with fail
      go_meet
      case rel => exact ⟨_, rfl, rfl, Box.stored (OY4).out (ZY4).out, ((HSY4.out.setCell (by exact hge) _).setCell (by exact hge) _).setCell (by exact hge) _⟩
  case rest =>
    obtain ⟨g, rfl, rfl, BF, HBC⟩ := hcut
    have HBW := Lib.hid (bchain HBW.out (HBC).out)
    have BA := Lib.hid (BA.out.below (HBC).out)
    have BB := Lib.hid (BB.out.below (HBC).out)
    have BC := Lib.hid (BC.out.below (HBC).out)
    have HT := Lib.hid (HT.out.below (HBC).out)
    have HX := Lib.hid (HX.out.below (HBC).out)
    clear HBC
    go_upto_region 4 with (fail)
    obtain ⟨W, rfl⟩ : ∃ W' : World, W' = wc := ⟨_, rfl⟩
    go_cut [11, 12] (fun s7 s8 wx => ∃ g : Nat, s7 = .pointer (some ⟨g, 0, none⟩) ∧ s8 = .int .i64 0 ∧ Hid (Box wx g (compF b c)) ∧ Hid (Below W.heap.size W wx))
    case first =>
      obtain ⟨A1, n1, c1, A2, n2, c2, p0, p1, p2, hg1, HRA⟩ := (BB).out.open
      obtain ⟨B1, m1, d1, B2, m2, d2, q0, q1, q2, hg2, HRB⟩ := (BC).out.open
      have HS := Lib.hid (fun (w' : World) (h : Below W.heap.size W w') => And.intro ((h.cell hg1).trans p0) (And.intro ((h.cell hg1).trans p1) (And.intro ((h.cell hg1).trans p2) (And.intro ((h.cell hg2).trans q0) (And.intro ((h.cell hg2).trans q1) ((h.cell hg2).trans q2))))))
      clear p0 p1 p2 q0 q1 q2
      refine wp_region_steps 11 9 [0, 1, 2, 3, 4, 5, 6, 8] [7] (fun w' => Below W.heap.size W w') (by kernel_rfl) (by kernel_rfl) ?_
      rintro D hD
      have HSD : Hid (Below W.heap.size W D) := by rw [hD]; exact (Below.refl _ _).drew
      clear hD
      (refine wpE_take 0 (v := ?_) (by kernel_rfl) rfl rfl (by exact HSD.out) (fun w' hS => ?_) ?_; rotate_left; (focus ((try obtain ⟨s0, s1, s2, s3, s4, s5⟩ := HS.out _ (hS rfl)); clear hS; go_simp; try with_reducible rfl; done)); (try simp only [Act.put, List.setIfInBounds_toArray, List.set_cons_zero, List.set_cons_succ]))
      (refine wpE_take 2 (v := ?_) (by kernel_rfl) rfl rfl (by exact HSD.out) (fun w' hS => ?_) ?_; rotate_left; (focus ((try obtain ⟨s0, s1, s2, s3, s4, s5⟩ := HS.out _ (hS rfl)); clear hS; go_simp; try with_reducible rfl; done)); (try simp only [Act.put, List.setIfInBounds_toArray, List.set_cons_zero, List.set_cons_succ]))
      refine wpE_br [1, 8] (by kernel_rfl) ?_
      refine AllE.cons rfl rfl (fun K hK => ?_) (AllE.cons rfl rfl (fun K hK => ?_) AllE.nil)
      · skip
        go_simp
        refine (copy_any _ b _ ((HRA).out.below HSD.out) (HMB).out.n3 (HMB).out.f3).mono ?_
        rintro e Y1 ⟨⟨vcA, rfl, hrc⟩, hb⟩
        obtain ⟨caA, cfA, he, hca, hcf⟩ := id hrc
        subst he
        obtain ⟨_, _, _, rfl, _, _, _, _⟩ := hca.rd.op
        obtain ⟨_, _, _, rfl, _, _, _, _⟩ := hcf.rd.op
        refine hK.out _ _ (bchain HSD.out hb) ?_
        clear hK K hca hcf
        (try simp only [Act.put, List.setIfInBounds_toArray, List.set_cons_zero, List.set_cons_succ])
        have HSY1 := Lib.hid (bchain HSD.out hb)
        have HXY1 := Lib.hid hb
        have RAY1 := Lib.hid hrc.rd
        clear hrc hb
        refine wpE_br [3, 8] (by kernel_rfl) ?_
        refine AllE.cons rfl rfl (fun K hK => ?_) (AllE.cons rfl rfl (fun K hK => ?_) AllE.nil)
        · skip
          go_simp
          refine (copy_any _ c _ ((HRB).out.below HSY1.out) (HMC).out.n3 (HMC).out.f3).mono ?_
          rintro e Y2 ⟨⟨vcB, rfl, hrc⟩, hb⟩
          obtain ⟨caB, cfB, he, hca, hcf⟩ := id hrc
          subst he
          obtain ⟨_, _, _, rfl, _, _, _, _⟩ := hca.rd.op
          obtain ⟨_, _, _, rfl, _, _, _, _⟩ := hcf.rd.op
          refine hK.out _ _ (bchain HSY1.out hb) ?_
          clear hK K hca hcf
          (try simp only [Act.put, List.setIfInBounds_toArray, List.set_cons_zero, List.set_cons_succ])
          have HSY2 := Lib.hid (bchain HSY1.out hb)
          have HXY2 := Lib.hid hb
          have RBY2 := Lib.hid hrc.rd
          clear hrc hb
          refine wpE_br [4, 8] (by kernel_rfl) ?_
          refine AllE.cons rfl rfl (fun K hK => ?_) (AllE.cons rfl rfl (fun K hK => ?_) AllE.nil)
          · skip
            go_simp
            refine (mcompose_any _ _ b c _ (RAY1.out.below HXY2.out) RBY2.out (HMB).out (HMC).out).mono ?_
            rintro e Y3 ⟨⟨vF, rfl, hrc⟩, hb⟩
            obtain ⟨oa, of, he, hca, hcf⟩ := id hrc
            subst he
            obtain ⟨_, _, _, rfl, _, _, _, _⟩ := hca.rd.op
            obtain ⟨_, _, _, rfl, _, _, _, _⟩ := hcf.rd.op
            refine hK.out _ _ (bchain HSY2.out hb) ?_
            clear hK K hca hcf
            (try simp only [Act.put, List.setIfInBounds_toArray, List.set_cons_zero, List.set_cons_succ])
            have HSY3 := Lib.hid (bchain HSY2.out hb)
            have HXY3 := Lib.hid hb
            have OY3 := Lib.hid hrc
            clear hrc hb
            (refine wpE_take 5 (v := ?_) (by kernel_rfl) rfl rfl (by exact HSY3.out) (fun w' hS => ?_) ?_; rotate_left; (focus ((try obtain s0 := HS.out _ (hS rfl)); clear hS; go_simp; try with_reducible rfl; done)); (try simp only [Act.put, List.setIfInBounds_toArray, List.set_cons_zero, List.set_cons_succ]))
            (refine wpE_take 6 (v := ?_) (by kernel_rfl) rfl rfl (by exact HSY3.out) (fun w' hS => ?_) ?_; rotate_left; (focus ((try obtain s0 := HS.out _ (hS rfl)); clear hS; go_simp; try with_reducible rfl; done)); (try simp only [Act.put, List.setIfInBounds_toArray, List.set_cons_zero, List.set_cons_succ]))
            (refine wpE_take 7 (v := ?_) (by kernel_rfl) rfl rfl (by exact HSY3.out) (fun w' hS => ?_) ?_; rotate_left; (focus ((try obtain s0 := HS.out _ (hS rfl)); clear hS; go_simp; try with_reducible rfl; done)); (try simp only [Act.put, List.setIfInBounds_toArray, List.set_cons_zero, List.set_cons_succ]))
            refine wpE_br [8] (by kernel_rfl) ?_
            refine AllE.cons rfl rfl (fun K hK => ?_) AllE.nil
            go_simp
            refine hK.out _ _ (HSY3.out.alloc HSY3.out.size _) ?_
            clear hK K
            (try simp only [Act.put, List.setIfInBounds_toArray, List.set_cons_zero, List.set_cons_succ])
            generalize hX : World.alloc Y3 _ = Y4
            have HSY4 : Hid (Below W.heap.size W Y4) := by rw [← hX]; exact HSY3.out.alloc HSY3.out.size _
            have HXY4 : Hid (Below Y3.heap.size Y3 Y4) := by rw [← hX]; exact (Below.refl _ _).alloc (Nat.le_refl _) _
            have ZY4 : Hid (FBlk Y4 Y3.heap.size (.int .i64 0) (.slice none 0 0) (.slice none 0 0)) := by rw [← hX]; exact heap_alloc_new _ _
            clear hX
            have OY4 := Lib.hid (OY3.out.below HXY4.out)
            have hge : W.heap.size ≤ Y3.heap.size := HSY3.out.size
            refine wpE_rest 9 (by kernel_rfl) ?_
            simp only [List.drop_succ_cons, List.drop_zero]
            obtain ⟨r0, r1, r2, f0, f1, f2⟩ := (ZY4).out.facts
            go_wp2_with fail
            refine NoPanic.normal ?_
            go_wp2_with fail
            go_meet
            case rel => exact ⟨_, rfl, rfl, Box.stored (OY4).out (ZY4).out, ((HSY4.out.setCell (by exact hge) _).setCell (by exact hge) _).setCell (by exact hge) _⟩
          · skip
            go_simp
            refine hK.out _ _ (HSY2.out.alloc HSY2.out.size _) ?_
            clear hK K
            (try simp only [Act.put, List.setIfInBounds_toArray, List.set_cons_zero, List.set_cons_succ])
            generalize hX : World.alloc Y2 _ = Y3
            have HSY3 : Hid (Below W.heap.size W Y3) := by rw [← hX]; exact HSY2.out.alloc HSY2.out.size _
            have HXY3 : Hid (Below Y2.heap.size Y2 Y3) := by rw [← hX]; exact (Below.refl _ _).alloc (Nat.le_refl _) _
            have ZY3 : Hid (FBlk Y3 Y2.heap.size (.int .i64 0) (.slice none 0 0) (.slice none 0 0)) := by rw [← hX]; exact heap_alloc_new _ _
            clear hX
            refine wpE_br [4] (by kernel_rfl) ?_
            refine AllE.cons rfl rfl (fun K hK => ?_) AllE.nil
            go_simp
            refine (mcompose_any _ _ b c _ ((RAY1.out.below HXY2.out).below HXY3.out) (RBY2.out.below HXY3.out) (HMB).out (HMC).out).mono ?_
            rintro e Y4 ⟨⟨vF, rfl, hrc⟩, hb⟩
            obtain ⟨oa, of, he, hca, hcf⟩ := id hrc
            subst he
            obtain ⟨_, _, _, rfl, _, _, _, _⟩ := hca.rd.op
            obtain ⟨_, _, _, rfl, _, _, _, _⟩ := hcf.rd.op
            refine hK.out _ _ (bchain HSY3.out hb) ?_
            clear hK K hca hcf
            (try simp only [Act.put, List.setIfInBounds_toArray, List.set_cons_zero, List.set_cons_succ])
            have HSY4 := Lib.hid (bchain HSY3.out hb)
            have HXY4 := Lib.hid hb
            have OY4 := Lib.hid hrc
            clear hrc hb
            (refine wpE_take 5 (v := ?_) (by kernel_rfl) rfl rfl (by exact HSY4.out) (fun w' hS => ?_) ?_; rotate_left; (focus ((try obtain s0 := HS.out _ (hS rfl)); clear hS; go_simp; try with_reducible rfl; done)); (try simp only [Act.put, List.setIfInBounds_toArray, List.set_cons_zero, List.set_cons_succ]))
            (refine wpE_take 6 (v := ?_) (by kernel_rfl) rfl rfl (by exact HSY4.out) (fun w' hS => ?_) ?_; rotate_left; (focus ((try obtain s0 := HS.out _ (hS rfl)); clear hS; go_simp; try with_reducible rfl; done)); (try simp only [Act.put, List.setIfInBounds_toArray, List.set_cons_zero, List.set_cons_succ]))
            (refine wpE_take 7 (v := ?_) (by kernel_rfl) rfl rfl (by exact HSY4.out) (fun w' hS => ?_) ?_; rotate_left; (focus ((try obtain s0 := HS.out _ (hS rfl)); clear hS; go_simp; try with_reducible rfl; done)); (try simp only [Act.put, List.setIfInBounds_toArray, List.set_cons_zero, List.set_cons_succ]))
            have ZY4 := Lib.hid (ZY3.out.below HXY4.out)
            have hge : W.heap.size ≤ Y2.heap.size := HSY2.out.size
            refine wpE_rest 9 (by kernel_rfl) ?_
            simp only [List.drop_succ_cons, List.drop_zero]
            obtain ⟨r0, r1, r2, f0, f1, f2⟩ := (ZY4).out.facts
            go_wp2_with fail
            refine NoPanic.normal ?_
            go_wp2_with fail
            go_meet
            case rel => exact ⟨_, rfl, rfl, Box.stored (OY4).out (ZY4).out, ((HSY4.out.setCell (by exact hge) _).setCell (by exact hge) _).setCell (by exact hge) _⟩
        · skip
          go_simp
          refine hK.out _ _ (HSY1.out.alloc HSY1.out.size _) ?_
          clear hK K
          (try simp only [Act.put, List.setIfInBounds_toArray, List.set_cons_zero, List.set_cons_succ])
          generalize hX : World.alloc Y1 _ = Y2
          have HSY2 : Hid (Below W.heap.size W Y2) := by rw [← hX]; exact HSY1.out.alloc HSY1.out.size _
          have HXY2 : Hid (Below Y1.heap.size Y1 Y2) := by rw [← hX]; exact (Below.refl _ _).alloc (Nat.le_refl _) _
          have ZY2 : Hid (FBlk Y2 Y1.heap.size (.int .i64 0) (.slice none 0 0) (.slice none 0 0)) := by rw [← hX]; exact heap_alloc_new _ _
          clear hX
          refine wpE_br [3] (by kernel_rfl) ?_
          refine AllE.cons rfl rfl (fun K hK => ?_) AllE.nil
          go_simp
          refine (copy_any _ c _ ((HRB).out.below HSY2.out) (HMC).out.n3 (HMC).out.f3).mono ?_
          rintro e Y3 ⟨⟨vcB, rfl, hrc⟩, hb⟩
          obtain ⟨caB, cfB, he, hca, hcf⟩ := id hrc
          subst he
          obtain ⟨_, _, _, rfl, _, _, _, _⟩ := hca.rd.op
          obtain ⟨_, _, _, rfl, _, _, _, _⟩ := hcf.rd.op
          refine hK.out _ _ (bchain HSY2.out hb) ?_
          clear hK K hca hcf
          (try simp only [Act.put, List.setIfInBounds_toArray, List.set_cons_zero, List.set_cons_succ])
          have HSY3 := Lib.hid (bchain HSY2.out hb)
          have HXY3 := Lib.hid hb
          have RBY3 := Lib.hid hrc.rd
          clear hrc hb
          refine wpE_br [4] (by kernel_rfl) ?_
          refine AllE.cons rfl rfl (fun K hK => ?_) AllE.nil
          go_simp
          refine (mcompose_any _ _ b c _ ((RAY1.out.below HXY2.out).below HXY3.out) RBY3.out (HMB).out (HMC).out).mono ?_
          rintro e Y4 ⟨⟨vF, rfl, hrc⟩, hb⟩
          obtain ⟨oa, of, he, hca, hcf⟩ := id hrc
          subst he
          obtain ⟨_, _, _, rfl, _, _, _, _⟩ := hca.rd.op
          obtain ⟨_, _, _, rfl, _, _, _, _⟩ := hcf.rd.op
          refine hK.out _ _ (bchain HSY3.out hb) ?_
          clear hK K hca hcf
          (try simp only [Act.put, List.setIfInBounds_toArray, List.set_cons_zero, List.set_cons_succ])
          have HSY4 := Lib.hid (bchain HSY3.out hb)
          have HXY4 := Lib.hid hb
          have OY4 := Lib.hid hrc
          clear hrc hb
          (refine wpE_take 5 (v := ?_) (by kernel_rfl) rfl rfl (by exact HSY4.out) (fun w' hS => ?_) ?_; rotate_left; (focus ((try obtain s0 := HS.out _ (hS rfl)); clear hS; go_simp; try with_reducible rfl; done)); (try simp only [Act.put, List.setIfInBounds_toArray, List.set_cons_zero, List.set_cons_succ]))
          (refine wpE_take 6 (v := ?_) (by kernel_rfl) rfl rfl (by exact HSY4.out) (fun w' hS => ?_) ?_; rotate_left; (focus ((try obtain s0 := HS.out _ (hS rfl)); clear hS; go_simp; try with_reducible rfl; done)); (try simp only [Act.put, List.setIfInBounds_toArray, List.set_cons_zero, List.set_cons_succ]))
          (refine wpE_take 7 (v := ?_) (by kernel_rfl) rfl rfl (by exact HSY4.out) (fun w' hS => ?_) ?_; rotate_left; (focus ((try obtain s0 := HS.out _ (hS rfl)); clear hS; go_simp; try with_reducible rfl; done)); (try simp only [Act.put, List.setIfInBounds_toArray, List.set_cons_zero, List.set_cons_succ]))
          have ZY4 := Lib.hid ((ZY2.out.below HXY3.out).below HXY4.out)
          have hge : W.heap.size ≤ Y1.heap.size := HSY1.out.size
          refine wpE_rest 9 (by kernel_rfl) ?_
          simp only [List.drop_succ_cons, List.drop_zero]
          obtain ⟨r0, r1, r2, f0, f1, f2⟩ := (ZY4).out.facts
          go_wp2_with fail
          refine NoPanic.normal ?_
          go_wp2_with fail
          go_meet
          case rel => exact ⟨_, rfl, rfl, Box.stored (OY4).out (ZY4).out, ((HSY4.out.setCell (by exact hge) _).setCell (by exact hge) _).setCell (by exact hge) _⟩
      · skip
        go_simp
        refine hK.out _ _ (HSD.out.alloc HSD.out.size _) ?_
        clear hK K
        (try simp only [Act.put, List.setIfInBounds_toArray, List.set_cons_zero, List.set_cons_succ])
        generalize hX : World.alloc D _ = Y1
        have HSY1 : Hid (Below W.heap.size W Y1) := by rw [← hX]; exact HSD.out.alloc HSD.out.size _
        have HXY1 : Hid (Below D.heap.size D Y1) := by rw [← hX]; exact (Below.refl _ _).alloc (Nat.le_refl _) _
        have ZY1 : Hid (FBlk Y1 D.heap.size (.int .i64 0) (.slice none 0 0) (.slice none 0 0)) := by rw [← hX]; exact heap_alloc_new _ _
        clear hX
        refine wpE_br [1] (by kernel_rfl) ?_
        refine AllE.cons rfl rfl (fun K hK => ?_) AllE.nil
        go_simp
        refine (copy_any _ b _ ((HRA).out.below HSY1.out) (HMB).out.n3 (HMB).out.f3).mono ?_
        rintro e Y2 ⟨⟨vcA, rfl, hrc⟩, hb⟩
        obtain ⟨caA, cfA, he, hca, hcf⟩ := id hrc
        subst he
        obtain ⟨_, _, _, rfl, _, _, _, _⟩ := hca.rd.op
        obtain ⟨_, _, _, rfl, _, _, _, _⟩ := hcf.rd.op
        refine hK.out _ _ (bchain HSY1.out hb) ?_
        clear hK K hca hcf
        (try simp only [Act.put, List.setIfInBounds_toArray, List.set_cons_zero, List.set_cons_succ])
        have HSY2 := Lib.hid (bchain HSY1.out hb)
        have HXY2 := Lib.hid hb
        have RAY2 := Lib.hid hrc.rd
        clear hrc hb
        refine wpE_br [3] (by kernel_rfl) ?_
        refine AllE.cons rfl rfl (fun K hK => ?_) AllE.nil
        go_simp
        refine (copy_any _ c _ ((HRB).out.below HSY2.out) (HMC).out.n3 (HMC).out.f3).mono ?_
        rintro e Y3 ⟨⟨vcB, rfl, hrc⟩, hb⟩
        obtain ⟨caB, cfB, he, hca, hcf⟩ := id hrc
        subst he
        obtain ⟨_, _, _, rfl, _, _, _, _⟩ := hca.rd.op
        obtain ⟨_, _, _, rfl, _, _, _, _⟩ := hcf.rd.op
        refine hK.out _ _ (bchain HSY2.out hb) ?_
        clear hK K hca hcf
        (try simp only [Act.put, List.setIfInBounds_toArray, List.set_cons_zero, List.set_cons_succ])
        have HSY3 := Lib.hid (bchain HSY2.out hb)
        have HXY3 := Lib.hid hb
        have RBY3 := Lib.hid hrc.rd
        clear hrc hb
        refine wpE_br [4] (by kernel_rfl) ?_
        refine AllE.cons rfl rfl (fun K hK => ?_) AllE.nil
        go_simp
        refine (mcompose_any _ _ b c _ (RAY2.out.below HXY3.out) RBY3.out (HMB).out (HMC).out).mono ?_
        rintro e Y4 ⟨⟨vF, rfl, hrc⟩, hb⟩
        obtain ⟨oa, of, he, hca, hcf⟩ := id hrc
        subst he
        obtain ⟨_, _, _, rfl, _, _, _, _⟩ := hca.rd.op
        obtain ⟨_, _, _, rfl, _, _, _, _⟩ := hcf.rd.op
        refine hK.out _ _ (bchain HSY3.out hb) ?_
        clear hK K hca hcf
        (try simp only [Act.put, List.setIfInBounds_toArray, List.set_cons_zero, List.set_cons_succ])
        have HSY4 := Lib.hid (bchain HSY3.out hb)
        have HXY4 := Lib.hid hb
        have OY4 := Lib.hid hrc
        clear hrc hb
        (refine wpE_take 5 (v := ?_) (by kernel_rfl) rfl rfl (by exact HSY4.out) (fun w' hS => ?_) ?_; rotate_left; (focus ((try obtain s0 := HS.out _ (hS rfl)); clear hS; go_simp; try with_reducible rfl; done)); (try simp only [Act.put, List.setIfInBounds_toArray, List.set_cons_zero, List.set_cons_succ]))
        (refine wpE_take 6 (v := ?_) (by kernel_rfl) rfl rfl (by exact HSY4.out) (fun w' hS => ?_) ?_; rotate_left; (focus ((try obtain s0 := HS.out _ (hS rfl)); clear hS; go_simp; try with_reducible rfl; done)); (try simp only [Act.put, List.setIfInBounds_toArray, List.set_cons_zero, List.set_cons_succ]))
        (refine wpE_take 7 (v := ?_) (by kernel_rfl) rfl rfl (by exact HSY4.out) (fun w' hS => ?_) ?_; rotate_left; (focus ((try obtain s0 := HS.out _ (hS rfl)); clear hS; go_simp; try with_reducible rfl; done)); (try simp only [Act.put, List.setIfInBounds_toArray, List.set_cons_zero, List.set_cons_succ]))
        have ZY4 := Lib.hid (((ZY1.out.below HXY2.out).below HXY3.out).below HXY4.out)
        have hge : W.heap.size ≤ D.heap.size := HSD.out.size
        refine wpE_rest 9 (by kernel_rfl) ?_
        simp only [List.drop_succ_cons, List.drop_zero]
        obtain ⟨r0, r1, r2, f0, f1, f2⟩ := (ZY4).out.facts
        go_wp2_with fail
        refine NoPanic.normal ?_
        go_wp2_with fail
        go_meet
        case rel => exact ⟨_, rfl, rfl, Box.stored (OY4).out (ZY4).out, ((HSY4.out.setCell (by exact hge) _).setCell (by exact hge) _).setCell (by exact hge) _⟩
    case rest =>
      obtain ⟨g2, rfl, rfl, BG, HBC⟩ := hcut
      have HBW := Lib.hid (bchain HBW.out (HBC).out)
      have BA := Lib.hid (BA.out.below (HBC).out)
      have BB := Lib.hid (BB.out.below (HBC).out)
      have BC := Lib.hid (BC.out.below (HBC).out)
      have HT := Lib.hid (HT.out.below (HBC).out)
      have HX := Lib.hid (HX.out.below (HBC).out)
      have BF := Lib.hid (BF.out.below HBC.out)
      clear HBC
      obtain ⟨_, _, _, _, _, _, p0, p1, p2, hg1, HRA⟩ := BF.out.open
      go_wp2_with fail
      refine (fcheck_ok _ (compF a b) _ HRA.out HMF.out.good).mono ?_
      rintro e w5 ⟨rfl, hb⟩
      have HB5 := Lib.hid hb
      clear hb p0 p1 p2 hg1 HRA
      obtain ⟨_, _, _, _, _, _, p0, p1, p2, hg1, HRA⟩ := (BG.out.below HB5.out).open
      go_wp2_with fail
      refine (fcheck_ok _ (compF b c) _ HRA.out HMG.out.good).mono ?_
      rintro e w6 ⟨rfl, hb⟩
      have HB6 := Lib.hid (bchain HB5.out hb)
      clear hb p0 p1 p2 hg1 HRA HB5
      have HBW := Lib.hid (bchain HBW.out (HB6).out)
      have BA := Lib.hid (BA.out.below (HB6).out)
      have BB := Lib.hid (BB.out.below (HB6).out)
      have BC := Lib.hid (BC.out.below (HB6).out)
      have HT := Lib.hid (HT.out.below (HB6).out)
      have HX := Lib.hid (HX.out.below (HB6).out)
      have BF := Lib.hid (BF.out.below HB6.out)
      have BG := Lib.hid (BG.out.below HB6.out)
      clear HB6
      go_upto_region 7 with (fail)
      obtain ⟨W, rfl⟩ : ∃ W' : World, W' = w6 := ⟨_, rfl⟩
      go_cut [13, 14] (fun s7 s8 wx => ∃ g : Nat, s7 = .pointer (some ⟨g, 0, none⟩) ∧ s8 = .int .i64 0 ∧ Hid (Box wx g (compF (compF a b) c)) ∧ Hid (Below W.heap.size W wx))
      case first =>
        obtain ⟨A1, n1, c1, A2, n2, c2, p0, p1, p2, hg1, HRA⟩ := (BF).out.open
        obtain ⟨B1, m1, d1, B2, m2, d2, q0, q1, q2, hg2, HRB⟩ := (BC).out.open
        have HS := Lib.hid (fun (w' : World) (h : Below W.heap.size W w') => And.intro ((h.cell hg1).trans p0) (And.intro ((h.cell hg1).trans p1) (And.intro ((h.cell hg1).trans p2) (And.intro ((h.cell hg2).trans q0) (And.intro ((h.cell hg2).trans q1) ((h.cell hg2).trans q2))))))
        clear p0 p1 p2 q0 q1 q2
        refine wp_region_steps 11 9 [0, 1, 2, 3, 4, 5, 6, 8] [7] (fun w' => Below W.heap.size W w') (by kernel_rfl) (by kernel_rfl) ?_
        rintro D hD
        have HSD : Hid (Below W.heap.size W D) := by rw [hD]; exact (Below.refl _ _).drew
        clear hD
        (refine wpE_take 0 (v := ?_) (by kernel_rfl) rfl rfl (by exact HSD.out) (fun w' hS => ?_) ?_; rotate_left; (focus ((try obtain ⟨s0, s1, s2, s3, s4, s5⟩ := HS.out _ (hS rfl)); clear hS; go_simp; try with_reducible rfl; done)); (try simp only [Act.put, List.setIfInBounds_toArray, List.set_cons_zero, List.set_cons_succ]))
        (refine wpE_take 2 (v := ?_) (by kernel_rfl) rfl rfl (by exact HSD.out) (fun w' hS => ?_) ?_; rotate_left; (focus ((try obtain ⟨s0, s1, s2, s3, s4, s5⟩ := HS.out _ (hS rfl)); clear hS; go_simp; try with_reducible rfl; done)); (try simp only [Act.put, List.setIfInBounds_toArray, List.set_cons_zero, List.set_cons_succ]))
        refine wpE_br [1, 8] (by kernel_rfl) ?_
        refine AllE.cons rfl rfl (fun K hK => ?_) (AllE.cons rfl rfl (fun K hK => ?_) AllE.nil)
        · skip
          go_simp
          refine (copy_any _ (compF a b) _ ((HRA).out.below HSD.out) (HMF).out.n3 (HMF).out.f3).mono ?_
          rintro e Y1 ⟨⟨vcA, rfl, hrc⟩, hb⟩
          obtain ⟨caA, cfA, he, hca, hcf⟩ := id hrc
          subst he
          obtain ⟨_, _, _, rfl, _, _, _, _⟩ := hca.rd.op
          obtain ⟨_, _, _, rfl, _, _, _, _⟩ := hcf.rd.op
          refine hK.out _ _ (bchain HSD.out hb) ?_
          clear hK K hca hcf
          (try simp only [Act.put, List.setIfInBounds_toArray, List.set_cons_zero, List.set_cons_succ])
          have HSY1 := Lib.hid (bchain HSD.out hb)
          have HXY1 := Lib.hid hb
          have RAY1 := Lib.hid hrc.rd
          clear hrc hb
          refine wpE_br [3, 8] (by kernel_rfl) ?_
          refine AllE.cons rfl rfl (fun K hK => ?_) (AllE.cons rfl rfl (fun K hK => ?_) AllE.nil)
          · skip
            go_simp
            refine (copy_any _ c _ ((HRB).out.below HSY1.out) (HMC).out.n3 (HMC).out.f3).mono ?_
            rintro e Y2 ⟨⟨vcB, rfl, hrc⟩, hb⟩
            obtain ⟨caB, cfB, he, hca, hcf⟩ := id hrc
            subst he
            obtain ⟨_, _, _, rfl, _, _, _, _⟩ := hca.rd.op
            obtain ⟨_, _, _, rfl, _, _, _, _⟩ := hcf.rd.op
            refine hK.out _ _ (bchain HSY1.out hb) ?_
            clear hK K hca hcf
            (try simp only [Act.put, List.setIfInBounds_toArray, List.set_cons_zero, List.set_cons_succ])
            have HSY2 := Lib.hid (bchain HSY1.out hb)
            have HXY2 := Lib.hid hb
            have RBY2 := Lib.hid hrc.rd
            clear hrc hb
            refine wpE_br [4, 8] (by kernel_rfl) ?_
            refine AllE.cons rfl rfl (fun K hK => ?_) (AllE.cons rfl rfl (fun K hK => ?_) AllE.nil)
            · skip
              go_simp
              refine (mcompose_any _ _ (compF a b) c _ (RAY1.out.below HXY2.out) RBY2.out (HMF).out (HMC).out).mono ?_
              rintro e Y3 ⟨⟨vF, rfl, hrc⟩, hb⟩
              obtain ⟨oa, of, he, hca, hcf⟩ := id hrc
              subst he
              obtain ⟨_, _, _, rfl, _, _, _, _⟩ := hca.rd.op
              obtain ⟨_, _, _, rfl, _, _, _, _⟩ := hcf.rd.op
              refine hK.out _ _ (bchain HSY2.out hb) ?_
              clear hK K hca hcf
              (try simp only [Act.put, List.setIfInBounds_toArray, List.set_cons_zero, List.set_cons_succ])
              have HSY3 := Lib.hid (bchain HSY2.out hb)
              have HXY3 := Lib.hid hb
              have OY3 := Lib.hid hrc
              clear hrc hb
              (refine wpE_take 5 (v := ?_) (by kernel_rfl) rfl rfl (by exact HSY3.out) (fun w' hS => ?_) ?_; rotate_left; (focus ((try obtain s0 := HS.out _ (hS rfl)); clear hS; go_simp; try with_reducible rfl; done)); (try simp only [Act.put, List.setIfInBounds_toArray, List.set_cons_zero, List.set_cons_succ]))
              (refine wpE_take 6 (v := ?_) (by kernel_rfl) rfl rfl (by exact HSY3.out) (fun w' hS => ?_) ?_; rotate_left; (focus ((try obtain s0 := HS.out _ (hS rfl)); clear hS; go_simp; try with_reducible rfl; done)); (try simp only [Act.put, List.setIfInBounds_toArray, List.set_cons_zero, List.set_cons_succ]))
              (refine wpE_take 7 (v := ?_) (by kernel_rfl) rfl rfl (by exact HSY3.out) (fun w' hS => ?_) ?_; rotate_left; (focus ((try obtain s0 := HS.out _ (hS rfl)); clear hS; go_simp; try with_reducible rfl; done)); (try simp only [Act.put, List.setIfInBounds_toArray, List.set_cons_zero, List.set_cons_succ]))
              refine wpE_br [8] (by kernel_rfl) ?_
              refine AllE.cons rfl rfl (fun K hK => ?_) AllE.nil
              go_simp
              refine hK.out _ _ (HSY3.out.alloc HSY3.out.size _) ?_
              clear hK K
              (try simp only [Act.put, List.setIfInBounds_toArray, List.set_cons_zero, List.set_cons_succ])
              generalize hX : World.alloc Y3 _ = Y4
              have HSY4 : Hid (Below W.heap.size W Y4) := by rw [← hX]; exact HSY3.out.alloc HSY3.out.size _
              have HXY4 : Hid (Below Y3.heap.size Y3 Y4) := by rw [← hX]; exact (Below.refl _ _).alloc (Nat.le_refl _) _
              have ZY4 : Hid (FBlk Y4 Y3.heap.size (.int .i64 0) (.slice none 0 0) (.slice none 0 0)) := by rw [← hX]; exact heap_alloc_new _ _
              clear hX
              have OY4 := Lib.hid (OY3.out.below HXY4.out)
              have hge : W.heap.size ≤ Y3.heap.size := HSY3.out.size
              refine wpE_rest 9 (by kernel_rfl) ?_
              simp only [List.drop_succ_cons, List.drop_zero]
              obtain ⟨r0, r1, r2, f0, f1, f2⟩ := (ZY4).out.facts
              go_wp2_with fail
              refine NoPanic.normal ?_
              go_wp2_with fail
              go_meet
              case rel => exact ⟨_, rfl, rfl, Box.stored (OY4).out (ZY4).out, ((HSY4.out.setCell (by exact hge) _).setCell (by exact hge) _).setCell (by exact hge) _⟩
            · skip
              go_simp
              refine hK.out _ _ (HSY2.out.alloc HSY2.out.size _) ?_
              clear hK K
              (try simp only [Act.put, List.setIfInBounds_toArray, List.set_cons_zero, List.set_cons_succ])
              generalize hX : World.alloc Y2 _ = Y3
              have HSY3 : Hid (Below W.heap.size W Y3) := by rw [← hX]; exact HSY2.out.alloc HSY2.out.size _
              have HXY3 : Hid (Below Y2.heap.size Y2 Y3) := by rw [← hX]; exact (Below.refl _ _).alloc (Nat.le_refl _) _
              have ZY3 : Hid (FBlk Y3 Y2.heap.size (.int .i64 0) (.slice none 0 0) (.slice none 0 0)) := by rw [← hX]; exact heap_alloc_new _ _
              clear hX
              refine wpE_br [4] (by kernel_rfl) ?_
              refine AllE.cons rfl rfl (fun K hK => ?_) AllE.nil
              go_simp
              refine (mcompose_any _ _ (compF a b) c _ ((RAY1.out.below HXY2.out).below HXY3.out) (RBY2.out.below HXY3.out) (HMF).out (HMC).out).mono ?_
              rintro e Y4 ⟨⟨vF, rfl, hrc⟩, hb⟩
              obtain ⟨oa, of, he, hca, hcf⟩ := id hrc
              subst he
              obtain ⟨_, _, _, rfl, _, _, _, _⟩ := hca.rd.op
              obtain ⟨_, _, _, rfl, _, _, _, _⟩ := hcf.rd.op
              refine hK.out _ _ (bchain HSY3.out hb) ?_
              clear hK K hca hcf
              (try simp only [Act.put, List.setIfInBounds_toArray, List.set_cons_zero, List.set_cons_succ])
              have HSY4 := Lib.hid (bchain HSY3.out hb)
              have HXY4 := Lib.hid hb
              have OY4 := Lib.hid hrc
              clear hrc hb
              (refine wpE_take 5 (v := ?_) (by kernel_rfl) rfl rfl (by exact HSY4.out) (fun w' hS => ?_) ?_; rotate_left; (focus ((try obtain s0 := HS.out _ (hS rfl)); clear hS; go_simp; try with_reducible rfl; done)); (try simp only [Act.put, List.setIfInBounds_toArray, List.set_cons_zero, List.set_cons_succ]))
              (refine wpE_take 6 (v := ?_) (by kernel_rfl) rfl rfl (by exact HSY4.out) (fun w' hS => ?_) ?_; rotate_left; (focus ((try obtain s0 := HS.out _ (hS rfl)); clear hS; go_simp; try with_reducible rfl; done)); (try simp only [Act.put, List.setIfInBounds_toArray, List.set_cons_zero, List.set_cons_succ]))
              (refine wpE_take 7 (v := ?_) (by kernel_rfl) rfl rfl (by exact HSY4.out) (fun w' hS => ?_) ?_; rotate_left; (focus ((try obtain s0 := HS.out _ (hS rfl)); clear hS; go_simp; try with_reducible rfl; done)); (try simp only [Act.put, List.setIfInBounds_toArray, List.set_cons_zero, List.set_cons_succ]))
              have ZY4 := Lib.hid (ZY3.out.below HXY4.out)
              have hge : W.heap.size ≤ Y2.heap.size := HSY2.out.size
              refine wpE_rest 9 (by kernel_rfl) ?_
              simp only [List.drop_succ_cons, List.drop_zero]
              obtain ⟨r0, r1, r2, f0, f1, f2⟩ := (ZY4).out.facts
              go_wp2_with fail
              refine NoPanic.normal ?_
              go_wp2_with fail
              go_meet
              case rel => exact ⟨_, rfl, rfl, Box.stored (OY4).out (ZY4).out, ((HSY4.out.setCell (by exact hge) _).setCell (by exact hge) _).setCell (by exact hge) _⟩
          · skip
            go_simp
            refine hK.out _ _ (HSY1.out.alloc HSY1.out.size _) ?_
            clear hK K
            (try simp only [Act.put, List.setIfInBounds_toArray, List.set_cons_zero, List.set_cons_succ])
            generalize hX : World.alloc Y1 _ = Y2
            have HSY2 : Hid (Below W.heap.size W Y2) := by rw [← hX]; exact HSY1.out.alloc HSY1.out.size _
            have HXY2 : Hid (Below Y1.heap.size Y1 Y2) := by rw [← hX]; exact (Below.refl _ _).alloc (Nat.le_refl _) _
            have ZY2 : Hid (FBlk Y2 Y1.heap.size (.int .i64 0) (.slice none 0 0) (.slice none 0 0)) := by rw [← hX]; exact heap_alloc_new _ _
            clear hX
            refine wpE_br [3] (by kernel_rfl) ?_
            refine AllE.cons rfl rfl (fun K hK => ?_) AllE.nil
            go_simp
            refine (copy_any _ c _ ((HRB).out.below HSY2.out) (HMC).out.n3 (HMC).out.f3).mono ?_
            rintro e Y3 ⟨⟨vcB, rfl, hrc⟩, hb⟩
            obtain ⟨caB, cfB, he, hca, hcf⟩ := id hrc
            subst he
            obtain ⟨_, _, _, rfl, _, _, _, _⟩ := hca.rd.op
            obtain ⟨_, _, _, rfl, _, _, _, _⟩ := hcf.rd.op
            refine hK.out _ _ (bchain HSY2.out hb) ?_
            clear hK K hca hcf
            (try simp only [Act.put, List.setIfInBounds_toArray, List.set_cons_zero, List.set_cons_succ])
            have HSY3 := Lib.hid (bchain HSY2.out hb)
            have HXY3 := Lib.hid hb
            have RBY3 := Lib.hid hrc.rd
            clear hrc hb
            refine wpE_br [4] (by kernel_rfl) ?_
            refine AllE.cons rfl rfl (fun K hK => ?_) AllE.nil
            go_simp
            refine (mcompose_any _ _ (compF a b) c _ ((RAY1.out.below HXY2.out).below HXY3.out) RBY3.out (HMF).out (HMC).out).mono ?_
            rintro e Y4 ⟨⟨vF, rfl, hrc⟩, hb⟩
            obtain ⟨oa, of, he, hca, hcf⟩ := id hrc
            subst he
            obtain ⟨_, _, _, rfl, _, _, _, _⟩ := hca.rd.op
            obtain ⟨_, _, _, rfl, _, _, _, _⟩ := hcf.rd.op
            refine hK.out _ _ (bchain HSY3.out hb) ?_
            clear hK K hca hcf
            (try simp only [Act.put, List.setIfInBounds_toArray, List.set_cons_zero, List.set_cons_succ])
            have HSY4 := Lib.hid (bchain HSY3.out hb)
            have HXY4 := Lib.hid hb
            have OY4 := Lib.hid hrc
            clear hrc hb
            (refine wpE_take 5 (v := ?_) (by kernel_rfl) rfl rfl (by exact HSY4.out) (fun w' hS => ?_) ?_; rotate_left; (focus ((try obtain s0 := HS.out _ (hS rfl)); clear hS; go_simp; try with_reducible rfl; done)); (try simp only [Act.put, List.setIfInBounds_toArray, List.set_cons_zero, List.set_cons_succ]))
            (refine wpE_take 6 (v := ?_) (by kernel_rfl) rfl rfl (by exact HSY4.out) (fun w' hS => ?_) ?_; rotate_left; (focus ((try obtain s0 := HS.out _ (hS rfl)); clear hS; go_simp; try with_reducible rfl; done)); (try simp only [Act.put, List.setIfInBounds_toArray, List.set_cons_zero, List.set_cons_succ]))
            (refine wpE_take 7 (v := ?_) (by kernel_rfl) rfl rfl (by exact HSY4.out) (fun w' hS => ?_) ?_; rotate_left; (focus ((try obtain s0 := HS.out _ (hS rfl)); clear hS; go_simp; try with_reducible rfl; done)); (try simp only [Act.put, List.setIfInBounds_toArray, List.set_cons_zero, List.set_cons_succ]))
            have ZY4 := Lib.hid ((ZY2.out.below HXY3.out).below HXY4.out)
            have hge : W.heap.size ≤ Y1.heap.size := HSY1.out.size
            refine wpE_rest 9 (by kernel_rfl) ?_
            simp only [List.drop_succ_cons, List.drop_zero]
            obtain ⟨r0, r1, r2, f0, f1, f2⟩ := (ZY4).out.facts
            go_wp2_with fail
            refine NoPanic.normal ?_
            go_wp2_with fail
            go_meet
            case rel => exact ⟨_, rfl, rfl, Box.stored (OY4).out (ZY4).out, ((HSY4.out.setCell (by exact hge) _).setCell (by exact hge) _).setCell (by exact hge) _⟩
        · skip
          go_simp
          refine hK.out _ _ (HSD.out.alloc HSD.out.size _) ?_
          clear hK K
          (try simp only [Act.put, List.setIfInBounds_toArray, List.set_cons_zero, List.set_cons_succ])
          generalize hX : World.alloc D _ = Y1
          have HSY1 : Hid (Below W.heap.size W Y1) := by rw [← hX]; exact HSD.out.alloc HSD.out.size _
          have HXY1 : Hid (Below D.heap.size D Y1) := by rw [← hX]; exact (Below.refl _ _).alloc (Nat.le_refl _) _
          have ZY1 : Hid (FBlk Y1 D.heap.size (.int .i64 0) (.slice none 0 0) (.slice none 0 0)) := by rw [← hX]; exact heap_alloc_new _ _
          clear hX
          refine wpE_br [1] (by kernel_rfl) ?_
          refine AllE.cons rfl rfl (fun K hK => ?_) AllE.nil
          go_simp
          refine (copy_any _ (compF a b) _ ((HRA).out.below HSY1.out) (HMF).out.n3 (HMF).out.f3).mono ?_
          rintro e Y2 ⟨⟨vcA, rfl, hrc⟩, hb⟩
          obtain ⟨caA, cfA, he, hca, hcf⟩ := id hrc
          subst he
          obtain ⟨_, _, _, rfl, _, _, _, _⟩ := hca.rd.op
          obtain ⟨_, _, _, rfl, _, _, _, _⟩ := hcf.rd.op
          refine hK.out _ _ (bchain HSY1.out hb) ?_
          clear hK K hca hcf
          (try simp only [Act.put, List.setIfInBounds_toArray, List.set_cons_zero, List.set_cons_succ])
          have HSY2 := Lib.hid (bchain HSY1.out hb)
          have HXY2 := Lib.hid hb
          have RAY2 := Lib.hid hrc.rd
          clear hrc hb
          refine wpE_br [3] (by kernel_rfl) ?_
          refine AllE.cons rfl rfl (fun K hK => ?_) AllE.nil
          go_simp
          refine (copy_any _ c _ ((HRB).out.below HSY2.out) (HMC).out.n3 (HMC).out.f3).mono ?_
          rintro e Y3 ⟨⟨vcB, rfl, hrc⟩, hb⟩
          obtain ⟨caB, cfB, he, hca, hcf⟩ := id hrc
          subst he
          obtain ⟨_, _, _, rfl, _, _, _, _⟩ := hca.rd.op
          obtain ⟨_, _, _, rfl, _, _, _, _⟩ := hcf.rd.op
          refine hK.out _ _ (bchain HSY2.out hb) ?_
          clear hK K hca hcf
          (try simp only [Act.put, List.setIfInBounds_toArray, List.set_cons_zero, List.set_cons_succ])
          have HSY3 := Lib.hid (bchain HSY2.out hb)
          have HXY3 := Lib.hid hb
          have RBY3 := Lib.hid hrc.rd
          clear hrc hb
          refine wpE_br [4] (by kernel_rfl) ?_
          refine AllE.cons rfl rfl (fun K hK => ?_) AllE.nil
          go_simp
          refine (mcompose_any _ _ (compF a b) c _ (RAY2.out.below HXY3.out) RBY3.out (HMF).out (HMC).out).mono ?_
          rintro e Y4 ⟨⟨vF, rfl, hrc⟩, hb⟩
          obtain ⟨oa, of, he, hca, hcf⟩ := id hrc
          subst he
          obtain ⟨_, _, _, rfl, _, _, _, _⟩ := hca.rd.op
          obtain ⟨_, _, _, rfl, _, _, _, _⟩ := hcf.rd.op
          refine hK.out _ _ (bchain HSY3.out hb) ?_
          clear hK K hca hcf
          (try simp only [Act.put, List.setIfInBounds_toArray, List.set_cons_zero, List.set_cons_succ])
          have HSY4 := Lib.hid (bchain HSY3.out hb)
          have HXY4 := Lib.hid hb
          have OY4 := Lib.hid hrc
          clear hrc hb
          (refine wpE_take 5 (v := ?_) (by kernel_rfl) rfl rfl (by exact HSY4.out) (fun w' hS => ?_) ?_; rotate_left; (focus ((try obtain s0 := HS.out _ (hS rfl)); clear hS; go_simp; try with_reducible rfl; done)); (try simp only [Act.put, List.setIfInBounds_toArray, List.set_cons_zero, List.set_cons_succ]))
          (refine wpE_take 6 (v := ?_) (by kernel_rfl) rfl rfl (by exact HSY4.out) (fun w' hS => ?_) ?_; rotate_left; (focus ((try obtain s0 := HS.out _ (hS rfl)); clear hS; go_simp; try with_reducible rfl; done)); (try simp only [Act.put, List.setIfInBounds_toArray, List.set_cons_zero, List.set_cons_succ]))
          (refine wpE_take 7 (v := ?_) (by kernel_rfl) rfl rfl (by exact HSY4.out) (fun w' hS => ?_) ?_; rotate_left; (focus ((try obtain s0 := HS.out _ (hS rfl)); clear hS; go_simp; try with_reducible rfl; done)); (try simp only [Act.put, List.setIfInBounds_toArray, List.set_cons_zero, List.set_cons_succ]))
          have ZY4 := Lib.hid (((ZY1.out.below HXY2.out).below HXY3.out).below HXY4.out)
          have hge : W.heap.size ≤ D.heap.size := HSD.out.size
          refine wpE_rest 9 (by kernel_rfl) ?_
          simp only [List.drop_succ_cons, List.drop_zero]
          obtain ⟨r0, r1, r2, f0, f1, f2⟩ := (ZY4).out.facts
          go_wp2_with fail
          refine NoPanic.normal ?_
          go_wp2_with fail
          go_meet
          case rel => exact ⟨_, rfl, rfl, Box.stored (OY4).out (ZY4).out, ((HSY4.out.setCell (by exact hge) _).setCell (by exact hge) _).setCell (by exact hge) _⟩
      case rest =>
        obtain ⟨gl, rfl, rfl, BL, HBC⟩ := hcut
        have HBW := Lib.hid (bchain HBW.out (HBC).out)
        have BA := Lib.hid (BA.out.below (HBC).out)
        have BB := Lib.hid (BB.out.below (HBC).out)
        have BC := Lib.hid (BC.out.below (HBC).out)
        have HT := Lib.hid (HT.out.below (HBC).out)
        have HX := Lib.hid (HX.out.below (HBC).out)
        have BG := Lib.hid (BG.out.below HBC.out)
        clear HBC
        go_upto_region 8 with (fail)
        obtain ⟨W, rfl⟩ : ∃ W' : World, W' = wc := ⟨_, rfl⟩
        go_cut [15, 16] (fun s7 s8 wx => ∃ g : Nat, s7 = .pointer (some ⟨g, 0, none⟩) ∧ s8 = .int .i64 0 ∧ Hid (Box wx g (compF a (compF b c))) ∧ Hid (Below W.heap.size W wx))
        case first =>
          obtain ⟨A1, n1, c1, A2, n2, c2, p0, p1, p2, hg1, HRA⟩ := (BA).out.open
          obtain ⟨B1, m1, d1, B2, m2, d2, q0, q1, q2, hg2, HRB⟩ := (BG).out.open
          have HS := Lib.hid (fun (w' : World) (h : Below W.heap.size W w') => And.intro ((h.cell hg1).trans p0) (And.intro ((h.cell hg1).trans p1) (And.intro ((h.cell hg1).trans p2) (And.intro ((h.cell hg2).trans q0) (And.intro ((h.cell hg2).trans q1) ((h.cell hg2).trans q2))))))
          clear p0 p1 p2 q0 q1 q2
          refine wp_region_steps 11 9 [0, 1, 2, 3, 4, 5, 6, 8] [7] (fun w' => Below W.heap.size W w') (by kernel_rfl) (by kernel_rfl) ?_
          rintro D hD
          have HSD : Hid (Below W.heap.size W D) := by rw [hD]; exact (Below.refl _ _).drew
          clear hD
          (refine wpE_take 0 (v := ?_) (by kernel_rfl) rfl rfl (by exact HSD.out) (fun w' hS => ?_) ?_; rotate_left; (focus ((try obtain ⟨s0, s1, s2, s3, s4, s5⟩ := HS.out _ (hS rfl)); clear hS; go_simp; try with_reducible rfl; done)); (try simp only [Act.put, List.setIfInBounds_toArray, List.set_cons_zero, List.set_cons_succ]))
          (refine wpE_take 2 (v := ?_) (by kernel_rfl) rfl rfl (by exact HSD.out) (fun w' hS => ?_) ?_; rotate_left; (focus ((try obtain ⟨s0, s1, s2, s3, s4, s5⟩ := HS.out _ (hS rfl)); clear hS; go_simp; try with_reducible rfl; done)); (try simp only [Act.put, List.setIfInBounds_toArray, List.set_cons_zero, List.set_cons_succ]))
          refine wpE_br [1, 8] (by kernel_rfl) ?_
          refine AllE.cons rfl rfl (fun K hK => ?_) (AllE.cons rfl rfl (fun K hK => ?_) AllE.nil)
          · skip
            go_simp
            refine (copy_any _ a _ ((HRA).out.below HSD.out) (HMA).out.n3 (HMA).out.f3).mono ?_
            rintro e Y1 ⟨⟨vcA, rfl, hrc⟩, hb⟩
            obtain ⟨caA, cfA, he, hca, hcf⟩ := id hrc
            subst he
            obtain ⟨_, _, _, rfl, _, _, _, _⟩ := hca.rd.op
            obtain ⟨_, _, _, rfl, _, _, _, _⟩ := hcf.rd.op
            refine hK.out _ _ (bchain HSD.out hb) ?_
            clear hK K hca hcf
            (try simp only [Act.put, List.setIfInBounds_toArray, List.set_cons_zero, List.set_cons_succ])
            have HSY1 := Lib.hid (bchain HSD.out hb)
            have HXY1 := Lib.hid hb
            have RAY1 := Lib.hid hrc.rd
            clear hrc hb
            refine wpE_br [3, 8] (by kernel_rfl) ?_
            refine AllE.cons rfl rfl (fun K hK => ?_) (AllE.cons rfl rfl (fun K hK => ?_) AllE.nil)
            · skip
              go_simp
              refine (copy_any _ (compF b c) _ ((HRB).out.below HSY1.out) (HMG).out.n3 (HMG).out.f3).mono ?_
              rintro e Y2 ⟨⟨vcB, rfl, hrc⟩, hb⟩
              obtain ⟨caB, cfB, he, hca, hcf⟩ := id hrc
              subst he
              obtain ⟨_, _, _, rfl, _, _, _, _⟩ := hca.rd.op
              obtain ⟨_, _, _, rfl, _, _, _, _⟩ := hcf.rd.op
              refine hK.out _ _ (bchain HSY1.out hb) ?_
              clear hK K hca hcf
              (try simp only [Act.put, List.setIfInBounds_toArray, List.set_cons_zero, List.set_cons_succ])
              have HSY2 := Lib.hid (bchain HSY1.out hb)
              have HXY2 := Lib.hid hb
              have RBY2 := Lib.hid hrc.rd
              clear hrc hb
              refine wpE_br [4, 8] (by kernel_rfl) ?_
              refine AllE.cons rfl rfl (fun K hK => ?_) (AllE.cons rfl rfl (fun K hK => ?_) AllE.nil)
              · skip
                go_simp
                refine (mcompose_any _ _ a (compF b c) _ (RAY1.out.below HXY2.out) RBY2.out (HMA).out (HMG).out).mono ?_
                rintro e Y3 ⟨⟨vF, rfl, hrc⟩, hb⟩
                obtain ⟨oa, of, he, hca, hcf⟩ := id hrc
                subst he
                obtain ⟨_, _, _, rfl, _, _, _, _⟩ := hca.rd.op
                obtain ⟨_, _, _, rfl, _, _, _, _⟩ := hcf.rd.op
                refine hK.out _ _ (bchain HSY2.out hb) ?_
                clear hK K hca hcf
                (try simp only [Act.put, List.setIfInBounds_toArray, List.set_cons_zero, List.set_cons_succ])
                have HSY3 := Lib.hid (bchain HSY2.out hb)
                have HXY3 := Lib.hid hb
                have OY3 := Lib.hid hrc
                clear hrc hb
                (refine wpE_take 5 (v := ?_) (by kernel_rfl) rfl rfl (by exact HSY3.out) (fun w' hS => ?_) ?_; rotate_left; (focus ((try obtain s0 := HS.out _ (hS rfl)); clear hS; go_simp; try with_reducible rfl; done)); (try simp only [Act.put, List.setIfInBounds_toArray, List.set_cons_zero, List.set_cons_succ]))
                (refine wpE_take 6 (v := ?_) (by kernel_rfl) rfl rfl (by exact HSY3.out) (fun w' hS => ?_) ?_; rotate_left; (focus ((try obtain s0 := HS.out _ (hS rfl)); clear hS; go_simp; try with_reducible rfl; done)); (try simp only [Act.put, List.setIfInBounds_toArray, List.set_cons_zero, List.set_cons_succ]))
                (refine wpE_take 7 (v := ?_) (by kernel_rfl) rfl rfl (by exact HSY3.out) (fun w' hS => ?_) ?_; rotate_left; (focus ((try obtain s0 := HS.out _ (hS rfl)); clear hS; go_simp; try with_reducible rfl; done)); (try simp only [Act.put, List.setIfInBounds_toArray, List.set_cons_zero, List.set_cons_succ]))
                refine wpE_br [8] (by kernel_rfl) ?_
                refine AllE.cons rfl rfl (fun K hK => ?_) AllE.nil
                go_simp
                refine hK.out _ _ (HSY3.out.alloc HSY3.out.size _) ?_
                clear hK K
                (try simp only [Act.put, List.setIfInBounds_toArray, List.set_cons_zero, List.set_cons_succ])
                generalize hX : World.alloc Y3 _ = Y4
                have HSY4 : Hid (Below W.heap.size W Y4) := by rw [← hX]; exact HSY3.out.alloc HSY3.out.size _
                have HXY4 : Hid (Below Y3.heap.size Y3 Y4) := by rw [← hX]; exact (Below.refl _ _).alloc (Nat.le_refl _) _
                have ZY4 : Hid (FBlk Y4 Y3.heap.size (.int .i64 0) (.slice none 0 0) (.slice none 0 0)) := by rw [← hX]; exact heap_alloc_new _ _
                clear hX
                have OY4 := Lib.hid (OY3.out.below HXY4.out)
                have hge : W.heap.size ≤ Y3.heap.size := HSY3.out.size
                refine wpE_rest 9 (by kernel_rfl) ?_
                simp only [List.drop_succ_cons, List.drop_zero]
                obtain ⟨r0, r1, r2, f0, f1, f2⟩ := (ZY4).out.facts
                go_wp2_with fail
                refine NoPanic.normal ?_
                go_wp2_with fail
                go_meet
                case rel => exact ⟨_, rfl, rfl, Box.stored (OY4).out (ZY4).out, ((HSY4.out.setCell (by exact hge) _).setCell (by exact hge) _).setCell (by exact hge) _⟩
              · skip
                go_simp
                refine hK.out _ _ (HSY2.out.alloc HSY2.out.size _) ?_
                clear hK K
                (try simp only [Act.put, List.setIfInBounds_toArray, List.set_cons_zero, List.set_cons_succ])
                generalize hX : World.alloc Y2 _ = Y3
                have HSY3 : Hid (Below W.heap.size W Y3) := by rw [← hX]; exact HSY2.out.alloc HSY2.out.size _
                have HXY3 : Hid (Below Y2.heap.size Y2 Y3) := by rw [← hX]; exact (Below.refl _ _).alloc (Nat.le_refl _) _
                have ZY3 : Hid (FBlk Y3 Y2.heap.size (.int .i64 0) (.slice none 0 0) (.slice none 0 0)) := by rw [← hX]; exact heap_alloc_new _ _
                clear hX
                refine wpE_br [4] (by kernel_rfl) ?_
                refine AllE.cons rfl rfl (fun K hK => ?_) AllE.nil
                go_simp
                refine (mcompose_any _ _ a (compF b c) _ ((RAY1.out.below HXY2.out).below HXY3.out) (RBY2.out.below HXY3.out) (HMA).out (HMG).out).mono ?_
                rintro e Y4 ⟨⟨vF, rfl, hrc⟩, hb⟩
                obtain ⟨oa, of, he, hca, hcf⟩ := id hrc
                subst he
                obtain ⟨_, _, _, rfl, _, _, _, _⟩ := hca.rd.op
                obtain ⟨_, _, _, rfl, _, _, _, _⟩ := hcf.rd.op
                refine hK.out _ _ (bchain HSY3.out hb) ?_
                clear hK K hca hcf
                (try simp only [Act.put, List.setIfInBounds_toArray, List.set_cons_zero, List.set_cons_succ])
                have HSY4 := Lib.hid (bchain HSY3.out hb)
                have HXY4 := Lib.hid hb
                have OY4 := Lib.hid hrc
                clear hrc hb
                (refine wpE_take 5 (v := ?_) (by kernel_rfl) rfl rfl (by exact HSY4.out) (fun w' hS => ?_) ?_; rotate_left; (focus ((try obtain s0 := HS.out _ (hS rfl)); clear hS; go_simp; try with_reducible rfl; done)); (try simp only [Act.put, List.setIfInBounds_toArray, List.set_cons_zero, List.set_cons_succ]))
                (refine wpE_take 6 (v := ?_) (by kernel_rfl) rfl rfl (by exact HSY4.out) (fun w' hS => ?_) ?_; rotate_left; (focus ((try obtain s0 := HS.out _ (hS rfl)); clear hS; go_simp; try with_reducible rfl; done)); (try simp only [Act.put, List.setIfInBounds_toArray, List.set_cons_zero, List.set_cons_succ]))
                (refine wpE_take 7 (v := ?_) (by kernel_rfl) rfl rfl (by exact HSY4.out) (fun w' hS => ?_) ?_; rotate_left; (focus ((try obtain s0 := HS.out _ (hS rfl)); clear hS; go_simp; try with_reducible rfl; done)); (try simp only [Act.put, List.setIfInBounds_toArray, List.set_cons_zero, List.set_cons_succ]))
                have ZY4 := Lib.hid (ZY3.out.below HXY4.out)
                have hge : W.heap.size ≤ Y2.heap.size := HSY2.out.size
                refine wpE_rest 9 (by kernel_rfl) ?_
                simp only [List.drop_succ_cons, List.drop_zero]
                obtain ⟨r0, r1, r2, f0, f1, f2⟩ := (ZY4).out.facts
                go_wp2_with fail
                refine NoPanic.normal ?_
                go_wp2_with fail
                go_meet
                case rel => exact ⟨_, rfl, rfl, Box.stored (OY4).out (ZY4).out, ((HSY4.out.setCell (by exact hge) _).setCell (by exact hge) _).setCell (by exact hge) _⟩
            · skip
              go_simp
              refine hK.out _ _ (HSY1.out.alloc HSY1.out.size _) ?_
              clear hK K
              (try simp only [Act.put, List.setIfInBounds_toArray, List.set_cons_zero, List.set_cons_succ])
              generalize hX : World.alloc Y1 _ = Y2
              have HSY2 : Hid (Below W.heap.size W Y2) := by rw [← hX]; exact HSY1.out.alloc HSY1.out.size _
              have HXY2 : Hid (Below Y1.heap.size Y1 Y2) := by rw [← hX]; exact (Below.refl _ _).alloc (Nat.le_refl _) _
              have ZY2 : Hid (FBlk Y2 Y1.heap.size (.int .i64 0) (.slice none 0 0) (.slice none 0 0)) := by rw [← hX]; exact heap_alloc_new _ _
              clear hX
              refine wpE_br [3] (by kernel_rfl) ?_
              refine AllE.cons rfl rfl (fun K hK => ?_) AllE.nil
              go_simp
              refine (copy_any _ (compF b c) _ ((HRB).out.below HSY2.out) (HMG).out.n3 (HMG).out.f3).mono ?_
              rintro e Y3 ⟨⟨vcB, rfl, hrc⟩, hb⟩
              obtain ⟨caB, cfB, he, hca, hcf⟩ := id hrc
              subst he
              obtain ⟨_, _, _, rfl, _, _, _, _⟩ := hca.rd.op
              obtain ⟨_, _, _, rfl, _, _, _, _⟩ := hcf.rd.op
              refine hK.out _ _ (bchain HSY2.out hb) ?_
              clear hK K hca hcf
              (try simp only [Act.put, List.setIfInBounds_toArray, List.set_cons_zero, List.set_cons_succ])
              have HSY3 := Lib.hid (bchain HSY2.out hb)
              have HXY3 := Lib.hid hb
              have RBY3 := Lib.hid hrc.rd
              clear hrc hb
              refine wpE_br [4] (by kernel_rfl) ?_
              refine AllE.cons rfl rfl (fun K hK => ?_) AllE.nil
              go_simp
              refine (mcompose_any _ _ a (compF b c) _ ((RAY1.out.below HXY2.out).below HXY3.out) RBY3.out (HMA).out (HMG).out).mono ?_
              rintro e Y4 ⟨⟨vF, rfl, hrc⟩, hb⟩
              obtain ⟨oa, of, he, hca, hcf⟩ := id hrc
              subst he
              obtain ⟨_, _, _, rfl, _, _, _, _⟩ := hca.rd.op
              obtain ⟨_, _, _, rfl, _, _, _, _⟩ := hcf.rd.op
              refine hK.out _ _ (bchain HSY3.out hb) ?_
              clear hK K hca hcf
              (try simp only [Act.put, List.setIfInBounds_toArray, List.set_cons_zero, List.set_cons_succ])
              have HSY4 := Lib.hid (bchain HSY3.out hb)
              have HXY4 := Lib.hid hb
              have OY4 := Lib.hid hrc
              clear hrc hb
              (refine wpE_take 5 (v := ?_) (by kernel_rfl) rfl rfl (by exact HSY4.out) (fun w' hS => ?_) ?_; rotate_left; (focus ((try obtain s0 := HS.out _ (hS rfl)); clear hS; go_simp; try with_reducible rfl; done)); (try simp only [Act.put, List.setIfInBounds_toArray, List.set_cons_zero, List.set_cons_succ]))
              (refine wpE_take 6 (v := ?_) (by kernel_rfl) rfl rfl (by exact HSY4.out) (fun w' hS => ?_) ?_; rotate_left; (focus ((try obtain s0 := HS.out _ (hS rfl)); clear hS; go_simp; try with_reducible rfl; done)); (try simp only [Act.put, List.setIfInBounds_toArray, List.set_cons_zero, List.set_cons_succ]))
              (refine wpE_take 7 (v := ?_) (by kernel_rfl) rfl rfl (by exact HSY4.out) (fun w' hS => ?_) ?_; rotate_left; (focus ((try obtain s0 := HS.out _ (hS rfl)); clear hS; go_simp; try with_reducible rfl; done)); (try simp only [Act.put, List.setIfInBounds_toArray, List.set_cons_zero, List.set_cons_succ]))
              have ZY4 := Lib.hid ((ZY2.out.below HXY3.out).below HXY4.out)
              have hge : W.heap.size ≤ Y1.heap.size := HSY1.out.size
              refine wpE_rest 9 (by kernel_rfl) ?_
              simp only [List.drop_succ_cons, List.drop_zero]
              obtain ⟨r0, r1, r2, f0, f1, f2⟩ := (ZY4).out.facts
              go_wp2_with fail
              refine NoPanic.normal ?_
              go_wp2_with fail
              go_meet
              case rel => exact ⟨_, rfl, rfl, Box.stored (OY4).out (ZY4).out, ((HSY4.out.setCell (by exact hge) _).setCell (by exact hge) _).setCell (by exact hge) _⟩
          · skip
            go_simp
            refine hK.out _ _ (HSD.out.alloc HSD.out.size _) ?_
            clear hK K
            (try simp only [Act.put, List.setIfInBounds_toArray, List.set_cons_zero, List.set_cons_succ])
            generalize hX : World.alloc D _ = Y1
            have HSY1 : Hid (Below W.heap.size W Y1) := by rw [← hX]; exact HSD.out.alloc HSD.out.size _
            have HXY1 : Hid (Below D.heap.size D Y1) := by rw [← hX]; exact (Below.refl _ _).alloc (Nat.le_refl _) _
            have ZY1 : Hid (FBlk Y1 D.heap.size (.int .i64 0) (.slice none 0 0) (.slice none 0 0)) := by rw [← hX]; exact heap_alloc_new _ _
            clear hX
            refine wpE_br [1] (by kernel_rfl) ?_
            refine AllE.cons rfl rfl (fun K hK => ?_) AllE.nil
            go_simp
            refine (copy_any _ a _ ((HRA).out.below HSY1.out) (HMA).out.n3 (HMA).out.f3).mono ?_
            rintro e Y2 ⟨⟨vcA, rfl, hrc⟩, hb⟩
            obtain ⟨caA, cfA, he, hca, hcf⟩ := id hrc
            subst he
            obtain ⟨_, _, _, rfl, _, _, _, _⟩ := hca.rd.op
            obtain ⟨_, _, _, rfl, _, _, _, _⟩ := hcf.rd.op
            refine hK.out _ _ (bchain HSY1.out hb) ?_
            clear hK K hca hcf
            (try simp only [Act.put, List.setIfInBounds_toArray, List.set_cons_zero, List.set_cons_succ])
            have HSY2 := Lib.hid (bchain HSY1.out hb)
            have HXY2 := Lib.hid hb
            have RAY2 := Lib.hid hrc.rd
            clear hrc hb
            refine wpE_br [3] (by kernel_rfl) ?_
            refine AllE.cons rfl rfl (fun K hK => ?_) AllE.nil
            go_simp
            refine (copy_any _ (compF b c) _ ((HRB).out.below HSY2.out) (HMG).out.n3 (HMG).out.f3).mono ?_
            rintro e Y3 ⟨⟨vcB, rfl, hrc⟩, hb⟩
            obtain ⟨caB, cfB, he, hca, hcf⟩ := id hrc
            subst he
            obtain ⟨_, _, _, rfl, _, _, _, _⟩ := hca.rd.op
            obtain ⟨_, _, _, rfl, _, _, _, _⟩ := hcf.rd.op
            refine hK.out _ _ (bchain HSY2.out hb) ?_
            clear hK K hca hcf
            (try simp only [Act.put, List.setIfInBounds_toArray, List.set_cons_zero, List.set_cons_succ])
            have HSY3 := Lib.hid (bchain HSY2.out hb)
            have HXY3 := Lib.hid hb
            have RBY3 := Lib.hid hrc.rd
            clear hrc hb
            refine wpE_br [4] (by kernel_rfl) ?_
            refine AllE.cons rfl rfl (fun K hK => ?_) AllE.nil
            go_simp
            refine (mcompose_any _ _ a (compF b c) _ (RAY2.out.below HXY3.out) RBY3.out (HMA).out (HMG).out).mono ?_
            rintro e Y4 ⟨⟨vF, rfl, hrc⟩, hb⟩
            obtain ⟨oa, of, he, hca, hcf⟩ := id hrc
            subst he
            obtain ⟨_, _, _, rfl, _, _, _, _⟩ := hca.rd.op
            obtain ⟨_, _, _, rfl, _, _, _, _⟩ := hcf.rd.op
            refine hK.out _ _ (bchain HSY3.out hb) ?_
            clear hK K hca hcf
            (try simp only [Act.put, List.setIfInBounds_toArray, List.set_cons_zero, List.set_cons_succ])
            have HSY4 := Lib.hid (bchain HSY3.out hb)
            have HXY4 := Lib.hid hb
            have OY4 := Lib.hid hrc
            clear hrc hb
            (refine wpE_take 5 (v := ?_) (by kernel_rfl) rfl rfl (by exact HSY4.out) (fun w' hS => ?_) ?_; rotate_left; (focus ((try obtain s0 := HS.out _ (hS rfl)); clear hS; go_simp; try with_reducible rfl; done)); (try simp only [Act.put, List.setIfInBounds_toArray, List.set_cons_zero, List.set_cons_succ]))
            (refine wpE_take 6 (v := ?_) (by kernel_rfl) rfl rfl (by exact HSY4.out) (fun w' hS => ?_) ?_; rotate_left; (focus ((try obtain s0 := HS.out _ (hS rfl)); clear hS; go_simp; try with_reducible rfl; done)); (try simp only [Act.put, List.setIfInBounds_toArray, List.set_cons_zero, List.set_cons_succ]))
            (refine wpE_take 7 (v := ?_) (by kernel_rfl) rfl rfl (by exact HSY4.out) (fun w' hS => ?_) ?_; rotate_left; (focus ((try obtain s0 := HS.out _ (hS rfl)); clear hS; go_simp; try with_reducible rfl; done)); (try simp only [Act.put, List.setIfInBounds_toArray, List.set_cons_zero, List.set_cons_succ]))
            have ZY4 := Lib.hid (((ZY1.out.below HXY2.out).below HXY3.out).below HXY4.out)
            have hge : W.heap.size ≤ D.heap.size := HSD.out.size
            refine wpE_rest 9 (by kernel_rfl) ?_
            simp only [List.drop_succ_cons, List.drop_zero]
            obtain ⟨r0, r1, r2, f0, f1, f2⟩ := (ZY4).out.facts
            go_wp2_with fail
            refine NoPanic.normal ?_
            go_wp2_with fail
            go_meet
            case rel => exact ⟨_, rfl, rfl, Box.stored (OY4).out (ZY4).out, ((HSY4.out.setCell (by exact hge) _).setCell (by exact hge) _).setCell (by exact hge) _⟩
        case rest =>
          obtain ⟨gr, rfl, rfl, BR, HBC⟩ := hcut
          have HBW := Lib.hid (bchain HBW.out (HBC).out)
          have BA := Lib.hid (BA.out.below (HBC).out)
          have BB := Lib.hid (BB.out.below (HBC).out)
          have BC := Lib.hid (BC.out.below (HBC).out)
          have HT := Lib.hid (HT.out.below (HBC).out)
          have HX := Lib.hid (HX.out.below (HBC).out)
          have BL := Lib.hid (BL.out.below HBC.out)
          clear HBC
          go_wp2_with fail
          obtain ⟨W, rfl⟩ : ∃ W' : World, W' = wc := ⟨_, rfl⟩
          obtain ⟨A1, n1, c1, A2, n2, c2, p0, p1, p2, hg1, HRA⟩ := BL.out.open
          obtain ⟨B1, m1, d1, B2, m2, d2, q0, q1, q2, hg2, HRB⟩ := BR.out.open
          have HGL := Lib.hid (mid_good HMF.out HMC.out)
          have HGR := Lib.hid (mid_good HMA.out HMG.out)
          have HACC := Lib.hid (order_same HMA.out HMB.out HMC.out HMF.out HMG.out xs ys)
          obtain ⟨L, hL⟩ : ∃ L, compF (compF a b) c = L := ⟨_, rfl⟩
          obtain ⟨R, hR⟩ : ∃ R, compF a (compF b c) = R := ⟨_, rfl⟩
          rw [hL] at HRA HGL HACC p0
          rw [hR] at HRB HGR HACC q0
          clear hL hR
          have HS := Lib.hid (fun (w' : World) (h : Below W.heap.size W w') => And.intro (And.intro ((h.cell hg1).trans p0) (And.intro ((h.cell hg1).trans p1) ((h.cell hg1).trans p2))) (And.intro (And.intro ((h.cell hg2).trans q0) (And.intro ((h.cell hg2).trans q1) ((h.cell hg2).trans q2))) (And.intro (HT.out.below h).facts.1 (HT.out.below h).facts.2.1)))
          clear p0 p1 p2 q0 q1 q2
          obtain ⟨bb, hbb⟩ : ∃ bb, accB R xs ys = bb := ⟨_, rfl⟩
          have HAR := Lib.hid hbb
          have HAL : Hid (accB L xs ys = bb) := HACC.out.trans hbb
          clear hbb HACC
          have HBB := HBW
          cases bb
          all_goals
            refine wp_region_mix 17 [0, 1, 2, 3, 4, 5, 6, 7, 8, 9, 10, 11, 12, 13, 14, 15, 16] [] [(true, 0), (true, 1), (true, 2), (true, 4), (true, 5), (true, 6), (false, 3), (false, 7), (true, 8), (true, 9), (true, 10), (true, 11), (true, 12), (true, 14), (true, 15), (true, 16), (false, 13), (false, 17), (false, 18), (false, 19), (false, 20), (false, 21), (false, 22), (false, 23), (false, 24), (false, 25), (false, 26), (false, 27), (false, 28), (false, 29), (false, 30), (false, 31)] (fun w' => Below W.heap.size W w') (by kernel_rfl) (by kernel_rfl) ?_
            rintro D hD
            have HSD : Hid (Below W.heap.size W D) := by rw [hD]; exact (Below.refl _ _).drew
            clear hD
            refine ⟨HSD.out, ?_⟩
            iterate 6 (refine wpMix_q (v := ?_) rfl rfl (fun w' hS => ?_) ?_; rotate_left; (focus ((try obtain ⟨⟨s0, s1, s2⟩, ⟨s3, s4, s5⟩, s6, s7⟩ := HS.out _ (hS rfl)); clear hS; go_simp; try with_reducible rfl; done)); (try simp only [Act.put, List.setIfInBounds_toArray, List.set_cons_zero, List.set_cons_succ]))
            refine wpMix_e rfl rfl (fun K hK => ?_)
            go_simp
            refine (takes_any _ _ L xs ys _ _ (HRA.out.below HSD.out) (HX.out.below HSD.out) HGL.out (le4 HSH.out.1) (le4 HSH.out.2)).mono ?_
            rintro e Y1 ⟨rfl, hb⟩
            refine hK.out _ _ (fun _ => bchain HSD.out hb) ?_
            clear hK K
            (try simp only [Act.put, List.setIfInBounds_toArray, List.set_cons_zero, List.set_cons_succ])
            have HSY1 := Lib.hid (bchain HSD.out hb)
            clear hb
            rw [HAL.out]
            refine wpMix_e rfl rfl (fun K hK => ?_)
            go_simp
            refine (takes_any _ _ R xs ys _ _ (HRB.out.below HSY1.out) (HX.out.below HSY1.out) HGR.out (le4 HSH.out.1) (le4 HSH.out.2)).mono ?_
            rintro e Y2 ⟨rfl, hb⟩
            refine hK.out _ _ (fun _ => bchain HSY1.out hb) ?_
            clear hK K
            (try simp only [Act.put, List.setIfInBounds_toArray, List.set_cons_zero, List.set_cons_succ])
            have HSY2 := Lib.hid (bchain HSY1.out hb)
            clear hb
            rw [HAR.out]
            iterate 8 (refine wpMix_q (v := ?_) rfl rfl (fun w' hS => ?_) ?_; rotate_left; (focus ((try obtain ⟨⟨s0, s1, s2⟩, ⟨s3, s4, s5⟩, s6, s7⟩ := HS.out _ (hS rfl)); clear hS; go_simp; try with_reducible rfl; done)); (try simp only [Act.put, List.setIfInBounds_toArray, List.set_cons_zero, List.set_cons_succ]))
            refine wpMix_e rfl rfl (fun K hK => ?_)
            go_simp
            refine (takes_any _ _ L xs ys _ _ (HRA.out.below HSY2.out) (HX.out.below HSY2.out) HGL.out (le4 HSH.out.1) (le4 HSH.out.2)).mono ?_
            rintro e Y3 ⟨rfl, hb⟩
            refine hK.out _ _ (fun _ => bchain HSY2.out hb) ?_
            clear hK K
            (try simp only [Act.put, List.setIfInBounds_toArray, List.set_cons_zero, List.set_cons_succ])
            have HSY3 := Lib.hid (bchain HSY2.out hb)
            clear hb
            rw [HAL.out]
            refine wpMix_e rfl rfl (fun K hK => ?_)
            go_simp
            refine (takes_any _ _ R xs ys _ _ (HRB.out.below HSY3.out) (HX.out.below HSY3.out) HGR.out (le4 HSH.out.1) (le4 HSH.out.2)).mono ?_
            rintro e Y4 ⟨rfl, hb⟩
            refine hK.out _ _ (fun h => absurd h (by decide)) ?_
            clear hK K
            (try simp only [Act.put, List.setIfInBounds_toArray, List.set_cons_zero, List.set_cons_succ])
            have HSY4 := Lib.hid (bchain HSY3.out hb)
            clear hb
            rw [HAR.out]
            iterate 11 (refine wpMix_e rfl rfl (fun K hK => ?_); go_simp; refine hK.out _ _ (fun h => absurd h (by decide)) ?_; clear hK K; (try simp only [Act.put, List.setIfInBounds_toArray, List.set_cons_zero, List.set_cons_succ]))
            refine wpMix_e rfl rfl (fun K hK => ?_)
            go_simp
            refine (awake_any _).mono ?_
            rintro e Y9 ⟨rfl, hb⟩
            refine hK.out _ _ (fun h => absurd h (by decide)) ?_
            clear hK K
            (try simp only [Act.put, List.setIfInBounds_toArray, List.set_cons_zero, List.set_cons_succ])
            have HSY9 := Lib.hid (bchain HSY4.out hb)
            clear hb
            (refine wpMix_e rfl rfl (fun K hK => ?_); go_simp; refine hK.out _ _ (fun h => absurd h (by decide)) ?_; clear hK K; (try simp only [Act.put, List.setIfInBounds_toArray, List.set_cons_zero, List.set_cons_succ]))
            (refine wpMix_e rfl rfl (fun K hK => ?_); go_simp; refine hK.out _ _ (fun h => absurd h (by decide)) ?_; clear hK K; (try simp only [Act.put, List.setIfInBounds_toArray, List.set_cons_zero, List.set_cons_succ]))
            refine wpMix_nil ?_
            refine NoPanic.normal ?_
            go_wp2_with fail
            go_ret
            exact ⟨rfl, bchain HBB.out HSY9.out⟩
end Go.Proofs.Ytmeppkkoepmlnaa
