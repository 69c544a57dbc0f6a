/-
  FstopsStar: the walk.
-/
import Derived.Test.YtmeppkkoepmlnaaT33
namespace Go.Proofs.Ytmeppkkoepmlnaa
open Go.ChangeShapes Go.WideShapes Go.ChangeAt Go.RowKit
theorem star_nine {xs ys : List Int} (h : xs.length ≤ 4 ∧ ys.length ≤ 4) : xs.length + ys.length < 9 := by omega
theorem star_small {a : PFst} (ha : LightOk a) : fullB [a] = false := by
  have := ha.s; have := ha.n
  simp [fullB, sumS, sumA]; omega
set_option maxHeartbeats 4000000 in
set_option maxRecDepth 100000 in
theorem star_walk (v x : Value) (a : PFst) (xs ys : List Int) (w : World) (hv : RdF w v a) (hx : RdT w x xs ys) :
    Calls Try.prog 5 #[v, x] w fun e w' => e = .returned (.bool true) ∧ Below w.heap.size w w' := by
  obtain ⟨va, vf, rfl, ha, hf⟩ := id hv
  obtain ⟨A1, n1, c1, rfl, _, _, _, _⟩ := ha.op
  obtain ⟨A2, n2, c2, rfl, _, _, _, _⟩ := hf.op
  obtain ⟨vx, vy, rfl, hx1, hx2⟩ := id hx
  obtain ⟨X1, k1, e1, rfl, _, _, _, _⟩ := hx1.op
  obtain ⟨X2, k2, e2, rfl, _, _, _, _⟩ := hx2.op
  have HV := Lib.hid hv
  have HX := Lib.hid hx
  have HX1 := Lib.hid hx1
  have HX2 := Lib.hid hx2
  clear ha hf hx1 hx2 hv hx
  go_enter Try.func5, Try.ntmps5
  go_wp2_with fail
  generalize hW : World.alloc (World.alloc w _) _ = W
  have HP1 : Hid (FBlk W w.heap.size (.int .i64 a.states) (.slice A1 n1 c1) (.slice A2 n2 c2)) := by
    rw [← hW]; exact (Below.heap_alloc _ _ _ (by first | omega | (simp; done) | (simp; omega))).trans (heap_alloc_new w _)
  have HP3 : Hid (TBlk W (w.heap.size + 1) (.slice X1 k1 e1) (.slice X2 k2 e2)) := by
    rw [Hid, TBlk, ← hW]
    have := heap_alloc_new (w.alloc (.cells #[.int .i64 a.states, .slice A1 n1 c1, .slice A2 n2 c2] 29)) (.cells #[.slice X1 k1 e1, .slice X2 k2 e2] 24)
    simpa using this
  have HBW : Hid (Below w.heap.size w W) := by rw [← hW]; repeat (first | assumption | exact Below.refl _ _ | refine Below.alloc ?_ (by first | omega | (simp; done) | (simp; omega)) _ | refine Below.drew ?_ | refine below_drewN ?_ _ | refine Below.setCell ?_ (by first | omega | (simp; done) | (simp; omega)) _)
  clear hW
  have HV := Lib.hid (HV.out.below HBW.out)
  have HX := Lib.hid (HX.out.below HBW.out)
  have HX1 := Lib.hid (HX1.out.below HBW.out)
  have HX2 := Lib.hid (HX2.out.below HBW.out)
  refine (light_any _ a _ HV.out).mono ?_
  rintro e w1 ⟨rfl, hb⟩
  have HB1 := Lib.hid hb
  clear hb
  cases hla : lightB a
  · skip
    go_wp2_with fail
    refine (awake_any _).mono ?_
    rintro e wz ⟨rfl, hbz⟩
    have HBZ := Lib.hid (bchain (HB1).out hbz)
    clear hbz
    go_wp2_with fail
    go_ret
    exact ⟨rfl, bchain HBW.out HBZ.out⟩
  obtain ⟨p0, p1, hp⟩ := (HP3.out.below HB1.out).facts
  go_wp2_with fail
  refine (short_any _ xs ys _ (HX.out.below HB1.out)).mono ?_
  rintro e w3 ⟨rfl, hb⟩
  have HB3 := Lib.hid (bchain HB1.out hb)
  clear hb p0 p1 hp HB1
  cases hsh : (decide (xs.length ≤ 4) && decide (ys.length ≤ 4))
  · skip
    go_wp2_with fail
    refine (awake_any _).mono ?_
    rintro e wz ⟨rfl, hbz⟩
    have HBZ := Lib.hid (bchain (HB3).out hbz)
    clear hbz
    go_wp2_with fail
    go_ret
    exact ⟨rfl, bchain HBW.out HBZ.out⟩
  have HLA := Lib.hid (lightOk hla)
  simp only [Bool.and_eq_true, decide_eq_true_eq] at hsh
  have HSH := Lib.hid hsh
  clear hla hsh
  obtain ⟨p0, p1, p2, hp⟩ := (HP1.out.below HB3.out).facts3
  go_wp2_with fail
  clear p0 p1 p2 hp
  refine (copy_any _ a _ (HV.out.below HB3.out) HLA.out.n3 HLA.out.f3).mono ?_
  rintro e w4 ⟨⟨vc, rfl, hrc⟩, hb⟩
  obtain ⟨ca, cf, he, hca, hcf⟩ := id hrc
  subst he
  obtain ⟨_, _, _, rfl, _, _, _, _⟩ := hca.rd.op
  obtain ⟨_, _, _, rfl, _, _, _, _⟩ := hcf.rd.op
  have HB4 := Lib.hid (bchain HB3.out hb)
  have HRC := Lib.hid hrc.rd
  clear hrc hb hca hcf
  go_wp2_with fail
  refine (star_yes _ a _ HRC.out HLA.out.sane (star_small HLA.out)).mono ?_
  rintro e w5 ⟨⟨vF, rfl, hof⟩, hb⟩
  obtain ⟨oa, of, he, hca, hcf⟩ := id hof
  subst he
  obtain ⟨C1, z1, o1, rfl, _, _, _, _⟩ := hca.rd.op
  obtain ⟨C2, z2, o2, rfl, _, _, _, _⟩ := hcf.rd.op
  have HB5 := Lib.hid (bchain HB4.out hb)
  have HOF := Lib.hid hof.rd
  clear hb hof hca hcf
  go_wp2_with fail
  generalize hX3 : World.alloc w5 _ = W5
  have BX : Hid (Box W5 w5.heap.size (starF a)) := by rw [← hX3]; exact Box.make HOF.out
  have HB6 : Hid (Below W.heap.size W W5) := by rw [← hX3]; exact HB5.out.alloc HB5.out.size _
  clear hX3 HB5 HB4
  generalize w5.heap.size = g at BX ⊢
  obtain ⟨D1, y1, q1, D2, y2, q2, r0, r1, r2, hgl, HRU⟩ := BX.out.open
  have hb1 : a.states ≤ 1000 := by have := HLA.out.s; omega
  have hb2 : a.arcs.length ≤ 10000 := by have := HLA.out.n; omega
  have hb3 : a.final.length ≤ 1100 := by have := HLA.out.f; omega
  have HGU := Lib.hid (star_good HLA.out.good hb1 hb2 hb3)
  have HACC : Hid (accB (starF a) xs ys = repB a xs ys) := by
    rw [Hid, Bool.eq_iff_iff, accB_iff, repB_iff]
    exact star_acc HLA.out.good hb1 hb2 hb3 xs ys
  have HS : Hid (∀ w' : World, Below W5.heap.size W5 w' → (w'.cell? ⟨w.heap.size, 0, none⟩ = some (.int .i64 a.states) ∧ w'.cell? ⟨w.heap.size, 1, none⟩ = some (.slice A1 n1 c1) ∧ w'.cell? ⟨w.heap.size, 2, none⟩ = some (.slice A2 n2 c2)) ∧ (w'.cell? ⟨g, 0, none⟩ = some (.int .i64 (starF a).states) ∧ w'.cell? ⟨g, 1, none⟩ = some (.slice D1 y1 q1) ∧ w'.cell? ⟨g, 2, none⟩ = some (.slice D2 y2 q2)) ∧ w'.cell? ⟨w.heap.size + 1, 0, none⟩ = some (.slice X1 k1 e1) ∧ w'.cell? ⟨w.heap.size + 1, 1, none⟩ = some (.slice X2 k2 e2)) := by
    intro w' h
    have hW := bchain HB6.out h
    obtain ⟨f0, f1, f2, _⟩ := (HP1.out.below hW).facts3
    obtain ⟨t0, t1, _⟩ := (HP3.out.below hW).facts
    exact ⟨⟨f0, f1, f2⟩, ⟨(h.cell hgl).trans r0, (h.cell hgl).trans r1, (h.cell hgl).trans r2⟩, t0, t1⟩
  have HRA := Lib.hid (HV.out.below HB6.out)
  have HRX := Lib.hid (HX.out.below HB6.out)
  have HBB := Lib.hid (bchain HBW.out HB6.out)
  clear r0 r1 r2 hb1 hb2 hb3
  refine wp_region_ord 6 [0, 1, 2, 3, 4, 5] [] [0, 1, 2, 3, 4] [5, 6, 7, 8, 9, 10] (fun w' => Below W5.heap.size W5 w') (by kernel_rfl) (by kernel_rfl) ?_
  rintro D hD
  have HSD : Hid (Below W5.heap.size W5 D) := by rw [hD]; exact (Below.refl _ _).drew
  clear hD
  refine ⟨HSD.out, ?_⟩
  iterate 5 (refine wpHead_cons (v := ?_) rfl rfl (fun w' hS => ?_) ?_; rotate_left; (focus ((try obtain ⟨⟨s0, s1, s2⟩, ⟨t0, t1, t2⟩, x0, x1⟩ := HS.out _ (hS rfl)); clear hS; go_simp; try with_reducible rfl; done)); (try simp only [Act.put, List.setIfInBounds_toArray, List.set_cons_zero, List.set_cons_succ]))
  refine wpHead_nil ?_
  refine wpTail_cons rfl rfl (fun K hK => ?_)
  go_simp
  refine (repeated_any a HLA.out.good 9 _ _ xs ys _ (HRA.out.below HSD.out) (HRX.out.below HSD.out) HSH.out.1 HSH.out.2 (star_nine HSH.out)).mono ?_
  rintro e Y1 ⟨rfl, hb⟩
  refine hK.out _ _ (fun _ => bchain HSD.out hb) ?_
  clear hK K
  (try simp only [Act.put, List.setIfInBounds_toArray, List.set_cons_zero, List.set_cons_succ])
  have HSY1 := Lib.hid (bchain HSD.out hb)
  have HXY1 := Lib.hid hb
  clear hb
  refine wpTail_rest 6 rfl ?_
  simp only [List.drop_succ_cons, List.drop_zero]
  go_wp2_with fail
  refine (takes_any _ _ (starF a) xs ys _ _ (HRU.out.below HSY1.out) (HRX.out.below HSY1.out) HGU.out (le4 HSH.out.1) (le4 HSH.out.2)).mono ?_
  rintro e Y2 ⟨rfl, hb⟩
  rw [show (accB (starF a) xs ys == repB a xs ys) = true by rw [HACC.out]; simp]
  have HSY2 := Lib.hid (bchain HSY1.out hb)
  clear hb
  go_wp2_with fail
  refine (awake_any _).mono ?_
  rintro e wz ⟨rfl, hb⟩
  have HSZ := Lib.hid (bchain HSY2.out hb)
  clear hb
  go_wp2_with fail
  refine NoPanic.normal ?_
  go_wp2_with fail
  go_ret
  exact ⟨rfl, bchain HBB.out HSZ.out⟩
end Go.Proofs.Ytmeppkkoepmlnaa
