/-
  FstopsInvert: the walk.
-/
import Derived.Test.YtmeppkkoepmlnaaT31
namespace Go.Proofs.Ytmeppkkoepmlnaa
open Go.ChangeShapes Go.WideShapes Go.ChangeAt Go.RowKit
theorem LightOk.n3 {F : PFst} (h : LightOk F) : F.arcs.length ≤ 300000 := by have := h.n; omega
theorem LightOk.f3 {F : PFst} (h : LightOk F) : F.final.length ≤ 300000 := by have := h.f; omega
theorem LightOk.s4 {F : PFst} (h : LightOk F) : F.states ≤ 4096 := by have := h.s; omega
set_option maxHeartbeats 4000000 in
set_option maxRecDepth 100000 in
theorem invert_walk (v x : Value) (a : PFst) (xs ys : List Int) (w : World) (hv : RdF w v a) (hx : RdT w x xs ys) :
    Calls Try.prog 7 #[v, x] w fun e w' => e = .returned (.bool true) ∧ Below w.heap.size w w' := by
  obtain ⟨va, vf, rfl, ha, hf⟩ := id hv
  obtain ⟨A1, n1, c1, rfl, _, _, _, _⟩ := ha.op
  obtain ⟨A2, n2, c2, rfl, _, _, _, _⟩ := hf.op
  obtain ⟨vx, vy, rfl, hx1, hx2⟩ := id hx
  obtain ⟨X1, k1, e1, rfl, _, _, _, _⟩ := hx1.op
  obtain ⟨X2, k2, e2, rfl, _, _, _, _⟩ := hx2.op
  have HV := Lib.hid hv
  have HX := Lib.hid hx
  have HX1 := Lib.hid hx1
  have HX2 := Lib.hid hx2
  clear ha hf hx1 hx2 hv hx
  go_enter Try.func7, Try.ntmps7
  go_wp2_with fail
  generalize hW : World.alloc (World.alloc w _) _ = W
  have HP1 : Hid (FBlk W w.heap.size (.int .i64 a.states) (.slice A1 n1 c1) (.slice A2 n2 c2)) := by
    rw [← hW]; exact (Below.heap_alloc _ _ _ (by first | omega | (simp; done) | (simp; omega))).trans (heap_alloc_new w _)
  have HP3 : Hid (TBlk W (w.heap.size + 1) (.slice X1 k1 e1) (.slice X2 k2 e2)) := by
    rw [Hid, TBlk, ← hW]
    have := heap_alloc_new (w.alloc (.cells #[.int .i64 a.states, .slice A1 n1 c1, .slice A2 n2 c2] 29)) (.cells #[.slice X1 k1 e1, .slice X2 k2 e2] 24)
    simpa using this
  have HBW : Hid (Below w.heap.size w W) := by rw [← hW]; repeat (first | assumption | exact Below.refl _ _ | refine Below.alloc ?_ (by first | omega | (simp; done) | (simp; omega)) _ | refine Below.drew ?_ | refine below_drewN ?_ _ | refine Below.setCell ?_ (by first | omega | (simp; done) | (simp; omega)) _)
  clear hW
  have HV := Lib.hid (HV.out.below HBW.out)
  have HX := Lib.hid (HX.out.below HBW.out)
  have HX1 := Lib.hid (HX1.out.below HBW.out)
  have HX2 := Lib.hid (HX2.out.below HBW.out)
  refine (light_any _ a _ HV.out).mono ?_
  rintro e w1 ⟨rfl, hb⟩
  have HB1 := Lib.hid hb
  clear hb
  cases hla : lightB a
  · skip
    go_wp2_with fail
    refine (awake_any _).mono ?_
    rintro e wz ⟨rfl, hbz⟩
    have HBZ := Lib.hid (bchain (HB1).out hbz)
    clear hbz
    go_wp2_with fail
    go_ret
    exact ⟨rfl, bchain HBW.out HBZ.out⟩
  obtain ⟨p0, p1, hp⟩ := (HP3.out.below HB1.out).facts
  go_wp2_with fail
  refine (short_any _ xs ys _ (HX.out.below HB1.out)).mono ?_
  rintro e w3 ⟨rfl, hb⟩
  have HB3 := Lib.hid (bchain HB1.out hb)
  clear hb p0 p1 hp HB1
  cases hsh : (decide (xs.length ≤ 4) && decide (ys.length ≤ 4))
  · skip
    go_wp2_with fail
    refine (awake_any _).mono ?_
    rintro e wz ⟨rfl, hbz⟩
    have HBZ := Lib.hid (bchain (HB3).out hbz)
    clear hbz
    go_wp2_with fail
    go_ret
    exact ⟨rfl, bchain HBW.out HBZ.out⟩
  have HLA := Lib.hid (lightOk hla)
  simp only [Bool.and_eq_true, decide_eq_true_eq] at hsh
  have HSH := Lib.hid hsh
  clear hla hsh
  have HGU := Lib.hid (inv_good HLA.out.good)
  have HACC : Hid (accB (invF a) xs ys = accB a ys xs) := by
    rw [Hid, Bool.eq_iff_iff, accB_iff, accB_iff]
    exact inv_acc a xs ys
  have HBB := HBW
  have HS : Hid (∀ w' : World, Below W.heap.size W w' → (w'.cell? ⟨w.heap.size, 0, none⟩ = some (.int .i64 a.states) ∧ w'.cell? ⟨w.heap.size, 1, none⟩ = some (.slice A1 n1 c1) ∧ w'.cell? ⟨w.heap.size, 2, none⟩ = some (.slice A2 n2 c2)) ∧ w'.cell? ⟨w.heap.size + 1, 0, none⟩ = some (.slice X1 k1 e1) ∧ w'.cell? ⟨w.heap.size + 1, 1, none⟩ = some (.slice X2 k2 e2)) := by
    intro w' h
    obtain ⟨f0, f1, f2, _⟩ := (HP1.out.below h).facts3
    obtain ⟨t0, t1, _⟩ := (HP3.out.below h).facts
    exact ⟨⟨f0, f1, f2⟩, t0, t1⟩
  go_wp2_with fail
  refine wp_region_ord 10 [0, 1, 2, 3, 4, 5, 6, 7, 8, 9] [] [0, 3, 4, 5, 6, 7, 8] [1, 2, 9, 10, 11, 12, 13, 14] (fun w' => Below W.heap.size W w') (by kernel_rfl) (by kernel_rfl) ?_
  rintro D hD
  have HSD : Hid (Below W.heap.size W D) := by rw [hD]; exact HB3.out.drew
  clear hD
  refine ⟨HSD.out, ?_⟩
  iterate 7 (refine wpHead_cons (v := ?_) rfl rfl (fun w' hS => ?_) ?_; rotate_left; (focus ((try obtain ⟨⟨s0, s1, s2⟩, x0, x1⟩ := HS.out _ (hS rfl)); clear hS; go_simp; try with_reducible rfl; done)); (try simp only [Act.put, List.setIfInBounds_toArray, List.set_cons_zero, List.set_cons_succ]))
  refine wpHead_nil ?_
  refine wpTail_cons rfl rfl (fun K hK => ?_)
  go_simp
  refine (copy_any _ a _ (HV.out.below HSD.out) HLA.out.n3 HLA.out.f3).mono ?_
  rintro e Y1 ⟨⟨vcA, rfl, hrc⟩, hb⟩
  obtain ⟨caA, cfA, he, hca, hcf⟩ := id hrc
  subst he
  obtain ⟨_, _, _, rfl, _, _, _, _⟩ := hca.rd.op
  obtain ⟨_, _, _, rfl, _, _, _, _⟩ := hcf.rd.op
  refine hK.out _ _ (fun _ => bchain HSD.out hb) ?_
  clear hK K hca hcf
  (try simp only [Act.put, List.setIfInBounds_toArray, List.set_cons_zero, List.set_cons_succ])
  have HSY1 := Lib.hid (bchain HSD.out hb)
  have HXY1 := Lib.hid hb
  have RY1 := Lib.hid hrc.rd
  clear hrc hb
  refine wpTail_cons rfl rfl (fun K hK => ?_)
  go_simp
  refine (invert_any _ a _ RY1.out HLA.out.sane).mono ?_
  rintro e Y2 ⟨⟨vcB, rfl, hrc⟩, hb⟩
  obtain ⟨caB, cfB, he, hca, hcf⟩ := id hrc
  subst he
  obtain ⟨_, _, _, rfl, _, _, _, _⟩ := hca.rd.op
  obtain ⟨_, _, _, rfl, _, _, _, _⟩ := hcf.rd.op
  refine hK.out _ _ (fun _ => bchain HSY1.out hb) ?_
  clear hK K hca hcf
  (try simp only [Act.put, List.setIfInBounds_toArray, List.set_cons_zero, List.set_cons_succ])
  have HSY2 := Lib.hid (bchain HSY1.out hb)
  have HXY2 := Lib.hid hb
  have RY2 := Lib.hid hrc.rd
  clear hrc hb
  refine wpTail_cons rfl rfl (fun K hK => ?_)
  go_simp
  refine (accepts_any _ _ _ a ys xs _ (HV.out.below HSY2.out) (HX2.out.below HSY2.out) (HX1.out.below HSY2.out) HLA.out.good.right HLA.out.s4 (le4 HSH.out.2) (le4 HSH.out.1)).mono ?_
  rintro e Y3 ⟨rfl, hb⟩
  refine hK.out _ _ (fun _ => bchain HSY2.out hb) ?_
  clear hK K
  (try simp only [Act.put, List.setIfInBounds_toArray, List.set_cons_zero, List.set_cons_succ])
  have HSY3 := Lib.hid (bchain HSY2.out hb)
  have HXY3 := Lib.hid hb
  clear hb
  refine wpTail_rest 10 rfl ?_
  simp only [List.drop_succ_cons, List.drop_zero]
  go_wp2_with fail
  refine (takes_any _ _ (invF a) xs ys _ _ (RY2.out.below HXY3.out) (HX.out.below HSY3.out) HGU.out (le4 HSH.out.1) (le4 HSH.out.2)).mono ?_
  rintro e Y4 ⟨rfl, hb⟩
  rw [show (accB (invF a) xs ys == accB a ys xs) = true by rw [HACC.out]; simp]
  have HSY4 := Lib.hid (bchain HSY3.out hb)
  clear hb
  go_wp2_with fail
  refine (awake_any _).mono ?_
  rintro e wz ⟨rfl, hb⟩
  have HSZ := Lib.hid (bchain HSY4.out hb)
  clear hb
  go_wp2_with fail
  refine NoPanic.normal ?_
  go_wp2_with fail
  go_ret
  exact ⟨rfl, bchain HBB.out HSZ.out⟩
end Go.Proofs.Ytmeppkkoepmlnaa
