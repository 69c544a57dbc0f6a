/-
  FstopsThrough: the walk.
-/
import Derived.Test.YtmeppkkoepmlnaaT40
import Derived.Test.YtmeppkkoepmlnaaT49
namespace Go.Proofs.Ytmeppkkoepmlnaa
open Go.ChangeShapes Go.WideShapes Go.ChangeAt Go.RowKit
theorem fgood_any (v vx vy : Value) (F : PFst) (xs ys : List Int) (w : World) (hv : RdF w v F) (hx : RdI w vx xs) (hy : RdI w vy ys) (hG : Good F) (hX : xs.length ≤ 1000) (hY : ys.length ≤ 1000) :
    Calls Try.prog 38 #[v, vx, vy] w fun e w' => e = .returned (.bool (accB F xs ys)) ∧ Below w.heap.size w w' :=
  faccepts_any v vx vy F xs ys w hv hx hy hG.right hG.ord hG.s2 hG.len (by have := final_len hG.ord hG.fin; have := hG.s2; omega) hX hY
noncomputable def thrB (a b : PFst) (xs ys l : List Int) : Bool := lightB a && (lightB b && ((decide (xs.length ≤ 4) && decide (ys.length ≤ 4)) && (decide (l.length ≤ 4) && (accB a xs l && accB b l ys))))
-- $1 world, $2 the value of thrB by simp
set_option maxHeartbeats 8000000 in
set_option maxRecDepth 100000 in
theorem through_walk (v u x y : Value) (a b : PFst) (xs ys l : List Int) (w : World) (hv : RdF w v a) (hu : RdF w u b) (hx : RdT w x xs ys) (hy : RdI w y l) :
    Calls Try.prog 12 #[v, u, x, y] w fun e w' => e = .returned (.bool true) ∧ Below w.heap.size w w' := by
  obtain ⟨L1, nl, cl, rfl, hl1, hl2, HNL, _⟩ := hy.op
  have HY := Lib.hid hy
  clear hy
  obtain ⟨va, vf, rfl, ha, hf⟩ := id hv
  obtain ⟨A1, n1, c1, rfl, _, _, _, _⟩ := ha.op
  obtain ⟨A2, n2, c2, rfl, _, _, _, _⟩ := hf.op
  obtain ⟨ua, uf, rfl, ka, kf⟩ := id hu
  obtain ⟨B1, m1, d1, rfl, _, _, _, _⟩ := ka.op
  obtain ⟨B2, m2, d2, rfl, _, _, _, _⟩ := kf.op
  obtain ⟨vx, vy, rfl, hx1, hx2⟩ := id hx
  obtain ⟨X1, k1, e1, rfl, _, _, _, _⟩ := hx1.op
  obtain ⟨X2, k2, e2, rfl, _, _, _, _⟩ := hx2.op
  have HV := Lib.hid hv
  have HU := Lib.hid hu
  have HX := Lib.hid hx
  have HX1 := Lib.hid hx1
  have HX2 := Lib.hid hx2
  clear ha hf ka kf hx1 hx2 hv hu hx
  go_enter Try.func12, Try.ntmps12
  go_wp2_with fail
  generalize hW : World.alloc (World.alloc (World.alloc w _) _) _ = W
  have HP1 : Hid (FBlk W w.heap.size (.int .i64 a.states) (.slice A1 n1 c1) (.slice A2 n2 c2)) := by
    rw [← hW]; exact (Below.heap_alloc _ _ _ (by first | omega | (simp; done) | (simp; omega))).trans ((Below.heap_alloc _ _ _ (by first | omega | (simp; done) | (simp; omega))).trans (heap_alloc_new w _))
  have HP2 : Hid (FBlk W (w.heap.size + 1) (.int .i64 b.states) (.slice B1 m1 d1) (.slice B2 m2 d2)) := by
    rw [Hid, FBlk, ← hW]
    refine (Below.heap_alloc _ _ _ (by first | omega | (simp; done) | (simp; omega))).trans ?_
    have := heap_alloc_new (w.alloc (.cells #[.int .i64 a.states, .slice A1 n1 c1, .slice A2 n2 c2] 29)) (.cells #[.int .i64 b.states, .slice B1 m1 d1, .slice B2 m2 d2] 29)
    simpa using this
  have HP3 : Hid (TBlk W (w.heap.size + 1 + 1) (.slice X1 k1 e1) (.slice X2 k2 e2)) := by
    rw [Hid, TBlk, ← hW]
    have := heap_alloc_new ((w.alloc (.cells #[.int .i64 a.states, .slice A1 n1 c1, .slice A2 n2 c2] 29)).alloc (.cells #[.int .i64 b.states, .slice B1 m1 d1, .slice B2 m2 d2] 29)) (.cells #[.slice X1 k1 e1, .slice X2 k2 e2] 24)
    simpa using this
  have HBW : Hid (Below w.heap.size w W) := by rw [← hW]; repeat (first | assumption | exact Below.refl _ _ | refine Below.alloc ?_ (by first | omega | (simp; done) | (simp; omega)) _ | refine Below.drew ?_ | refine below_drewN ?_ _ | refine Below.setCell ?_ (by first | omega | (simp; done) | (simp; omega)) _)
  clear hW
  have BA : Hid (Box W w.heap.size a) := Box.of HP1.out HV.out HBW.out
  have BB : Hid (Box W (w.heap.size + 1) b) := Box.of HP2.out HU.out HBW.out
  have HX := Lib.hid (HX.out.below HBW.out)
  have HX1 := Lib.hid (HX1.out.below HBW.out)
  have HX2 := Lib.hid (HX2.out.below HBW.out)
  have HY := Lib.hid (HY.out.below HBW.out)
  have HRA := Lib.hid (HV.out.below HBW.out)
  have HRB := Lib.hid (HU.out.below HBW.out)
  go_cut [46] (fun s46 wx => s46 = .bool (!thrB a b xs ys l) ∧ Hid (Below W.heap.size W wx))
  case first =>
    have HS : Hid (∀ w' : World, Below W.heap.size W w' → (w'.cell? ⟨w.heap.size, 0, none⟩ = some (.int .i64 a.states) ∧ w'.cell? ⟨w.heap.size, 1, none⟩ = some (.slice A1 n1 c1) ∧ w'.cell? ⟨w.heap.size, 2, none⟩ = some (.slice A2 n2 c2)) ∧ (w'.cell? ⟨w.heap.size + 1, 0, none⟩ = some (.int .i64 b.states) ∧ w'.cell? ⟨w.heap.size + 1, 1, none⟩ = some (.slice B1 m1 d1) ∧ w'.cell? ⟨w.heap.size + 1, 2, none⟩ = some (.slice B2 m2 d2)) ∧ w'.cell? ⟨w.heap.size + 1 + 1, 0, none⟩ = some (.slice X1 k1 e1) ∧ w'.cell? ⟨w.heap.size + 1 + 1, 1, none⟩ = some (.slice X2 k2 e2)) := by
      intro w' h
      obtain ⟨f0, f1, f2, _⟩ := (HP1.out.below h).facts3
      obtain ⟨g0, g1, g2, _⟩ := (HP2.out.below h).facts3
      obtain ⟨t0, t1, _⟩ := (HP3.out.below h).facts
      exact ⟨⟨f0, f1, f2⟩, ⟨g0, g1, g2⟩, t0, t1⟩
    refine wp_region_mix 33 [0, 1, 2, 3, 4, 5, 6, 7, 8, 9, 10, 11, 12, 13, 14, 15, 16, 17, 18, 19, 20, 21, 22, 23, 24, 25, 26, 27, 28, 29, 30, 31, 32] [] [(true, 0), (false, 1), (true, 2), (true, 3), (true, 4), (false, 5), (true, 6), (true, 7), (true, 8), (true, 9), (false, 10), (true, 11), (true, 12), (true, 13), (true, 14), (true, 15), (true, 16), (true, 17), (true, 18), (true, 19), (true, 21), (true, 22), (true, 23), (false, 20), (false, 24), (true, 25), (true, 26), (true, 27), (true, 28), (true, 30), (true, 31), (true, 32), (false, 29), (false, 33), (false, 34), (false, 35)] (fun w' => Below W.heap.size W w') (by kernel_rfl) (by kernel_rfl) ?_
    rintro D hD
    have HSD : Hid (Below W.heap.size W D) := by rw [hD]; exact (Below.refl _ _).drew
    clear hD
    refine ⟨HSD.out, ?_⟩
    (refine wpMix_q (v := ?_) rfl rfl (fun w' hS => ?_) ?_; rotate_left; (focus ((try obtain ⟨⟨s0, s1, s2⟩, ⟨s3, s4, s5⟩, s6, s7⟩ := HS.out _ (hS rfl)); clear hS; go_simp; try with_reducible rfl; done)); (try simp only [Act.put, List.setIfInBounds_toArray, List.set_cons_zero, List.set_cons_succ]))
    refine wpMix_e rfl rfl (fun K hK => ?_)
    go_simp
    refine (light_any _ a _ (HRA.out.below HSD.out)).mono ?_
    rintro e Z1 ⟨rfl, hb⟩
    refine hK.out _ _ (fun _ => bchain HSD.out hb) ?_
    clear hK K
    (try simp only [Act.put, List.setIfInBounds_toArray, List.set_cons_zero, List.set_cons_succ])
    have HSZ1 := Lib.hid (bchain HSD.out hb)
    clear hb
    cases hla : lightB a
    · have HTHR : Hid (thrB a b xs ys l = false) := by simp [Hid, thrB, hla]
      iterate 34 (first | (refine wpMix_q (v := ?_) rfl rfl (fun w' hS => ?_) ?_; rotate_left; (focus ((try obtain ⟨⟨s0, s1, s2⟩, ⟨s3, s4, s5⟩, s6, s7⟩ := HS.out _ (hS rfl)); clear hS; go_simp; try with_reducible rfl; done)); (try simp only [Act.put, List.setIfInBounds_toArray, List.set_cons_zero, List.set_cons_succ])) | (refine wpMix_qskip rfl rfl ?_; (try simp only [Act.put, List.setIfInBounds_toArray, List.set_cons_zero, List.set_cons_succ])) | (refine wpMix_eskip rfl rfl (HSZ1).out ?_; (try simp only [Act.put, List.setIfInBounds_toArray, List.set_cons_zero, List.set_cons_succ])) | (refine wpMix_e rfl rfl (fun K hK => ?_); go_simp; refine hK.out _ _ (fun h => absurd h (by decide)) ?_; clear hK K; (try simp only [Act.put, List.setIfInBounds_toArray, List.set_cons_zero, List.set_cons_succ])))
      refine wpMix_nil ?_
      refine NoPanic.normal ?_
      go_wp2_with fail
      go_meet
      exact ⟨by rw [HTHR.out]; rfl, HSZ1.out⟩
    iterate 3 (refine wpMix_q (v := ?_) rfl rfl (fun w' hS => ?_) ?_; rotate_left; (focus ((try obtain ⟨⟨s0, s1, s2⟩, ⟨s3, s4, s5⟩, s6, s7⟩ := HS.out _ (hS rfl)); clear hS; go_simp; try with_reducible rfl; done)); (try simp only [Act.put, List.setIfInBounds_toArray, List.set_cons_zero, List.set_cons_succ]))
    refine wpMix_e rfl rfl (fun K hK => ?_)
    go_simp
    refine (light_any _ b _ (HRB.out.below HSZ1.out)).mono ?_
    rintro e Z2 ⟨rfl, hb⟩
    refine hK.out _ _ (fun _ => bchain HSZ1.out hb) ?_
    clear hK K
    (try simp only [Act.put, List.setIfInBounds_toArray, List.set_cons_zero, List.set_cons_succ])
    have HSZ2 := Lib.hid (bchain HSZ1.out hb)
    clear hb
    cases hlb : lightB b
    · have HTHR : Hid (thrB a b xs ys l = false) := by simp [Hid, thrB, hlb]
      iterate 30 (first | (refine wpMix_q (v := ?_) rfl rfl (fun w' hS => ?_) ?_; rotate_left; (focus ((try obtain ⟨⟨s0, s1, s2⟩, ⟨s3, s4, s5⟩, s6, s7⟩ := HS.out _ (hS rfl)); clear hS; go_simp; try with_reducible rfl; done)); (try simp only [Act.put, List.setIfInBounds_toArray, List.set_cons_zero, List.set_cons_succ])) | (refine wpMix_qskip rfl rfl ?_; (try simp only [Act.put, List.setIfInBounds_toArray, List.set_cons_zero, List.set_cons_succ])) | (refine wpMix_eskip rfl rfl (HSZ2).out ?_; (try simp only [Act.put, List.setIfInBounds_toArray, List.set_cons_zero, List.set_cons_succ])) | (refine wpMix_e rfl rfl (fun K hK => ?_); go_simp; refine hK.out _ _ (fun h => absurd h (by decide)) ?_; clear hK K; (try simp only [Act.put, List.setIfInBounds_toArray, List.set_cons_zero, List.set_cons_succ])))
      refine wpMix_nil ?_
      refine NoPanic.normal ?_
      go_wp2_with fail
      go_meet
      exact ⟨by rw [HTHR.out]; rfl, HSZ2.out⟩
    iterate 4 (refine wpMix_q (v := ?_) rfl rfl (fun w' hS => ?_) ?_; rotate_left; (focus ((try obtain ⟨⟨s0, s1, s2⟩, ⟨s3, s4, s5⟩, s6, s7⟩ := HS.out _ (hS rfl)); clear hS; go_simp; try with_reducible rfl; done)); (try simp only [Act.put, List.setIfInBounds_toArray, List.set_cons_zero, List.set_cons_succ]))
    refine wpMix_e rfl rfl (fun K hK => ?_)
    go_simp
    refine (short_any _ xs ys _ (HX.out.below HSZ2.out)).mono ?_
    rintro e Z3 ⟨rfl, hb⟩
    refine hK.out _ _ (fun _ => bchain HSZ2.out hb) ?_
    clear hK K
    (try simp only [Act.put, List.setIfInBounds_toArray, List.set_cons_zero, List.set_cons_succ])
    have HSZ3 := Lib.hid (bchain HSZ2.out hb)
    clear hb
    cases hsh : (decide (xs.length ≤ 4) && decide (ys.length ≤ 4))
    · have HTHR : Hid (thrB a b xs ys l = false) := by simp only [Hid, thrB, hsh]; simp
      iterate 25 (first | (refine wpMix_q (v := ?_) rfl rfl (fun w' hS => ?_) ?_; rotate_left; (focus ((try obtain ⟨⟨s0, s1, s2⟩, ⟨s3, s4, s5⟩, s6, s7⟩ := HS.out _ (hS rfl)); clear hS; go_simp; try with_reducible rfl; done)); (try simp only [Act.put, List.setIfInBounds_toArray, List.set_cons_zero, List.set_cons_succ])) | (refine wpMix_qskip rfl rfl ?_; (try simp only [Act.put, List.setIfInBounds_toArray, List.set_cons_zero, List.set_cons_succ])) | (refine wpMix_eskip rfl rfl (HSZ3).out ?_; (try simp only [Act.put, List.setIfInBounds_toArray, List.set_cons_zero, List.set_cons_succ])) | (refine wpMix_e rfl rfl (fun K hK => ?_); go_simp; refine hK.out _ _ (fun h => absurd h (by decide)) ?_; clear hK K; (try simp only [Act.put, List.setIfInBounds_toArray, List.set_cons_zero, List.set_cons_succ])))
      refine wpMix_nil ?_
      refine NoPanic.normal ?_
      go_wp2_with fail
      go_meet
      exact ⟨by rw [HTHR.out]; rfl, HSZ3.out⟩
    have HLA := Lib.hid (lightOk hla)
    have HLB := Lib.hid (lightOk hlb)
    have HTHR : Hid (thrB a b xs ys l = (decide (l.length ≤ 4) && (accB a xs l && accB b l ys))) := by simp only [Hid, thrB, hla, hlb, hsh, Bool.true_and]
    simp only [Bool.and_eq_true, decide_eq_true_eq] at hsh
    have HSH := Lib.hid hsh
    clear hla hlb hsh
    by_cases hnl : nl ≤ 4
    · have hd4 : decide (4 < (nl : Int)) = false := by simp; omega
      have HL4 : Hid (l.length ≤ 4) := by rw [Hid, HNL.out]; exact hnl
      have HTHR : Hid (thrB a b xs ys l = (accB a xs l && accB b l ys)) := by rw [Hid, HTHR.out, decide_eq_true HL4.out]; rfl
      iterate 8 (refine wpMix_q (v := ?_) rfl rfl (fun w' hS => ?_) ?_; rotate_left; (focus ((try obtain ⟨⟨s0, s1, s2⟩, ⟨s3, s4, s5⟩, s6, s7⟩ := HS.out _ (hS rfl)); clear hS; go_simp; try with_reducible rfl; done)); (try simp only [Act.put, List.setIfInBounds_toArray, List.set_cons_zero, List.set_cons_succ]))
      clear hd4
      iterate 4 (refine wpMix_q (v := ?_) rfl rfl (fun w' hS => ?_) ?_; rotate_left; (focus ((try obtain ⟨⟨s0, s1, s2⟩, ⟨s3, s4, s5⟩, s6, s7⟩ := HS.out _ (hS rfl)); clear hS; go_simp; try with_reducible rfl; done)); (try simp only [Act.put, List.setIfInBounds_toArray, List.set_cons_zero, List.set_cons_succ]))
      refine wpMix_e rfl rfl (fun K hK => ?_)
      go_simp
      refine (copy_any _ a _ (HRA.out.below HSZ3.out) HLA.out.n3 HLA.out.f3).mono ?_
      rintro e Z4 ⟨⟨vcA, rfl, hrc⟩, hb⟩
      obtain ⟨caA, cfA, he, hca, hcf⟩ := id hrc
      subst he
      obtain ⟨_, _, _, rfl, _, _, _, _⟩ := hca.rd.op
      obtain ⟨_, _, _, rfl, _, _, _, _⟩ := hcf.rd.op
      refine hK.out _ _ (fun _ => bchain HSZ3.out hb) ?_
      clear hK K hca hcf
      (try simp only [Act.put, List.setIfInBounds_toArray, List.set_cons_zero, List.set_cons_succ])
      have HSZ4 := Lib.hid (bchain HSZ3.out hb)
      have RA := Lib.hid hrc.rd
      clear hrc hb
      refine wpMix_e rfl rfl (fun K hK => ?_)
      go_simp
      refine (fgood_any _ _ _ a xs l _ (RA.out.below (bchain (Below.refl _ _) (Below.refl _ _))) (HX1.out.below HSZ4.out) (HY.out.below HSZ4.out) HLA.out.good (le4 HSH.out.1) (le4 HL4.out)).mono ?_
      rintro e Z5 ⟨rfl, hb⟩
      refine hK.out _ _ (fun _ => bchain HSZ4.out hb) ?_
      clear hK K
      (try simp only [Act.put, List.setIfInBounds_toArray, List.set_cons_zero, List.set_cons_succ])
      have HSZ5 := Lib.hid (bchain HSZ4.out hb)
      clear hb
      cases hac : accB a xs l
      · have HTHR : Hid (thrB a b xs ys l = false) := by rw [Hid, HTHR.out, hac]; rfl
        iterate 11 (first | (refine wpMix_q (v := ?_) rfl rfl (fun w' hS => ?_) ?_; rotate_left; (focus ((try obtain ⟨⟨s0, s1, s2⟩, ⟨s3, s4, s5⟩, s6, s7⟩ := HS.out _ (hS rfl)); clear hS; go_simp; try with_reducible rfl; done)); (try simp only [Act.put, List.setIfInBounds_toArray, List.set_cons_zero, List.set_cons_succ])) | (refine wpMix_qskip rfl rfl ?_; (try simp only [Act.put, List.setIfInBounds_toArray, List.set_cons_zero, List.set_cons_succ])) | (refine wpMix_eskip rfl rfl (HSZ5).out ?_; (try simp only [Act.put, List.setIfInBounds_toArray, List.set_cons_zero, List.set_cons_succ])) | (refine wpMix_e rfl rfl (fun K hK => ?_); go_simp; refine hK.out _ _ (fun h => absurd h (by decide)) ?_; clear hK K; (try simp only [Act.put, List.setIfInBounds_toArray, List.set_cons_zero, List.set_cons_succ])))
        refine wpMix_nil ?_
        refine NoPanic.normal ?_
        go_wp2_with fail
        go_meet
        exact ⟨by rw [HTHR.out]; rfl, HSZ5.out⟩
      have HTHR : Hid (thrB a b xs ys l = accB b l ys) := by rw [Hid, HTHR.out, hac]; rfl
      clear hac
      iterate 7 (refine wpMix_q (v := ?_) rfl rfl (fun w' hS => ?_) ?_; rotate_left; (focus ((try obtain ⟨⟨s0, s1, s2⟩, ⟨s3, s4, s5⟩, s6, s7⟩ := HS.out _ (hS rfl)); clear hS; go_simp; try with_reducible rfl; done)); (try simp only [Act.put, List.setIfInBounds_toArray, List.set_cons_zero, List.set_cons_succ]))
      refine wpMix_e rfl rfl (fun K hK => ?_)
      go_simp
      refine (copy_any _ b _ (HRB.out.below HSZ5.out) HLB.out.n3 HLB.out.f3).mono ?_
      rintro e Z6 ⟨⟨vcB, rfl, hrc⟩, hb⟩
      obtain ⟨caB, cfB, he, hca, hcf⟩ := id hrc
      subst he
      obtain ⟨_, _, _, rfl, _, _, _, _⟩ := hca.rd.op
      obtain ⟨_, _, _, rfl, _, _, _, _⟩ := hcf.rd.op
      refine hK.out _ _ (fun _ => bchain HSZ5.out hb) ?_
      clear hK K hca hcf
      (try simp only [Act.put, List.setIfInBounds_toArray, List.set_cons_zero, List.set_cons_succ])
      have HSZ6 := Lib.hid (bchain HSZ5.out hb)
      have RB := Lib.hid hrc.rd
      clear hrc hb
      refine wpMix_e rfl rfl (fun K hK => ?_)
      go_simp
      refine (fgood_any _ _ _ b l ys _ (RB.out.below (bchain (Below.refl _ _) (Below.refl _ _))) (HY.out.below HSZ6.out) (HX2.out.below HSZ6.out) HLB.out.good (le4 HL4.out) (le4 HSH.out.2)).mono ?_
      rintro e Z7 ⟨rfl, hb⟩
      refine hK.out _ _ (fun h => absurd h (by decide)) ?_
      clear hK K
      (try simp only [Act.put, List.setIfInBounds_toArray, List.set_cons_zero, List.set_cons_succ])
      have HSZ7 := Lib.hid (bchain HSZ6.out hb)
      clear hb
      cases hac : accB b l ys
      · have HTHR : Hid (thrB a b xs ys l = false) := by rw [Hid, HTHR.out, hac]
        (refine wpMix_e rfl rfl (fun K hK => ?_); go_simp; refine hK.out _ _ (fun h => absurd h (by decide)) ?_; clear hK K; (try simp only [Act.put, List.setIfInBounds_toArray, List.set_cons_zero, List.set_cons_succ]))
        (refine wpMix_e rfl rfl (fun K hK => ?_); go_simp; refine hK.out _ _ (fun h => absurd h (by decide)) ?_; clear hK K; (try simp only [Act.put, List.setIfInBounds_toArray, List.set_cons_zero, List.set_cons_succ]))
        refine wpMix_nil ?_
        refine NoPanic.normal ?_
        go_wp2_with fail
        go_meet
        exact ⟨by rw [HTHR.out]; rfl, HSZ7.out⟩
      · have HTHR : Hid (thrB a b xs ys l = true) := by rw [Hid, HTHR.out, hac]
        (refine wpMix_e rfl rfl (fun K hK => ?_); go_simp; refine hK.out _ _ (fun h => absurd h (by decide)) ?_; clear hK K; (try simp only [Act.put, List.setIfInBounds_toArray, List.set_cons_zero, List.set_cons_succ]))
        (refine wpMix_e rfl rfl (fun K hK => ?_); go_simp; refine hK.out _ _ (fun h => absurd h (by decide)) ?_; clear hK K; (try simp only [Act.put, List.setIfInBounds_toArray, List.set_cons_zero, List.set_cons_succ]))
        refine wpMix_nil ?_
        refine NoPanic.normal ?_
        go_wp2_with fail
        go_meet
        exact ⟨by rw [HTHR.out]; rfl, HSZ7.out⟩
    · have hd4 : decide (4 < (nl : Int)) = true := by simp; omega
      have HTHR : Hid (thrB a b xs ys l = false) := by rw [Hid, HTHR.out, HNL.out, decide_eq_false hnl]; rfl
      iterate 25 (first | (refine wpMix_q (v := ?_) rfl rfl (fun w' hS => ?_) ?_; rotate_left; (focus ((try obtain ⟨⟨s0, s1, s2⟩, ⟨s3, s4, s5⟩, s6, s7⟩ := HS.out _ (hS rfl)); clear hS; go_simp; try with_reducible rfl; done)); (try simp only [Act.put, List.setIfInBounds_toArray, List.set_cons_zero, List.set_cons_succ])) | (refine wpMix_qskip rfl rfl ?_; (try simp only [Act.put, List.setIfInBounds_toArray, List.set_cons_zero, List.set_cons_succ])) | (refine wpMix_eskip rfl rfl (HSZ3).out ?_; (try simp only [Act.put, List.setIfInBounds_toArray, List.set_cons_zero, List.set_cons_succ])) | (refine wpMix_e rfl rfl (fun K hK => ?_); go_simp; refine hK.out _ _ (fun h => absurd h (by decide)) ?_; clear hK K; (try simp only [Act.put, List.setIfInBounds_toArray, List.set_cons_zero, List.set_cons_succ])))
      refine wpMix_nil ?_
      refine NoPanic.normal ?_
      go_wp2_with fail
      go_meet
      exact ⟨by rw [HTHR.out]; rfl, HSZ3.out⟩
  case rest =>
    obtain ⟨rfl, HBC⟩ := hcut
    cases hthr : thrB a b xs ys l
    · skip
      go_wp2_with fail
      refine (awake_any _).mono ?_
      rintro e wz ⟨rfl, hbz⟩
      have HBZ := Lib.hid (bchain (HBC).out hbz)
      clear hbz
      go_wp2_with fail
      go_ret
      exact ⟨rfl, bchain HBW.out HBZ.out⟩
    simp only [thrB, Bool.and_eq_true, decide_eq_true_eq] at hthr
    obtain ⟨hla, hlb, hsh, hl4, ha1, ha2⟩ := hthr
    have HLA := Lib.hid (lightOk hla)
    have HLB := Lib.hid (lightOk hlb)
    have HSH := Lib.hid hsh
    have HMA := Lib.hid HLA.out.mid
    have HMB := Lib.hid HLB.out.mid
    have p : ∀ {F : PFst}, Mid F → 0 ≤ F.states := fun h => by have := h.good.s1; omega
    have HGU := Lib.hid (mid_good HMA.out HMB.out)
    have HACC : Hid (accB (compF a b) xs ys = true) := by
      rw [Hid, accB_iff, comp_acc HLA.out.good HLB.out.good (compF_is (p HMA.out) (p HMB.out)) HGU.out]
      exact ⟨l, (accB_iff _ _ _).1 ha1, (accB_iff _ _ _).1 ha2⟩
    clear hla hlb hsh hl4 ha1 ha2 p
    have HBW := Lib.hid (bchain HBW.out HBC.out)
    have BA := Lib.hid (BA.out.below HBC.out)
    have BB := Lib.hid (BB.out.below HBC.out)
    have HP3 := Lib.hid (HP3.out.below HBC.out)
    have HX1 := Lib.hid (HX1.out.below HBC.out)
    have HX2 := Lib.hid (HX2.out.below HBC.out)
    clear HBC HRA HRB HX HY HP1 HP2
    go_upto_region 3 with (fail)
    obtain ⟨W, rfl⟩ : ∃ W' : World, W' = wc := ⟨_, rfl⟩
    go_cut [9, 10] (fun s7 s8 wx => ∃ g : Nat, s7 = .pointer (some ⟨g, 0, none⟩) ∧ s8 = .int .i64 0 ∧ Hid (Box wx g (compF a b)) ∧ Hid (Below W.heap.size W wx))
    case first =>
      obtain ⟨A1, n1, c1, A2, n2, c2, p0, p1, p2, hg1, HRA⟩ := (BA).out.open
      obtain ⟨B1, m1, d1, B2, m2, d2, q0, q1, q2, hg2, HRB⟩ := (BB).out.open
      have HS := Lib.hid (fun (w' : World) (h : Below W.heap.size W w') => And.intro ((h.cell hg1).trans p0) (And.intro ((h.cell hg1).trans p1) (And.intro ((h.cell hg1).trans p2) (And.intro ((h.cell hg2).trans q0) (And.intro ((h.cell hg2).trans q1) ((h.cell hg2).trans q2))))))
      clear p0 p1 p2 q0 q1 q2
      refine wp_region_steps 11 9 [0, 1, 2, 3, 4, 5, 6, 8] [7] (fun w' => Below W.heap.size W w') (by kernel_rfl) (by kernel_rfl) ?_
      rintro D hD
      have HSD : Hid (Below W.heap.size W D) := by rw [hD]; exact (Below.refl _ _).drew
      clear hD
      (refine wpE_take 0 (v := ?_) (by kernel_rfl) rfl rfl (by exact HSD.out) (fun w' hS => ?_) ?_; rotate_left; (focus ((try obtain ⟨s0, s1, s2, s3, s4, s5⟩ := HS.out _ (hS rfl)); clear hS; go_simp; try with_reducible rfl; done)); (try simp only [Act.put, List.setIfInBounds_toArray, List.set_cons_zero, List.set_cons_succ]))
      (refine wpE_take 2 (v := ?_) (by kernel_rfl) rfl rfl (by exact HSD.out) (fun w' hS => ?_) ?_; rotate_left; (focus ((try obtain ⟨s0, s1, s2, s3, s4, s5⟩ := HS.out _ (hS rfl)); clear hS; go_simp; try with_reducible rfl; done)); (try simp only [Act.put, List.setIfInBounds_toArray, List.set_cons_zero, List.set_cons_succ]))
      refine wpE_br [1, 8] (by kernel_rfl) ?_
      refine AllE.cons rfl rfl (fun K hK => ?_) (AllE.cons rfl rfl (fun K hK => ?_) AllE.nil)
      · skip
        go_simp
        refine (copy_any _ a _ ((HRA).out.below HSD.out) (HMA).out.n3 (HMA).out.f3).mono ?_
        rintro e Y1 ⟨⟨vcA, rfl, hrc⟩, hb⟩
        obtain ⟨caA, cfA, he, hca, hcf⟩ := id hrc
        subst he
        obtain ⟨_, _, _, rfl, _, _, _, _⟩ := hca.rd.op
        obtain ⟨_, _, _, rfl, _, _, _, _⟩ := hcf.rd.op
        refine hK.out _ _ (bchain HSD.out hb) ?_
        clear hK K hca hcf
        (try simp only [Act.put, List.setIfInBounds_toArray, List.set_cons_zero, List.set_cons_succ])
        have HSY1 := Lib.hid (bchain HSD.out hb)
        have HXY1 := Lib.hid hb
        have RAY1 := Lib.hid hrc.rd
        clear hrc hb
        refine wpE_br [3, 8] (by kernel_rfl) ?_
        refine AllE.cons rfl rfl (fun K hK => ?_) (AllE.cons rfl rfl (fun K hK => ?_) AllE.nil)
        · skip
          go_simp
          refine (copy_any _ b _ ((HRB).out.below HSY1.out) (HMB).out.n3 (HMB).out.f3).mono ?_
          rintro e Y2 ⟨⟨vcB, rfl, hrc⟩, hb⟩
          obtain ⟨caB, cfB, he, hca, hcf⟩ := id hrc
          subst he
          obtain ⟨_, _, _, rfl, _, _, _, _⟩ := hca.rd.op
          obtain ⟨_, _, _, rfl, _, _, _, _⟩ := hcf.rd.op
          refine hK.out _ _ (bchain HSY1.out hb) ?_
          clear hK K hca hcf
          (try simp only [Act.put, List.setIfInBounds_toArray, List.set_cons_zero, List.set_cons_succ])
          have HSY2 := Lib.hid (bchain HSY1.out hb)
          have HXY2 := Lib.hid hb
          have RBY2 := Lib.hid hrc.rd
          clear hrc hb
          refine wpE_br [4, 8] (by kernel_rfl) ?_
          refine AllE.cons rfl rfl (fun K hK => ?_) (AllE.cons rfl rfl (fun K hK => ?_) AllE.nil)
          · skip
            go_simp
            refine (mcompose_any _ _ a b _ (RAY1.out.below HXY2.out) RBY2.out (HMA).out (HMB).out).mono ?_
            rintro e Y3 ⟨⟨vF, rfl, hrc⟩, hb⟩
            obtain ⟨oa, of, he, hca, hcf⟩ := id hrc
            subst he
            obtain ⟨_, _, _, rfl, _, _, _, _⟩ := hca.rd.op
            obtain ⟨_, _, _, rfl, _, _, _, _⟩ := hcf.rd.op
            refine hK.out _ _ (bchain HSY2.out hb) ?_
            clear hK K hca hcf
            (try simp only [Act.put, List.setIfInBounds_toArray, List.set_cons_zero, List.set_cons_succ])
            have HSY3 := Lib.hid (bchain HSY2.out hb)
            have HXY3 := Lib.hid hb
            have OY3 := Lib.hid hrc
            clear hrc hb
            (refine wpE_take 5 (v := ?_) (by kernel_rfl) rfl rfl (by exact HSY3.out) (fun w' hS => ?_) ?_; rotate_left; (focus ((try obtain s0 := HS.out _ (hS rfl)); clear hS; go_simp; try with_reducible rfl; done)); (try simp only [Act.put, List.setIfInBounds_toArray, List.set_cons_zero, List.set_cons_succ]))
            (refine wpE_take 6 (v := ?_) (by kernel_rfl) rfl rfl (by exact HSY3.out) (fun w' hS => ?_) ?_; rotate_left; (focus ((try obtain s0 := HS.out _ (hS rfl)); clear hS; go_simp; try with_reducible rfl; done)); (try simp only [Act.put, List.setIfInBounds_toArray, List.set_cons_zero, List.set_cons_succ]))
            (refine wpE_take 7 (v := ?_) (by kernel_rfl) rfl rfl (by exact HSY3.out) (fun w' hS => ?_) ?_; rotate_left; (focus ((try obtain s0 := HS.out _ (hS rfl)); clear hS; go_simp; try with_reducible rfl; done)); (try simp only [Act.put, List.setIfInBounds_toArray, List.set_cons_zero, List.set_cons_succ]))
            refine wpE_br [8] (by kernel_rfl) ?_
            refine AllE.cons rfl rfl (fun K hK => ?_) AllE.nil
            go_simp
            refine hK.out _ _ (HSY3.out.alloc HSY3.out.size _) ?_
            clear hK K
            (try simp only [Act.put, List.setIfInBounds_toArray, List.set_cons_zero, List.set_cons_succ])
            generalize hX : World.alloc Y3 _ = Y4
            have HSY4 : Hid (Below W.heap.size W Y4) := by rw [← hX]; exact HSY3.out.alloc HSY3.out.size _
            have HXY4 : Hid (Below Y3.heap.size Y3 Y4) := by rw [← hX]; exact (Below.refl _ _).alloc (Nat.le_refl _) _
            have ZY4 : Hid (FBlk Y4 Y3.heap.size (.int .i64 0) (.slice none 0 0) (.slice none 0 0)) := by rw [← hX]; exact heap_alloc_new _ _
            clear hX
            have OY4 := Lib.hid (OY3.out.below HXY4.out)
            have hge : W.heap.size ≤ Y3.heap.size := HSY3.out.size
            refine wpE_rest 9 (by kernel_rfl) ?_
            simp only [List.drop_succ_cons, List.drop_zero]
            obtain ⟨r0, r1, r2, f0, f1, f2⟩ := (ZY4).out.facts
            go_wp2_with fail
            refine NoPanic.normal ?_
            go_wp2_with fail
            go_meet
            case rel => exact ⟨_, rfl, rfl, Box.stored (OY4).out (ZY4).out, ((HSY4.out.setCell (by exact hge) _).setCell (by exact hge) _).setCell (by exact hge) _⟩
          · skip
            go_simp
            refine hK.out _ _ (HSY2.out.alloc HSY2.out.size _) ?_
            clear hK K
            (try simp only [Act.put, List.setIfInBounds_toArray, List.set_cons_zero, List.set_cons_succ])
            generalize hX : World.alloc Y2 _ = Y3
            have HSY3 : Hid (Below W.heap.size W Y3) := by rw [← hX]; exact HSY2.out.alloc HSY2.out.size _
            have HXY3 : Hid (Below Y2.heap.size Y2 Y3) := by rw [← hX]; exact (Below.refl _ _).alloc (Nat.le_refl _) _
            have ZY3 : Hid (FBlk Y3 Y2.heap.size (.int .i64 0) (.slice none 0 0) (.slice none 0 0)) := by rw [← hX]; exact heap_alloc_new _ _
            clear hX
            refine wpE_br [4] (by kernel_rfl) ?_
            refine AllE.cons rfl rfl (fun K hK => ?_) AllE.nil
            go_simp
            refine (mcompose_any _ _ a b _ ((RAY1.out.below HXY2.out).below HXY3.out) (RBY2.out.below HXY3.out) (HMA).out (HMB).out).mono ?_
            rintro e Y4 ⟨⟨vF, rfl, hrc⟩, hb⟩
            obtain ⟨oa, of, he, hca, hcf⟩ := id hrc
            subst he
            obtain ⟨_, _, _, rfl, _, _, _, _⟩ := hca.rd.op
            obtain ⟨_, _, _, rfl, _, _, _, _⟩ := hcf.rd.op
            refine hK.out _ _ (bchain HSY3.out hb) ?_
            clear hK K hca hcf
            (try simp only [Act.put, List.setIfInBounds_toArray, List.set_cons_zero, List.set_cons_succ])
            have HSY4 := Lib.hid (bchain HSY3.out hb)
            have HXY4 := Lib.hid hb
            have OY4 := Lib.hid hrc
            clear hrc hb
            (refine wpE_take 5 (v := ?_) (by kernel_rfl) rfl rfl (by exact HSY4.out) (fun w' hS => ?_) ?_; rotate_left; (focus ((try obtain s0 := HS.out _ (hS rfl)); clear hS; go_simp; try with_reducible rfl; done)); (try simp only [Act.put, List.setIfInBounds_toArray, List.set_cons_zero, List.set_cons_succ]))
            (refine wpE_take 6 (v := ?_) (by kernel_rfl) rfl rfl (by exact HSY4.out) (fun w' hS => ?_) ?_; rotate_left; (focus ((try obtain s0 := HS.out _ (hS rfl)); clear hS; go_simp; try with_reducible rfl; done)); (try simp only [Act.put, List.setIfInBounds_toArray, List.set_cons_zero, List.set_cons_succ]))
            (refine wpE_take 7 (v := ?_) (by kernel_rfl) rfl rfl (by exact HSY4.out) (fun w' hS => ?_) ?_; rotate_left; (focus ((try obtain s0 := HS.out _ (hS rfl)); clear hS; go_simp; try with_reducible rfl; done)); (try simp only [Act.put, List.setIfInBounds_toArray, List.set_cons_zero, List.set_cons_succ]))
            have ZY4 := Lib.hid (ZY3.out.below HXY4.out)
            have hge : W.heap.size ≤ Y2.heap.size := HSY2.out.size
            refine wpE_rest 9 (by kernel_rfl) ?_
            simp only [List.drop_succ_cons, List.drop_zero]
            obtain ⟨r0, r1, r2, f0, f1, f2⟩ := (ZY4).out.facts
            go_wp2_with fail
            refine NoPanic.normal ?_
            go_wp2_with fail
            go_meet
            case rel => exact ⟨_, rfl, rfl, Box.stored (OY4).out (ZY4).out, ((HSY4.out.setCell (by exact hge) _).setCell (by exact hge) _).setCell (by exact hge) _⟩
        · skip
          go_simp
          refine hK.out _ _ (HSY1.out.alloc HSY1.out.size _) ?_
          clear hK K
          (try simp only [Act.put, List.setIfInBounds_toArray, List.set_cons_zero, List.set_cons_succ])
          generalize hX : World.alloc Y1 _ = Y2
          have HSY2 : Hid (Below W.heap.size W Y2) := by rw [← hX]; exact HSY1.out.alloc HSY1.out.size _
          have HXY2 : Hid (Below Y1.heap.size Y1 Y2) := by rw [← hX]; exact (Below.refl _ _).alloc (Nat.le_refl _) _
          have ZY2 : Hid (FBlk Y2 Y1.heap.size (.int .i64 0) (.slice none 0 0) (.slice none 0 0)) := by rw [← hX]; exact heap_alloc_new _ _
          clear hX
          refine wpE_br [3] (by kernel_rfl) ?_
          refine AllE.cons rfl rfl (fun K hK => ?_) AllE.nil
          go_simp
          refine (copy_any _ b _ ((HRB).out.below HSY2.out) (HMB).out.n3 (HMB).out.f3).mono ?_
          rintro e Y3 ⟨⟨vcB, rfl, hrc⟩, hb⟩
          obtain ⟨caB, cfB, he, hca, hcf⟩ := id hrc
          subst he
          obtain ⟨_, _, _, rfl, _, _, _, _⟩ := hca.rd.op
          obtain ⟨_, _, _, rfl, _, _, _, _⟩ := hcf.rd.op
          refine hK.out _ _ (bchain HSY2.out hb) ?_
          clear hK K hca hcf
          (try simp only [Act.put, List.setIfInBounds_toArray, List.set_cons_zero, List.set_cons_succ])
          have HSY3 := Lib.hid (bchain HSY2.out hb)
          have HXY3 := Lib.hid hb
          have RBY3 := Lib.hid hrc.rd
          clear hrc hb
          refine wpE_br [4] (by kernel_rfl) ?_
          refine AllE.cons rfl rfl (fun K hK => ?_) AllE.nil
          go_simp
          refine (mcompose_any _ _ a b _ ((RAY1.out.below HXY2.out).below HXY3.out) RBY3.out (HMA).out (HMB).out).mono ?_
          rintro e Y4 ⟨⟨vF, rfl, hrc⟩, hb⟩
          obtain ⟨oa, of, he, hca, hcf⟩ := id hrc
          subst he
          obtain ⟨_, _, _, rfl, _, _, _, _⟩ := hca.rd.op
          obtain ⟨_, _, _, rfl, _, _, _, _⟩ := hcf.rd.op
          refine hK.out _ _ (bchain HSY3.out hb) ?_
          clear hK K hca hcf
          (try simp only [Act.put, List.setIfInBounds_toArray, List.set_cons_zero, List.set_cons_succ])
          have HSY4 := Lib.hid (bchain HSY3.out hb)
          have HXY4 := Lib.hid hb
          have OY4 := Lib.hid hrc
          clear hrc hb
          (refine wpE_take 5 (v := ?_) (by kernel_rfl) rfl rfl (by exact HSY4.out) (fun w' hS => ?_) ?_; rotate_left; (focus ((try obtain s0 := HS.out _ (hS rfl)); clear hS; go_simp; try with_reducible rfl; done)); (try simp only [Act.put, List.setIfInBounds_toArray, List.set_cons_zero, List.set_cons_succ]))
          (refine wpE_take 6 (v := ?_) (by kernel_rfl) rfl rfl (by exact HSY4.out) (fun w' hS => ?_) ?_; rotate_left; (focus ((try obtain s0 := HS.out _ (hS rfl)); clear hS; go_simp; try with_reducible rfl; done)); (try simp only [Act.put, List.setIfInBounds_toArray, List.set_cons_zero, List.set_cons_succ]))
          (refine wpE_take 7 (v := ?_) (by kernel_rfl) rfl rfl (by exact HSY4.out) (fun w' hS => ?_) ?_; rotate_left; (focus ((try obtain s0 := HS.out _ (hS rfl)); clear hS; go_simp; try with_reducible rfl; done)); (try simp only [Act.put, List.setIfInBounds_toArray, List.set_cons_zero, List.set_cons_succ]))
          have ZY4 := Lib.hid ((ZY2.out.below HXY3.out).below HXY4.out)
          have hge : W.heap.size ≤ Y1.heap.size := HSY1.out.size
          refine wpE_rest 9 (by kernel_rfl) ?_
          simp only [List.drop_succ_cons, List.drop_zero]
          obtain ⟨r0, r1, r2, f0, f1, f2⟩ := (ZY4).out.facts
          go_wp2_with fail
          refine NoPanic.normal ?_
          go_wp2_with fail
          go_meet
          case rel => exact ⟨_, rfl, rfl, Box.stored (OY4).out (ZY4).out, ((HSY4.out.setCell (by exact hge) _).setCell (by exact hge) _).setCell (by exact hge) _⟩
      · skip
        go_simp
        refine hK.out _ _ (HSD.out.alloc HSD.out.size _) ?_
        clear hK K
        (try simp only [Act.put, List.setIfInBounds_toArray, List.set_cons_zero, List.set_cons_succ])
        generalize hX : World.alloc D _ = Y1
        have HSY1 : Hid (Below W.heap.size W Y1) := by rw [← hX]; exact HSD.out.alloc HSD.out.size _
        have HXY1 : Hid (Below D.heap.size D Y1) := by rw [← hX]; exact (Below.refl _ _).alloc (Nat.le_refl _) _
        have ZY1 : Hid (FBlk Y1 D.heap.size (.int .i64 0) (.slice none 0 0) (.slice none 0 0)) := by rw [← hX]; exact heap_alloc_new _ _
        clear hX
        refine wpE_br [1] (by kernel_rfl) ?_
        refine AllE.cons rfl rfl (fun K hK => ?_) AllE.nil
        go_simp
        refine (copy_any _ a _ ((HRA).out.below HSY1.out) (HMA).out.n3 (HMA).out.f3).mono ?_
        rintro e Y2 ⟨⟨vcA, rfl, hrc⟩, hb⟩
        obtain ⟨caA, cfA, he, hca, hcf⟩ := id hrc
        subst he
        obtain ⟨_, _, _, rfl, _, _, _, _⟩ := hca.rd.op
        obtain ⟨_, _, _, rfl, _, _, _, _⟩ := hcf.rd.op
        refine hK.out _ _ (bchain HSY1.out hb) ?_
        clear hK K hca hcf
        (try simp only [Act.put, List.setIfInBounds_toArray, List.set_cons_zero, List.set_cons_succ])
        have HSY2 := Lib.hid (bchain HSY1.out hb)
        have HXY2 := Lib.hid hb
        have RAY2 := Lib.hid hrc.rd
        clear hrc hb
        refine wpE_br [3] (by kernel_rfl) ?_
        refine AllE.cons rfl rfl (fun K hK => ?_) AllE.nil
        go_simp
        refine (copy_any _ b _ ((HRB).out.below HSY2.out) (HMB).out.n3 (HMB).out.f3).mono ?_
        rintro e Y3 ⟨⟨vcB, rfl, hrc⟩, hb⟩
        obtain ⟨caB, cfB, he, hca, hcf⟩ := id hrc
        subst he
        obtain ⟨_, _, _, rfl, _, _, _, _⟩ := hca.rd.op
        obtain ⟨_, _, _, rfl, _, _, _, _⟩ := hcf.rd.op
        refine hK.out _ _ (bchain HSY2.out hb) ?_
        clear hK K hca hcf
        (try simp only [Act.put, List.setIfInBounds_toArray, List.set_cons_zero, List.set_cons_succ])
        have HSY3 := Lib.hid (bchain HSY2.out hb)
        have HXY3 := Lib.hid hb
        have RBY3 := Lib.hid hrc.rd
        clear hrc hb
        refine wpE_br [4] (by kernel_rfl) ?_
        refine AllE.cons rfl rfl (fun K hK => ?_) AllE.nil
        go_simp
        refine (mcompose_any _ _ a b _ (RAY2.out.below HXY3.out) RBY3.out (HMA).out (HMB).out).mono ?_
        rintro e Y4 ⟨⟨vF, rfl, hrc⟩, hb⟩
        obtain ⟨oa, of, he, hca, hcf⟩ := id hrc
        subst he
        obtain ⟨_, _, _, rfl, _, _, _, _⟩ := hca.rd.op
        obtain ⟨_, _, _, rfl, _, _, _, _⟩ := hcf.rd.op
        refine hK.out _ _ (bchain HSY3.out hb) ?_
        clear hK K hca hcf
        (try simp only [Act.put, List.setIfInBounds_toArray, List.set_cons_zero, List.set_cons_succ])
        have HSY4 := Lib.hid (bchain HSY3.out hb)
        have HXY4 := Lib.hid hb
        have OY4 := Lib.hid hrc
        clear hrc hb
        (refine wpE_take 5 (v := ?_) (by kernel_rfl) rfl rfl (by exact HSY4.out) (fun w' hS => ?_) ?_; rotate_left; (focus ((try obtain s0 := HS.out _ (hS rfl)); clear hS; go_simp; try with_reducible rfl; done)); (try simp only [Act.put, List.setIfInBounds_toArray, List.set_cons_zero, List.set_cons_succ]))
        (refine wpE_take 6 (v := ?_) (by kernel_rfl) rfl rfl (by exact HSY4.out) (fun w' hS => ?_) ?_; rotate_left; (focus ((try obtain s0 := HS.out _ (hS rfl)); clear hS; go_simp; try with_reducible rfl; done)); (try simp only [Act.put, List.setIfInBounds_toArray, List.set_cons_zero, List.set_cons_succ]))
        (refine wpE_take 7 (v := ?_) (by kernel_rfl) rfl rfl (by exact HSY4.out) (fun w' hS => ?_) ?_; rotate_left; (focus ((try obtain s0 := HS.out _ (hS rfl)); clear hS; go_simp; try with_reducible rfl; done)); (try simp only [Act.put, List.setIfInBounds_toArray, List.set_cons_zero, List.set_cons_succ]))
        have ZY4 := Lib.hid (((ZY1.out.below HXY2.out).below HXY3.out).below HXY4.out)
        have hge : W.heap.size ≤ D.heap.size := HSD.out.size
        refine wpE_rest 9 (by kernel_rfl) ?_
        simp only [List.drop_succ_cons, List.drop_zero]
        obtain ⟨r0, r1, r2, f0, f1, f2⟩ := (ZY4).out.facts
        go_wp2_with fail
        refine NoPanic.normal ?_
        go_wp2_with fail
        go_meet
        case rel => exact ⟨_, rfl, rfl, Box.stored (OY4).out (ZY4).out, ((HSY4.out.setCell (by exact hge) _).setCell (by exact hge) _).setCell (by exact hge) _⟩
    case rest =>
      obtain ⟨g, rfl, rfl, BF, HBC⟩ := hcut
      have HBW := Lib.hid (bchain HBW.out HBC.out)
      have HP3 := Lib.hid (HP3.out.below HBC.out)
      have HX1 := Lib.hid (HX1.out.below HBC.out)
      have HX2 := Lib.hid (HX2.out.below HBC.out)
      clear HBC
      obtain ⟨_, _, _, _, _, _, p0, p1, p2, hg1, HRA⟩ := BF.out.open
      go_wp2_with fail
      refine (fcheck_ok _ (compF a b) _ HRA.out HGU.out).mono ?_
      rintro e w5 ⟨rfl, hb⟩
      have HB5 := Lib.hid hb
      clear p0 p1 p2 hg1 HRA hb
      obtain ⟨t0, t1, ht⟩ := (HP3.out.below HB5.out).facts
      obtain ⟨_, _, _, _, _, _, p0, p1, p2, hg1, HRA⟩ := (BF.out.below HB5.out).open
      go_wp2_with fail
      refine (fgood_any _ _ _ (compF a b) xs ys _ HRA.out (HX1.out.below HB5.out) (HX2.out.below HB5.out) HGU.out (le4 HSH.out.1) (le4 HSH.out.2)).mono ?_
      rintro e w6 ⟨rfl, hb⟩
      rw [HACC.out]
      have HB6 := Lib.hid (bchain HB5.out hb)
      clear p0 p1 p2 hg1 HRA hb t0 t1 ht
      go_wp2_with fail
      refine (awake_any _).mono ?_
      rintro e wz ⟨rfl, hbz⟩
      have HBZ := Lib.hid (bchain (HB6).out hbz)
      clear hbz
      go_wp2_with fail
      go_ret
      exact ⟨rfl, bchain HBW.out HBZ.out⟩
end Go.Proofs.Ytmeppkkoepmlnaa
