/-
  FstCheck, FstAccepts, FstSame: the walks.
-/
import Derived.Test.YtmejihlplbeekaaA1
namespace Go.Proofs.Ytmejihlplbeekaa
open Go.ChangeShapes Go.WideShapes Go.ChangeAt Go.RowKit
structure Lgt (F : PFst) : Prop where
  good : Good F
  fin : FinOk F
  st : F.states ≤ 40
  al : F.arcs.length ≤ 80
  fl : F.final.length ≤ 40
theorem good_fin {F : PFst} (h : Good F) : FinOk F :=
  ⟨h.right, ⟨fun a ha => ⟨(h.arc a ha).1.1, (h.arc a ha).1.2, (h.arc a ha).2.1.1, (h.arc a ha).2.1.2, (h.arc a ha).2.2.2.1⟩⟩, h.ord, h.s2, h.len, fun a ha => (h.arc a ha).2.2.2.2⟩
theorem lgt_of {F : PFst} (h : lightB F = true) : Lgt F := by
  simp only [lightB, Bool.and_eq_true, decide_eq_true_eq, beq_iff_eq] at h
  have hg := (chk_ok F).1 h.2.2.2
  exact ⟨hg, good_fin hg, h.1, h.2.1, h.2.2.1⟩
theorem lgt_fl {F : PFst} (h : Lgt F) : F.final.length ≤ 1000000 := by have := h.fl; omega
theorem short_any (v u : Value) (xs ys : List Int) (w : World) (hv : RdI w v xs) (hu : RdI w u ys) :
    Calls Try.prog 16 #[v, u] w fun e w' => e = .returned (.bool (decide (xs.length ≤ 24) && decide (ys.length ≤ 24))) ∧ w = w' := by
  obtain ⟨A, n, c, rfl, h1, h2, HN, _⟩ := hv.op
  obtain ⟨A', n', c', rfl, h1', h2', HN', _⟩ := hu.op
  clear hv hu
  rw [HN.out, HN'.out]
  by_cases h : n ≤ 24
  · have d1 : decide ((n : Int) ≤ 24) = true := by simp; omega
    have d2 : decide (n ≤ 24) = true := by simp; omega
    rw [d2]
    by_cases h' : n' ≤ 24
    · have e1 : decide ((n' : Int) ≤ 24) = true := by simp; omega
      have e2 : decide (n' ≤ 24) = true := by simp; omega
      rw [e2]
      go_enter Try.func16, Try.ntmps16
      go_wp2_with fail
      go_ret
      exact ⟨rfl, rfl⟩
    · have e1 : decide ((n' : Int) ≤ 24) = false := by simp; omega
      have e2 : decide (n' ≤ 24) = false := by simp; omega
      rw [e2]
      go_enter Try.func16, Try.ntmps16
      go_wp2_with fail
      go_ret
      exact ⟨rfl, rfl⟩
  · have d1 : decide ((n : Int) ≤ 24) = false := by simp; omega
    have d2 : decide (n ≤ 24) = false := by simp; omega
    rw [d2]
    go_enter Try.func16, Try.ntmps16
    go_wp2_with fail
    go_ret
    exact ⟨rfl, rfl⟩
set_option maxHeartbeats 4000000 in
set_option maxRecDepth 100000 in
theorem check_walk (v : Value) (F : PFst) (w : World) (hv : RdF w v F) :
    Calls Try.prog 3 #[v] w fun e w' => e = .returned (.bool true) ∧ Below w.heap.size w w' := by
  have HV := Lib.hid hv
  obtain ⟨va, vf, rfl, ha, hf⟩ := hv
  obtain ⟨A1, n1, c1, rfl, _, _, HN1, _⟩ := ha.op
  obtain ⟨A2, n2, c2, rfl, _, _, HN2, _⟩ := hf.op
  clear ha hf
  have HBA : Hid (Below w.heap.size w (w.alloc (.cells #[.int .i64 F.states, .slice A1 n1 c1, .slice A2 n2 c2] 25))) := al_below _ _
  by_cases h1 : 300 < n1
  · have d1 : decide (300 < n1) = true := by simpa using h1
    have d2 : decide ((300 : Int) < (n1 : Int)) = true := by simp; omega
    clear h1
    go_enter Try.func3, Try.ntmps3
    go_wp2_with fail
    refine (awake_any _).mono ?_
    rintro e wz ⟨rfl, hbz⟩
    have HBZ : Hid (Below w.heap.size w wz) := bchain (HBA.out) hbz
    clear hbz
    go_wp2_with fail
    go_ret
    exact ⟨rfl, HBZ.out⟩
  have d1 : decide (300 < n1) = false := by simpa using h1
  have d2 : decide ((300 : Int) < (n1 : Int)) = false := by simp; omega
  by_cases h2 : 300 < n2
  · have d3 : decide (300 < n2) = true := by simpa using h2
    have d4 : decide ((300 : Int) < (n2 : Int)) = true := by simp; omega
    clear h1 h2
    go_enter Try.func3, Try.ntmps3
    go_wp2_with fail
    refine (awake_any _).mono ?_
    rintro e wz ⟨rfl, hbz⟩
    have HBZ : Hid (Below w.heap.size w wz) := bchain (HBA.out) hbz
    clear hbz
    go_wp2_with fail
    go_ret
    exact ⟨rfl, HBZ.out⟩
  have d3 : decide (300 < n2) = false := by simpa using h2
  have d4 : decide ((300 : Int) < (n2 : Int)) = false := by simp; omega
  clear h1 h2 HBA
  go_enter Try.func3, Try.ntmps3
  go_upto_region 3 with (fail)
  clear d1 d2 d3 d4
  generalize hW : World.alloc w _ = W
  have HBW : Hid (Below w.heap.size w W) := by rw [← hW]; repeat (first | assumption | exact Below.refl _ _ | refine Below.alloc ?_ (by first | omega | (simp; done) | (simp; omega)) _ | refine Below.drew ?_ | refine below_drewN ?_ _ | refine Below.setCell ?_ (by first | omega | (simp; done) | (simp; omega)) _)
  have HP : Hid (FBlk W w.heap.size (.int .i64 F.states) (.slice A1 n1 c1) (.slice A2 n2 c2)) := by rw [← hW]; exact heap_alloc_new w _
  clear hW
  have HV1 := Lib.hid (HV.out.below HBW.out)
  refine wp_region_mix 3 [0, 1, 2] [] [(true, 0), (true, 2), (false, 1), (false, 3), (false, 4), (false, 5), (false, 6), (false, 7), (false, 8)] (fun w' => Below W.heap.size W w') (by kernel_rfl) (by kernel_rfl) ?_
  rintro D hD
  have HSD : Hid (Below W.heap.size W D) := by rw [hD]; exact (Below.refl _ _).drew
  clear hD
  refine ⟨HSD.out, ?_⟩
  have HS : Hid (∀ w' : World, Below W.heap.size W w' → w'.cell? ⟨w.heap.size, 0, none⟩ = some (.int .i64 F.states) ∧ w'.cell? ⟨w.heap.size, 1, none⟩ = some (.slice A1 n1 c1) ∧ w'.cell? ⟨w.heap.size, 2, none⟩ = some (.slice A2 n2 c2)) := by
    intro w' h
    obtain ⟨f0, f1, f2, _⟩ := (HP.out.below h).facts
    exact ⟨f0, f1, f2⟩
  iterate 2 (refine wpMix_q (v := ?_) rfl rfl (fun w' hS => ?_) ?_; rotate_left; (focus ((try obtain ⟨s0, s1, s2⟩ := HS.out _ (hS rfl)); clear hS; go_simp; try with_reducible rfl; done)); (try simp only [Act.put, List.setIfInBounds_toArray, List.set_cons_zero, List.set_cons_succ]))
  refine wpMix_e rfl rfl (fun K hK => ?_)
  go_simp
  refine (fcheck_any _ F _ (HV1.out.below HSD.out)).mono ?_
  rintro e Y1 ⟨rfl, hb⟩
  refine hK.out _ _ (fun _ => bchain HSD.out hb) ?_
  clear hK K
  (try simp only [Act.put, List.setIfInBounds_toArray, List.set_cons_zero, List.set_cons_succ])
  have HSY1 := Lib.hid (bchain HSD.out hb)
  clear hb
  refine wpMix_e rfl rfl (fun K hK => ?_)
  go_simp
  refine (check_any _ F _ (HV1.out.below HSY1.out)).mono ?_
  rintro e Y2 ⟨rfl, hb⟩
  refine hK.out _ _ (fun h => absurd h (by decide)) ?_
  clear hK K
  (try simp only [Act.put, List.setIfInBounds_toArray, List.set_cons_zero, List.set_cons_succ])
  have HSY2 := Lib.hid (bchain HSY1.out hb)
  clear hb
  have hq : (chk F == chk F) = true := by simp
  iterate 2 (refine wpMix_e rfl rfl (fun K hK => ?_); go_simp; refine hK.out _ _ (fun h => absurd h (by decide)) ?_; clear hK K; (try simp only [Act.put, List.setIfInBounds_toArray, List.set_cons_zero, List.set_cons_succ]))
  refine wpMix_e rfl rfl (fun K hK => ?_)
  go_simp
  refine (awake_any _).mono ?_
  rintro e Y3 ⟨rfl, hb⟩
  refine hK.out _ _ (fun h => absurd h (by decide)) ?_
  clear hK K
  (try simp only [Act.put, List.setIfInBounds_toArray, List.set_cons_zero, List.set_cons_succ])
  have HSY3 := Lib.hid (bchain HSY2.out hb)
  clear hb
  iterate 2 (refine wpMix_e rfl rfl (fun K hK => ?_); go_simp; refine hK.out _ _ (fun h => absurd h (by decide)) ?_; clear hK K; (try simp only [Act.put, List.setIfInBounds_toArray, List.set_cons_zero, List.set_cons_succ]))
  refine wpMix_nil ?_
  refine NoPanic.normal ?_
  go_wp2_with fail
  go_ret
  exact ⟨rfl, bchain HBW.out HSY3.out⟩
set_option maxHeartbeats 4000000 in
set_option maxRecDepth 100000 in
theorem accepts_walk (v vx vy : Value) (F : PFst) (xs ys : List Int) (w : World) (hv : RdF w v F) (hx : RdI w vx xs) (hy : RdI w vy ys) :
    Calls Try.prog 5 #[v, vx, vy] w fun e w' => e = .returned (.bool true) ∧ Below w.heap.size w w' := by
  have HV := Lib.hid hv
  obtain ⟨va, vf, rfl, ha, hf⟩ := hv
  obtain ⟨A1, n1, c1, rfl, _, _, HN1, _⟩ := ha.op
  obtain ⟨A2, n2, c2, rfl, _, _, HN2, _⟩ := hf.op
  clear ha hf
  obtain ⟨Ax, nx, cx, rfl, _, _, HNX, _⟩ := hx.op
  obtain ⟨Ay, ny, cy, rfl, _, _, HNY, _⟩ := hy.op
  have HX := Lib.hid hx
  have HY := Lib.hid hy
  clear hx hy
  go_enter Try.func5, Try.ntmps5
  go_wp2_with fail
  generalize hW : World.alloc w _ = W
  have HBW : Hid (Below w.heap.size w W) := by rw [← hW]; repeat (first | assumption | exact Below.refl _ _ | refine Below.alloc ?_ (by first | omega | (simp; done) | (simp; omega)) _ | refine Below.drew ?_ | refine below_drewN ?_ _ | refine Below.setCell ?_ (by first | omega | (simp; done) | (simp; omega)) _)
  have HP : Hid (FBlk W w.heap.size (.int .i64 F.states) (.slice A1 n1 c1) (.slice A2 n2 c2)) := by rw [← hW]; exact heap_alloc_new w _
  clear hW
  refine (light_any _ F _ (HV.out.below HBW.out)).mono ?_
  rintro e w1 ⟨rfl, hb⟩
  have HB1 : Hid (Below w.heap.size w w1) := bchain HBW.out hb
  have HP1 := Lib.hid (HP.out.below hb)
  clear hb HP HBW
  cases hl : lightB F
  · skip
    go_wp2_with fail
    refine (awake_any _).mono ?_
    rintro e wz ⟨rfl, hbz⟩
    have HBZ : Hid (Below w.heap.size w wz) := bchain (HB1.out) hbz
    clear hbz
    go_wp2_with fail
    go_ret
    exact ⟨rfl, HBZ.out⟩
  have HL := Lib.hid (lgt_of hl)
  clear hl
  go_wp2_with fail
  refine (short_any _ _ xs ys _ (HX.out.below HB1.out) (HY.out.below HB1.out)).mono ?_
  rintro e w2 ⟨rfl, rfl⟩
  cases hs : (decide (xs.length ≤ 24) && decide (ys.length ≤ 24))
  · skip
    go_wp2_with fail
    refine (awake_any _).mono ?_
    rintro e wz ⟨rfl, hbz⟩
    have HBZ : Hid (Below w.heap.size w wz) := bchain (HB1.out) hbz
    clear hbz
    go_wp2_with fail
    go_ret
    exact ⟨rfl, HBZ.out⟩
  simp only [Bool.and_eq_true, decide_eq_true_eq] at hs
  have hx24 : xs.length ≤ 1000 := by omega
  have hy24 : ys.length ≤ 1000 := by omega
  clear hs
  go_upto_region 3 with (fail)
  have HV1 := Lib.hid (HV.out.below HB1.out)
  have HX1 := Lib.hid (HX.out.below HB1.out)
  have HY1 := Lib.hid (HY.out.below HB1.out)
  refine wp_region_mix 7 [0, 1, 2, 3, 4, 5, 6] [] [(true, 0), (true, 1), (true, 2), (true, 4), (true, 5), (true, 6), (false, 3), (false, 7), (false, 8), (false, 9), (false, 10), (false, 11), (false, 12)] (fun w' => Below w1.heap.size w1 w') (by kernel_rfl) (by kernel_rfl) ?_
  rintro D hD
  have HSD : Hid (Below w1.heap.size w1 D) := by rw [hD]; exact (Below.refl _ _).drew
  clear hD
  refine ⟨HSD.out, ?_⟩
  have HS : Hid (∀ w' : World, Below w1.heap.size w1 w' → w'.cell? ⟨w.heap.size, 0, none⟩ = some (.int .i64 F.states) ∧ w'.cell? ⟨w.heap.size, 1, none⟩ = some (.slice A1 n1 c1) ∧ w'.cell? ⟨w.heap.size, 2, none⟩ = some (.slice A2 n2 c2)) := by
    intro w' h
    obtain ⟨f0, f1, f2, _⟩ := (HP1.out.below h).facts
    exact ⟨f0, f1, f2⟩
  iterate 6 (refine wpMix_q (v := ?_) rfl rfl (fun w' hS => ?_) ?_; rotate_left; (focus ((try obtain ⟨s0, s1, s2⟩ := HS.out _ (hS rfl)); clear hS; go_simp; try with_reducible rfl; done)); (try simp only [Act.put, List.setIfInBounds_toArray, List.set_cons_zero, List.set_cons_succ]))
  refine wpMix_e rfl rfl (fun K hK => ?_)
  go_simp
  refine (faccepts_any _ _ _ F xs ys _ (HV1.out.below HSD.out) (HX1.out.below HSD.out) (HY1.out.below HSD.out) HL.out.fin.right HL.out.fin.ord HL.out.fin.st HL.out.fin.al (lgt_fl HL.out) hx24 hy24).mono ?_
  rintro e Y1 ⟨rfl, hb⟩
  refine hK.out _ _ (fun _ => bchain HSD.out hb) ?_
  clear hK K
  (try simp only [Act.put, List.setIfInBounds_toArray, List.set_cons_zero, List.set_cons_succ])
  have HSY1 := Lib.hid (bchain HSD.out hb)
  clear hb
  refine wpMix_e rfl rfl (fun K hK => ?_)
  go_simp
  refine (accepts_any _ _ _ F xs ys _ (HV1.out.below HSY1.out) (HX1.out.below HSY1.out) (HY1.out.below HSY1.out) HL.out.fin.right HL.out.fin.st hx24 hy24).mono ?_
  rintro e Y2 ⟨rfl, hb⟩
  refine hK.out _ _ (fun h => absurd h (by decide)) ?_
  clear hK K
  (try simp only [Act.put, List.setIfInBounds_toArray, List.set_cons_zero, List.set_cons_succ])
  have HSY2 := Lib.hid (bchain HSY1.out hb)
  clear hb
  have hq : (accB F xs ys == accB F xs ys) = true := by simp
  iterate 2 (refine wpMix_e rfl rfl (fun K hK => ?_); go_simp; refine hK.out _ _ (fun h => absurd h (by decide)) ?_; clear hK K; (try simp only [Act.put, List.setIfInBounds_toArray, List.set_cons_zero, List.set_cons_succ]))
  refine wpMix_e rfl rfl (fun K hK => ?_)
  go_simp
  refine (awake_any _).mono ?_
  rintro e Y3 ⟨rfl, hb⟩
  refine hK.out _ _ (fun h => absurd h (by decide)) ?_
  clear hK K
  (try simp only [Act.put, List.setIfInBounds_toArray, List.set_cons_zero, List.set_cons_succ])
  have HSY3 := Lib.hid (bchain HSY2.out hb)
  clear hb
  iterate 2 (refine wpMix_e rfl rfl (fun K hK => ?_); go_simp; refine hK.out _ _ (fun h => absurd h (by decide)) ?_; clear hK K; (try simp only [Act.put, List.setIfInBounds_toArray, List.set_cons_zero, List.set_cons_succ]))
  refine wpMix_nil ?_
  refine NoPanic.normal ?_
  go_wp2_with fail
  go_ret
  exact ⟨rfl, bchain HB1.out HSY3.out⟩
end Go.Proofs.Ytmejihlplbeekaa
