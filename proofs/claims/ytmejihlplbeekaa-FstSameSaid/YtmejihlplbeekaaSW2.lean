/-
  FstSame: the walk.
-/
import Derived.Test.YtmejihlplbeekaaSW1
namespace Go.Proofs.Ytmejihlplbeekaa
open Go.ChangeShapes Go.WideShapes Go.ChangeAt Go.RowKit
set_option maxHeartbeats 4000000 in
set_option maxRecDepth 100000 in
theorem same_walk (v u : Value) (F G : PFst) (w : World) (hv : RdF w v F) (hu : RdF w u G) :
    Calls Try.prog 8 #[v, u] w fun e w' => e = .returned (.bool true) ∧ Below w.heap.size w w' := by
  have HV := Lib.hid hv
  have HU := Lib.hid hu
  obtain ⟨va, vf, rfl, ha, hf⟩ := hv
  obtain ⟨A1, n1, c1, rfl, _, _, _, _⟩ := ha.op
  obtain ⟨A2, n2, c2, rfl, _, _, _, _⟩ := hf.op
  obtain ⟨ua, uf, rfl, ka, kf⟩ := hu
  obtain ⟨B1, m1, e1, rfl, _, _, _, _⟩ := ka.op
  obtain ⟨B2, m2, e2, rfl, _, _, _, _⟩ := kf.op
  clear ha hf ka kf
  have HBA : Hid (Below w.heap.size w ((w.alloc (.cells #[.int .i64 F.states, .slice A1 n1 c1, .slice A2 n2 c2] 25)).alloc (.cells #[.int .i64 G.states, .slice B1 m1 e1, .slice B2 m2 e2] 25))) := bchain (al_below _ _) (al_below _ _)
  by_cases h1 : 300 < n1
  · have d1 : decide (300 < n1) = true := by simpa using h1
    have d2 : decide ((300 : Int) < (n1 : Int)) = true := by simp; omega
    clear h1
    go_enter Try.func8, Try.ntmps8
    go_wp2_with fail
    refine (awake_any _).mono ?_
    rintro e wz ⟨rfl, hbz⟩
    have HBZ : Hid (Below w.heap.size w wz) := bchain (HBA.out) hbz
    clear hbz
    go_wp2_with fail
    go_ret
    exact ⟨rfl, HBZ.out⟩
  have q1 : decide (300 < n1) = false := by simpa using h1
  have q2 : decide ((300 : Int) < (n1 : Int)) = false := by simp; omega
  clear h1
  by_cases h2 : 300 < n2
  · have d1 : decide (300 < n2) = true := by simpa using h2
    have d2 : decide ((300 : Int) < (n2 : Int)) = true := by simp; omega
    clear h2
    go_enter Try.func8, Try.ntmps8
    go_wp2_with fail
    refine (awake_any _).mono ?_
    rintro e wz ⟨rfl, hbz⟩
    have HBZ : Hid (Below w.heap.size w wz) := bchain (HBA.out) hbz
    clear hbz
    go_wp2_with fail
    go_ret
    exact ⟨rfl, HBZ.out⟩
  have q3 : decide (300 < n2) = false := by simpa using h2
  have q4 : decide ((300 : Int) < (n2 : Int)) = false := by simp; omega
  clear h2
  by_cases h3 : 300 < m1
  · have d1 : decide (300 < m1) = true := by simpa using h3
    have d2 : decide ((300 : Int) < (m1 : Int)) = true := by simp; omega
    clear h3
    go_enter Try.func8, Try.ntmps8
    go_wp2_with fail
    refine (awake_any _).mono ?_
    rintro e wz ⟨rfl, hbz⟩
    have HBZ : Hid (Below w.heap.size w wz) := bchain (HBA.out) hbz
    clear hbz
    go_wp2_with fail
    go_ret
    exact ⟨rfl, HBZ.out⟩
  have q5 : decide (300 < m1) = false := by simpa using h3
  have q6 : decide ((300 : Int) < (m1 : Int)) = false := by simp; omega
  clear h3
  by_cases h4 : 300 < m2
  · have d1 : decide (300 < m2) = true := by simpa using h4
    have d2 : decide ((300 : Int) < (m2 : Int)) = true := by simp; omega
    clear h4
    go_enter Try.func8, Try.ntmps8
    go_wp2_with fail
    refine (awake_any _).mono ?_
    rintro e wz ⟨rfl, hbz⟩
    have HBZ : Hid (Below w.heap.size w wz) := bchain (HBA.out) hbz
    clear hbz
    go_wp2_with fail
    go_ret
    exact ⟨rfl, HBZ.out⟩
  have q7 : decide (300 < m2) = false := by simpa using h4
  have q8 : decide ((300 : Int) < (m2 : Int)) = false := by simp; omega
  clear h4
  go_enter Try.func8, Try.ntmps8
  go_upto_region 3 with (fail)
  clear q1 q2 q3 q4 q5 q6 q7 q8
  generalize hW : World.alloc (World.alloc w _) _ = W
  have HBW : Hid (Below w.heap.size w W) := by rw [← hW]; repeat (first | assumption | exact Below.refl _ _ | refine Below.alloc ?_ (by first | omega | (simp; done) | (simp; omega)) _ | refine Below.drew ?_ | refine below_drewN ?_ _ | refine Below.setCell ?_ (by first | omega | (simp; done) | (simp; omega)) _)
  have HP2 : Hid (FBlk W (w.heap.size + 1) (.int .i64 G.states) (.slice B1 m1 e1) (.slice B2 m2 e2)) := by
    rw [Hid, FBlk, ← hW]
    have := heap_alloc_new (w.alloc (.cells #[.int .i64 F.states, .slice A1 n1 c1, .slice A2 n2 c2] 25)) (.cells #[.int .i64 G.states, .slice B1 m1 e1, .slice B2 m2 e2] 25)
    simpa using this
  have HP1 : Hid (FBlk W w.heap.size (.int .i64 F.states) (.slice A1 n1 c1) (.slice A2 n2 c2)) := by
    rw [← hW]; exact (Below.heap_alloc _ _ _ (by simp)).trans (heap_alloc_new w _)
  clear hW HBA
  have HV1 := Lib.hid (HV.out.below HBW.out)
  have HU1 := Lib.hid (HU.out.below HBW.out)
  refine wp_region_mix 10 [0, 1, 2, 3, 4, 5, 6, 7, 8, 9] [] [(true, 0), (true, 1), (true, 3), (true, 4), (false, 2), (false, 5), (true, 6), (true, 7), (true, 8), (true, 9), (false, 10), (false, 11), (false, 12), (false, 13), (false, 14), (false, 15)] (fun w' => Below W.heap.size W w') (by kernel_rfl) (by kernel_rfl) ?_
  rintro D hD
  have HSD : Hid (Below W.heap.size W D) := by rw [hD]; exact (Below.refl _ _).drew
  clear hD
  refine ⟨HSD.out, ?_⟩
  have HS : Hid (∀ w' : World, Below W.heap.size W w' → (w'.cell? ⟨w.heap.size, 0, none⟩ = some (.int .i64 F.states) ∧ w'.cell? ⟨w.heap.size, 1, none⟩ = some (.slice A1 n1 c1) ∧ w'.cell? ⟨w.heap.size, 2, none⟩ = some (.slice A2 n2 c2)) ∧ w'.cell? ⟨w.heap.size + 1, 0, none⟩ = some (.int .i64 G.states) ∧ w'.cell? ⟨w.heap.size + 1, 1, none⟩ = some (.slice B1 m1 e1) ∧ w'.cell? ⟨w.heap.size + 1, 2, none⟩ = some (.slice B2 m2 e2)) := by
    intro w' h
    obtain ⟨f0, f1, f2, _⟩ := (HP1.out.below h).facts
    obtain ⟨g0, g1, g2, _⟩ := (HP2.out.below h).facts
    exact ⟨⟨f0, f1, f2⟩, g0, g1, g2⟩
  iterate 4 (refine wpMix_q (v := ?_) rfl rfl (fun w' hS => ?_) ?_; rotate_left; (focus ((try obtain ⟨⟨s0, s1, s2⟩, u0, u1, u2⟩ := HS.out _ (hS rfl)); clear hS; go_simp; try with_reducible rfl; done)); (try simp only [Act.put, List.setIfInBounds_toArray, List.set_cons_zero, List.set_cons_succ]))
  refine wpMix_e rfl rfl (fun K hK => ?_)
  go_simp
  refine (fsame_any _ _ F G _ (HV1.out.below HSD.out) (HU1.out.below HSD.out)).mono ?_
  rintro e Y1 ⟨rfl, hb⟩
  refine hK.out _ _ (fun _ => bchain HSD.out hb) ?_
  clear hK K
  (try simp only [Act.put, List.setIfInBounds_toArray, List.set_cons_zero, List.set_cons_succ])
  have HSY1 := Lib.hid (bchain HSD.out hb)
  clear hb
  refine wpMix_e rfl rfl (fun K hK => ?_)
  go_simp
  refine (rfsame_any _ _ F G _ (HV1.out.below HSY1.out) (HU1.out.below HSY1.out)).mono ?_
  rintro e Y2 ⟨rfl, hb⟩
  refine hK.out _ _ (fun _ => bchain HSY1.out hb) ?_
  clear hK K
  (try simp only [Act.put, List.setIfInBounds_toArray, List.set_cons_zero, List.set_cons_succ])
  have HSY2 := Lib.hid (bchain HSY1.out hb)
  clear hb
  have hq : (pB (F = G) == pB (F = G)) = true := by simp
  iterate 4 (refine wpMix_q (v := ?_) rfl rfl (fun w' hS => ?_) ?_; rotate_left; (focus ((try obtain ⟨⟨s0, s1, s2⟩, u0, u1, u2⟩ := HS.out _ (hS rfl)); clear hS; go_simp; try with_reducible rfl; done)); (try simp only [Act.put, List.setIfInBounds_toArray, List.set_cons_zero, List.set_cons_succ]))
  refine wpMix_e rfl rfl (fun K hK => ?_)
  go_simp
  refine (fsame_any _ _ F F _ (HV1.out.below HSY2.out) (HV1.out.below HSY2.out)).mono ?_
  rintro e Y3 ⟨rfl, hb⟩
  refine hK.out _ _ (fun h => absurd h (by decide)) ?_
  clear hK K
  have HSY3 := Lib.hid (bchain HSY2.out hb)
  clear hb
  first | rw [pB_yes (rfl : F = F)] | rw [show pB True = true from pB_yes trivial]
  iterate 2 (refine wpMix_e rfl rfl (fun K hK => ?_); go_simp; refine hK.out _ _ (fun h => absurd h (by decide)) ?_; clear hK K; (try simp only [Act.put, List.setIfInBounds_toArray, List.set_cons_zero, List.set_cons_succ]))
  refine wpMix_e rfl rfl (fun K hK => ?_)
  go_simp
  refine (awake_any _).mono ?_
  rintro e Y4 ⟨rfl, hb⟩
  refine hK.out _ _ (fun h => absurd h (by decide)) ?_
  clear hK K
  (try simp only [Act.put, List.setIfInBounds_toArray, List.set_cons_zero, List.set_cons_succ])
  have HSY4 := Lib.hid (bchain HSY3.out hb)
  clear hb
  iterate 2 (refine wpMix_e rfl rfl (fun K hK => ?_); go_simp; refine hK.out _ _ (fun h => absurd h (by decide)) ?_; clear hK K; (try simp only [Act.put, List.setIfInBounds_toArray, List.set_cons_zero, List.set_cons_succ]))
  refine wpMix_nil ?_
  refine NoPanic.normal ?_
  go_wp2_with fail
  go_ret
  exact ⟨rfl, bchain HBW.out HSY4.out⟩
end Go.Proofs.Ytmejihlplbeekaa
