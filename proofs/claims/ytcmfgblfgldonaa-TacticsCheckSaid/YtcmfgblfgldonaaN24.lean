/-
  TacticsCheck: the walk.
-/
import Derived.Test.YtcmfgblfgldonaaN23
namespace Go.Proofs.Ytcmfgblfgldonaa
open Go.ChangeShapes Go.WideShapes Go.ChangeAt Go.RowKit
set_option maxHeartbeats 4000000 in
set_option maxRecDepth 100000 in
theorem check_walk (v : Value) (N : PNet) (w : World) (hv : RdN w v N) :
    Calls Try.prog 3 #[v] w fun e w' => e = .returned (.bool true) ∧ Below w.heap.size w w' := by
  have HV := Lib.hid hv
  obtain ⟨vs, vf, rfl, hs, hf⟩ := hv
  obtain ⟨A1, n1, c1, rfl, _, _, HN1, _⟩ := hs.op
  obtain ⟨A2, n2, c2, rfl, _, _, HN2, _⟩ := hf.op
  clear hs hf
  obtain ⟨st, hst⟩ : ∃ st, N.states = st := ⟨_, rfl⟩
  rw [hst] at HV ⊢
  go_enter Try.func3, Try.ntmps3
  by_cases h3 : 300 < n1
  · have hd : decide (300 < (n1 : Int)) = true := by simp; omega
    have HB : Hid (Below w.heap.size w (w.alloc (.cells #[.int .i64 st, .slice A1 n1 c1, .slice A2 n2 c2] 25))) := (Below.refl _ _).alloc (Nat.le_refl _) _
    go_wp2_with fail
    refine (awake_any _).mono ?_
    rintro e wz ⟨rfl, hbz⟩
    have HBZ := Lib.hid (bchain (HB).out hbz)
    clear hbz
    go_wp2_with fail
    go_ret
    exact ⟨rfl, HBZ.out⟩
  have hd : decide (300 < (n1 : Int)) = false := by simp; omega
  by_cases h1 : 100 < n2
  · have hd1 : decide (100 < (n2 : Int)) = true := by simp; omega
    have HB : Hid (Below w.heap.size w (w.alloc (.cells #[.int .i64 st, .slice A1 n1 c1, .slice A2 n2 c2] 25))) := (Below.refl _ _).alloc (Nat.le_refl _) _
    go_wp2_with fail
    refine (awake_any _).mono ?_
    rintro e wz ⟨rfl, hbz⟩
    have HBZ := Lib.hid (bchain (HB).out hbz)
    clear hbz
    go_wp2_with fail
    go_ret
    exact ⟨rfl, HBZ.out⟩
  have hd1 : decide (100 < (n2 : Int)) = false := by simp; omega
  go_wp2_with fail
  generalize hW : World.alloc w _ = W
  have HBW : Hid (Below w.heap.size w W) := by rw [← hW]; repeat (first | assumption | exact Below.refl _ _ | refine Below.alloc ?_ (by first | omega | (simp; done) | (simp; omega)) _ | refine Below.drew ?_ | refine below_drewN ?_ _ | refine Below.setCell ?_ (by first | omega | (simp; done) | (simp; omega)) _)
  have HNB : Hid (NBlk W w.heap.size (.int .i64 st) (.slice A1 n1 c1) (.slice A2 n2 c2)) := by rw [← hW]; exact heap_alloc_new w _
  clear hW hd hd1 h3 h1
  refine wp_region_mix 3 [0, 1, 2] [] [(true, 0), (true, 2), (false, 1), (false, 3), (false, 4), (false, 5), (false, 6), (false, 7), (false, 8)] (fun w' => Below W.heap.size W w') (by kernel_rfl) (by kernel_rfl) ?_
  rintro D hD
  have HSD : Hid (Below W.heap.size W D) := by rw [hD]; exact (Below.refl _ _).drew
  clear hD
  refine ⟨HSD.out, ?_⟩
  have HS : Hid (∀ w' : World, Below W.heap.size W w' → w'.cell? ⟨w.heap.size, 0, none⟩ = some (.int .i64 st) ∧ w'.cell? ⟨w.heap.size, 1, none⟩ = some (.slice A1 n1 c1) ∧ w'.cell? ⟨w.heap.size, 2, none⟩ = some (.slice A2 n2 c2)) := by
    intro w' h
    obtain ⟨f0, f1, f2, _⟩ := (HNB.out.below h).facts
    exact ⟨f0, f1, f2⟩
  iterate 2 (refine wpMix_q (v := ?_) rfl rfl (fun w' hS => ?_) ?_; rotate_left; (focus ((try obtain ⟨s0, s1, s2⟩ := HS.out _ (hS rfl)); clear hS; go_simp; try with_reducible rfl; done)); (try simp only [Act.put, List.setIfInBounds_toArray, List.set_cons_zero, List.set_cons_succ]))
  refine wpMix_e rfl rfl (fun K hK => ?_)
  go_simp
  refine (check_any _ N _ (HV.out.below (bchain HBW.out HSD.out))).mono ?_
  rintro e Y1 ⟨rfl, hb⟩
  refine hK.out _ _ (fun _ => bchain HSD.out hb) ?_
  clear hK K
  (try simp only [Act.put, List.setIfInBounds_toArray, List.set_cons_zero, List.set_cons_succ])
  have HSY1 := Lib.hid (bchain HSD.out hb)
  clear hb
  refine wpMix_e rfl rfl (fun K hK => ?_)
  go_simp
  refine (rcheck_any _ N _ (HV.out.below (bchain HBW.out HSY1.out))).mono ?_
  rintro e Y2 ⟨rfl, hb⟩
  refine hK.out _ _ (fun _ => bchain HSY1.out hb) ?_
  clear hK K
  (try simp only [Act.put, List.setIfInBounds_toArray, List.set_cons_zero, List.set_cons_succ])
  have HSY2 := Lib.hid (bchain HSY1.out hb)
  clear hb
  have hq : (chkN N == chkN N) = true := by simp
  (refine wpMix_e rfl rfl (fun K hK => ?_); go_simp; refine hK.out _ _ (fun h => absurd h (by decide)) ?_; clear hK K; (try simp only [Act.put, List.setIfInBounds_toArray, List.set_cons_zero, List.set_cons_succ]))
  (refine wpMix_e rfl rfl (fun K hK => ?_); go_simp; refine hK.out _ _ (fun h => absurd h (by decide)) ?_; clear hK K; (try simp only [Act.put, List.setIfInBounds_toArray, List.set_cons_zero, List.set_cons_succ]))
  refine wpMix_e rfl rfl (fun K hK => ?_)
  go_simp
  refine (awake_any _).mono ?_
  rintro e Y3 ⟨rfl, hb⟩
  refine hK.out _ _ (fun h => absurd h (by decide)) ?_
  clear hK K
  (try simp only [Act.put, List.setIfInBounds_toArray, List.set_cons_zero, List.set_cons_succ])
  have HSY3 := Lib.hid (bchain HSY2.out hb)
  clear hb
  (refine wpMix_e rfl rfl (fun K hK => ?_); go_simp; refine hK.out _ _ (fun h => absurd h (by decide)) ?_; clear hK K; (try simp only [Act.put, List.setIfInBounds_toArray, List.set_cons_zero, List.set_cons_succ]))
  (refine wpMix_e rfl rfl (fun K hK => ?_); go_simp; refine hK.out _ _ (fun h => absurd h (by decide)) ?_; clear hK K; (try simp only [Act.put, List.setIfInBounds_toArray, List.set_cons_zero, List.set_cons_succ]))
  refine wpMix_nil ?_
  refine NoPanic.normal ?_
  go_wp2_with fail
  go_ret
  exact ⟨rfl, bchain HBW.out HSY3.out⟩
end Go.Proofs.Ytcmfgblfgldonaa
