/-
  TacticsWords: the walk.
-/
import Derived.Test.YtcmfgblfgldonaaN25
import Derived.Test.YtcmfgblfgldonaaN28
namespace Go.Proofs.Ytcmfgblfgldonaa
open Go.ChangeShapes Go.WideShapes Go.ChangeAt Go.RowKit
theorem light_good {N : PNet} (h : lightB N = true) : GoodN N := by
  simp only [lightB, Bool.and_eq_true] at h
  exact chk_good h.2
theorem equal_yes (v u : Value) (a : List (List Int)) (w : World) (hv : RdL w v a) (hu : RdL w u a) :
    Calls Try.prog 21 #[v, u] w fun e w' => e = .returned (.bool true) ∧ Below w.heap.size w w' :=
  (equal_any v u a a w hv hu).mono fun _ _ ⟨h1, h2⟩ => ⟨by rw [h1]; simp, h2⟩
set_option maxHeartbeats 4000000 in
set_option maxRecDepth 100000 in
theorem words_walk (v : Value) (N : PNet) (len : Int) (w : World) (hv : RdN w v N) :
    Calls Try.prog 5 #[v, .int .i64 len] w fun e w' => e = .returned (.bool true) ∧ Below w.heap.size w w' := by
  have HV := Lib.hid hv
  obtain ⟨vs, vf, rfl, hs, hf⟩ := hv
  obtain ⟨A1, n1, c1, rfl, _, _, HN1, _⟩ := hs.op
  obtain ⟨A2, n2, c2, rfl, _, _, HN2, _⟩ := hf.op
  clear hs hf
  obtain ⟨st, hst⟩ : ∃ st, N.states = st := ⟨_, rfl⟩
  have HST := Lib.hid hst
  rw [hst] at HV ⊢
  clear hst
  go_enter Try.func5, Try.ntmps5
  go_wp2_with fail
  generalize hW : World.alloc w _ = W
  have HBW : Hid (Below w.heap.size w W) := by rw [← hW]; repeat (first | assumption | exact Below.refl _ _ | refine Below.alloc ?_ (by first | omega | (simp; done) | (simp; omega)) _ | refine Below.drew ?_ | refine below_drewN ?_ _ | refine Below.setCell ?_ (by first | omega | (simp; done) | (simp; omega)) _)
  have HNB : Hid (NBlk W w.heap.size (.int .i64 st) (.slice A1 n1 c1) (.slice A2 n2 c2)) := by rw [← hW]; exact heap_alloc_new w _
  clear hW
  refine (light_any _ N _ (HV.out.below HBW.out)).mono ?_
  rintro e w1 ⟨rfl, hb⟩
  have HB1 := Lib.hid (bchain HBW.out hb)
  have HNB1 := Lib.hid (HNB.out.below hb)
  clear hb HNB HBW
  cases hsm : lightB N
  · skip
    go_wp2_with fail
    refine (awake_any _).mono ?_
    rintro e wz ⟨rfl, hbz⟩
    have HBZ := Lib.hid (bchain (HB1).out hbz)
    clear hbz
    go_wp2_with fail
    go_ret
    exact ⟨rfl, HBZ.out⟩
  have hG := light_good hsm
  clear hsm
  obtain ⟨S, hS⟩ : ∃ S : Nat, N.states = (S : Int) := ⟨N.states.toNat, by have := hG.s1; omega⟩
  obtain rfl : st = (S : Int) := HST.out.symm.trans hS
  go_wp2_with fail
  refine wp_region_mix 5 [0, 1, 2, 3, 4] [] [(true, 0), (true, 1), (true, 3), (true, 4), (false, 2), (false, 5), (false, 6), (false, 7), (false, 8), (false, 9), (false, 10)] (fun w' => Below w1.heap.size w1 w') (by kernel_rfl) (by kernel_rfl) ?_
  rintro D hD
  have HSD : Hid (Below w1.heap.size w1 D) := by rw [hD]; exact (Below.refl _ _).drew
  clear hD
  refine ⟨HSD.out, ?_⟩
  have HS : Hid (∀ w' : World, Below w1.heap.size w1 w' → w'.cell? ⟨w.heap.size, 0, none⟩ = some (.int .i64 S) ∧ w'.cell? ⟨w.heap.size, 1, none⟩ = some (.slice A1 n1 c1) ∧ w'.cell? ⟨w.heap.size, 2, none⟩ = some (.slice A2 n2 c2)) := by
    intro w' h
    obtain ⟨f0, f1, f2, _⟩ := (HNB1.out.below h).facts
    exact ⟨f0, f1, f2⟩
  iterate 4 (refine wpMix_q (v := ?_) rfl rfl (fun w' hS => ?_) ?_; rotate_left; (focus ((try obtain ⟨s0, s1, s2⟩ := HS.out _ (hS rfl)); clear hS; go_simp; try with_reducible rfl; done)); (try simp only [Act.put, List.setIfInBounds_toArray, List.set_cons_zero, List.set_cons_succ]))
  refine wpMix_e rfl rfl (fun K hK => ?_)
  go_simp
  refine (words_any _ N S len _ (HV.out.below (bchain HB1.out HSD.out)) hG hS).mono ?_
  rintro e Y1 ⟨⟨vmY1, rfl, hm⟩, hb⟩
  have RY1 := Lib.hid hm.rd
  refine hK.out _ _ (fun _ => bchain HSD.out hb) ?_
  clear hK K
  (try simp only [Act.put, List.setIfInBounds_toArray, List.set_cons_zero, List.set_cons_succ])
  have HSY1 := Lib.hid (bchain HSD.out hb)
  have HXY1 := Lib.hid hb
  clear hb hm
  refine wpMix_e rfl rfl (fun K hK => ?_)
  go_simp
  refine (rWords_any _ N S len _ (HV.out.below (bchain HB1.out HSY1.out)) hG hS).mono ?_
  rintro e Y2 ⟨⟨vmY2, rfl, hm⟩, hb⟩
  have RY2 := Lib.hid hm.rd
  refine hK.out _ _ (fun _ => bchain HSY1.out hb) ?_
  clear hK K
  (try simp only [Act.put, List.setIfInBounds_toArray, List.set_cons_zero, List.set_cons_succ])
  have HSY2 := Lib.hid (bchain HSY1.out hb)
  have HXY2 := Lib.hid hb
  clear hb hm
  refine wpMix_e rfl rfl (fun K hK => ?_)
  go_simp
  refine (equal_yes _ _ _ _ (RY1.out.below HXY2.out) RY2.out).mono ?_
  rintro e Y3 ⟨rfl, hb⟩
  refine hK.out _ _ (fun _ => bchain HSY2.out hb) ?_
  clear hK K
  (try simp only [Act.put, List.setIfInBounds_toArray, List.set_cons_zero, List.set_cons_succ])
  have HSY3 := Lib.hid (bchain HSY2.out hb)
  have HXY3 := Lib.hid hb
  clear hb
  (refine wpMix_e rfl rfl (fun K hK => ?_); go_simp; refine hK.out _ _ (fun h => absurd h (by decide)) ?_; clear hK K; (try simp only [Act.put, List.setIfInBounds_toArray, List.set_cons_zero, List.set_cons_succ]))
  refine wpMix_e rfl rfl (fun K hK => ?_)
  go_simp
  refine (awake_any _).mono ?_
  rintro e Y4 ⟨rfl, hb⟩
  refine hK.out _ _ (fun h => absurd h (by decide)) ?_
  clear hK K
  (try simp only [Act.put, List.setIfInBounds_toArray, List.set_cons_zero, List.set_cons_succ])
  have HSY4 := Lib.hid (bchain HSY3.out hb)
  clear hb
  iterate 2 (refine wpMix_e rfl rfl (fun K hK => ?_); go_simp; refine hK.out _ _ (fun h => absurd h (by decide)) ?_; clear hK K; (try simp only [Act.put, List.setIfInBounds_toArray, List.set_cons_zero, List.set_cons_succ]))
  refine wpMix_nil ?_
  refine NoPanic.normal ?_
  go_wp2_with fail
  go_ret
  exact ⟨rfl, bchain HB1.out HSY4.out⟩
end Go.Proofs.Ytcmfgblfgldonaa
