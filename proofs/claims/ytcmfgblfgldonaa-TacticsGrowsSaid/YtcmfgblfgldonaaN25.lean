/-
  TacticsAccepts: the walk.
-/
import Derived.Test.YtcmfgblfgldonaaN23
namespace Go.Proofs.Ytcmfgblfgldonaa
open Go.ChangeShapes Go.WideShapes Go.ChangeAt Go.RowKit
theorem small_good {N : PNet} {l : List Int} (h : smallB N l = true) : GoodN N := by
  simp only [smallB, Bool.and_eq_true] at h
  exact chk_good h.1.2
set_option maxHeartbeats 4000000 in
set_option maxRecDepth 100000 in
theorem accepts_walk (v u : Value) (N : PNet) (l : List Int) (w : World) (hv : RdN w v N) (hu : RdI w u l) :
    Calls Try.prog 4 #[v, u] w fun e w' => e = .returned (.bool true) ∧ Below w.heap.size w w' := by
  obtain ⟨A3, n3, c3, rfl, _, _, _, _⟩ := hu.op
  have HU := Lib.hid hu
  clear hu
  have HV := Lib.hid hv
  obtain ⟨vs, vf, rfl, hs, hf⟩ := hv
  obtain ⟨A1, n1, c1, rfl, _, _, HN1, _⟩ := hs.op
  obtain ⟨A2, n2, c2, rfl, _, _, HN2, _⟩ := hf.op
  clear hs hf
  obtain ⟨st, hst⟩ : ∃ st, N.states = st := ⟨_, rfl⟩
  have HST := Lib.hid hst
  rw [hst] at HV ⊢
  clear hst
  go_enter Try.func4, Try.ntmps4
  go_wp2_with fail
  generalize hW : World.alloc w _ = W
  have HBW : Hid (Below w.heap.size w W) := by rw [← hW]; repeat (first | assumption | exact Below.refl _ _ | refine Below.alloc ?_ (by first | omega | (simp; done) | (simp; omega)) _ | refine Below.drew ?_ | refine below_drewN ?_ _ | refine Below.setCell ?_ (by first | omega | (simp; done) | (simp; omega)) _)
  have HNB : Hid (NBlk W w.heap.size (.int .i64 st) (.slice A1 n1 c1) (.slice A2 n2 c2)) := by rw [← hW]; exact heap_alloc_new w _
  clear hW
  refine (small_any _ _ N l _ (HV.out.below HBW.out) (HU.out.below HBW.out)).mono ?_
  rintro e w1 ⟨rfl, hb⟩
  have HB1 := Lib.hid (bchain HBW.out hb)
  have HNB1 := Lib.hid (HNB.out.below hb)
  clear hb HNB HBW
  cases hsm : smallB N l
  · skip
    go_wp2_with fail
    refine (awake_any _).mono ?_
    rintro e wz ⟨rfl, hbz⟩
    have HBZ := Lib.hid (bchain (HB1).out hbz)
    clear hbz
    go_wp2_with fail
    go_ret
    exact ⟨rfl, HBZ.out⟩
  have hG := small_good hsm
  clear hsm
  obtain ⟨S, hS⟩ : ∃ S : Nat, N.states = (S : Int) := ⟨N.states.toNat, by have := hG.s1; omega⟩
  obtain rfl : st = (S : Int) := HST.out.symm.trans hS
  go_wp2_with fail
  refine wp_region_mix 13 [0, 1, 2, 3, 4, 5, 6, 7, 8, 9, 10, 11, 12] [] [(true, 0), (true, 1), (true, 3), (true, 4), (false, 2), (false, 5), (true, 6), (true, 7), (true, 8), (true, 9), (true, 11), (true, 12), (false, 10), (false, 13), (false, 14), (false, 15), (false, 16), (false, 17), (false, 18), (false, 19)] (fun w' => Below w1.heap.size w1 w') (by kernel_rfl) (by kernel_rfl) ?_
  rintro D hD
  have HSD : Hid (Below w1.heap.size w1 D) := by rw [hD]; exact (Below.refl _ _).drew
  clear hD
  refine ⟨HSD.out, ?_⟩
  have HS : Hid (∀ w' : World, Below w1.heap.size w1 w' → w'.cell? ⟨w.heap.size, 0, none⟩ = some (.int .i64 S) ∧ w'.cell? ⟨w.heap.size, 1, none⟩ = some (.slice A1 n1 c1) ∧ w'.cell? ⟨w.heap.size, 2, none⟩ = some (.slice A2 n2 c2)) := by
    intro w' h
    obtain ⟨f0, f1, f2, _⟩ := (HNB1.out.below h).facts
    exact ⟨f0, f1, f2⟩
  iterate 4 (refine wpMix_q (v := ?_) rfl rfl (fun w' hS => ?_) ?_; rotate_left; (focus ((try obtain ⟨s0, s1, s2⟩ := HS.out _ (hS rfl)); clear hS; go_simp; try with_reducible rfl; done)); (try simp only [Act.put, List.setIfInBounds_toArray, List.set_cons_zero, List.set_cons_succ]))
  refine wpMix_e rfl rfl (fun K hK => ?_)
  go_simp
  refine (accepts_any _ _ N S l _ (HV.out.below (bchain HB1.out HSD.out)) (HU.out.below (bchain HB1.out HSD.out)) hG hS).mono ?_
  rintro e Y1 ⟨rfl, hb⟩
  refine hK.out _ _ (fun _ => bchain HSD.out hb) ?_
  clear hK K
  (try simp only [Act.put, List.setIfInBounds_toArray, List.set_cons_zero, List.set_cons_succ])
  have HSY1 := Lib.hid (bchain HSD.out hb)
  clear hb
  refine wpMix_e rfl rfl (fun K hK => ?_)
  go_simp
  refine (raccepts_any _ _ N S l _ (HV.out.below (bchain HB1.out HSY1.out)) (HU.out.below (bchain HB1.out HSY1.out)) hG hS).mono ?_
  rintro e Y2 ⟨rfl, hb⟩
  refine hK.out _ _ (fun _ => bchain HSY1.out hb) ?_
  clear hK K
  (try simp only [Act.put, List.setIfInBounds_toArray, List.set_cons_zero, List.set_cons_succ])
  have HSY2 := Lib.hid (bchain HSY1.out hb)
  clear hb
  have hq : (accF N l == accF N l) = true := by simp
  (refine wpMix_q (v := ?_) rfl rfl (fun w' hS => ?_) ?_; rotate_left; (focus ((try obtain ⟨s0, s1, s2⟩ := HS.out _ (hS rfl)); clear hS; go_simp; try with_reducible rfl; done)); (try simp only [Act.put, List.setIfInBounds_toArray, List.set_cons_zero, List.set_cons_succ]))
  iterate 5 (refine wpMix_q (v := ?_) rfl rfl (fun w' hS => ?_) ?_; rotate_left; (focus ((try obtain ⟨s0, s1, s2⟩ := HS.out _ (hS rfl)); clear hS; go_simp; try with_reducible rfl; done)); (try simp only [Act.put, List.setIfInBounds_toArray, List.set_cons_zero, List.set_cons_succ]))
  refine wpMix_e rfl rfl (fun K hK => ?_)
  go_simp
  refine (follow_any _ _ N S l _ (HV.out.below (bchain HB1.out HSY2.out)) (HU.out.below (bchain HB1.out HSY2.out)) hG hS).mono ?_
  rintro e Y3 ⟨⟨vmY3, rfl, hm⟩, hb⟩
  have RY3 := Lib.hid hm.rd
  refine hK.out _ _ (fun _ => bchain HSY2.out hb) ?_
  clear hK K
  (try simp only [Act.put, List.setIfInBounds_toArray, List.set_cons_zero, List.set_cons_succ])
  have HSY3 := Lib.hid (bchain HSY2.out hb)
  have HXY3 := Lib.hid hb
  clear hb hm
  refine wpMix_e rfl rfl (fun K hK => ?_)
  go_simp
  refine (rfollow_any _ _ N S l _ (HV.out.below (bchain HB1.out HSY3.out)) (HU.out.below (bchain HB1.out HSY3.out)) hG hS).mono ?_
  rintro e Y4 ⟨⟨vmY4, rfl, hm⟩, hb⟩
  have RY4 := Lib.hid hm.rd
  refine hK.out _ _ (fun _ => bchain HSY3.out hb) ?_
  clear hK K
  (try simp only [Act.put, List.setIfInBounds_toArray, List.set_cons_zero, List.set_cons_succ])
  have HSY4 := Lib.hid (bchain HSY3.out hb)
  have HXY4 := Lib.hid hb
  clear hb hm
  refine wpMix_e rfl rfl (fun K hK => ?_)
  go_simp
  refine (rsame_b _ _ (followF N S l) (followF N S l) _ (RY3.out.below HXY4.out) RY4.out).mono ?_
  rintro e Y5 ⟨rfl, hb⟩
  refine hK.out _ _ (fun h => absurd h (by decide)) ?_
  clear hK K
  (try simp only [Act.put, List.setIfInBounds_toArray, List.set_cons_zero, List.set_cons_succ])
  have HSY5 := Lib.hid (bchain HSY4.out hb)
  clear hb
  rw [same_yes]
  iterate 2 (refine wpMix_e rfl rfl (fun K hK => ?_); go_simp; refine hK.out _ _ (fun h => absurd h (by decide)) ?_; clear hK K; (try simp only [Act.put, List.setIfInBounds_toArray, List.set_cons_zero, List.set_cons_succ]))
  refine wpMix_e rfl rfl (fun K hK => ?_)
  go_simp
  refine (awake_any _).mono ?_
  rintro e Y6 ⟨rfl, hb⟩
  refine hK.out _ _ (fun h => absurd h (by decide)) ?_
  clear hK K
  (try simp only [Act.put, List.setIfInBounds_toArray, List.set_cons_zero, List.set_cons_succ])
  have HSY6 := Lib.hid (bchain HSY5.out hb)
  clear hb
  iterate 2 (refine wpMix_e rfl rfl (fun K hK => ?_); go_simp; refine hK.out _ _ (fun h => absurd h (by decide)) ?_; clear hK K; (try simp only [Act.put, List.setIfInBounds_toArray, List.set_cons_zero, List.set_cons_succ]))
  refine wpMix_nil ?_
  refine NoPanic.normal ?_
  go_wp2_with fail
  go_ret
  exact ⟨rfl, bchain HB1.out HSY6.out⟩
end Go.Proofs.Ytcmfgblfgldonaa
