/-
  FstUseful, FstLimits: the walks.
-/
import Derived.Test.YtmejihlplbeekaaSW1
namespace Go.Proofs.Ytmejihlplbeekaa
open Go.ChangeShapes Go.WideShapes Go.ChangeAt Go.RowKit
set_option maxHeartbeats 4000000 in
set_option maxRecDepth 100000 in
theorem useful_walk (v : Value) (F : PFst) (w : World) (hv : RdF w v F) :
    Calls Try.prog 7 #[v] w fun e w' => e = .returned (.bool true) ∧ Below w.heap.size w w' := by
  have HV := Lib.hid hv
  obtain ⟨va, vf, rfl, ha, hf⟩ := hv
  obtain ⟨A1, n1, c1, rfl, _, _, HN1, _⟩ := ha.op
  obtain ⟨A2, n2, c2, rfl, _, _, HN2, _⟩ := hf.op
  clear ha hf
  go_enter Try.func7, Try.ntmps7
  go_wp2_with fail
  generalize hW : World.alloc w _ = W
  have HBW : Hid (Below w.heap.size w W) := by rw [← hW]; repeat (first | assumption | exact Below.refl _ _ | refine Below.alloc ?_ (by first | omega | (simp; done) | (simp; omega)) _ | refine Below.drew ?_ | refine below_drewN ?_ _ | refine Below.setCell ?_ (by first | omega | (simp; done) | (simp; omega)) _)
  have HP : Hid (FBlk W w.heap.size (.int .i64 F.states) (.slice A1 n1 c1) (.slice A2 n2 c2)) := by rw [← hW]; exact heap_alloc_new w _
  clear hW
  refine (light_any _ F _ (HV.out.below HBW.out)).mono ?_
  rintro e w1 ⟨rfl, hb⟩
  have HB1 : Hid (Below w.heap.size w w1) := bchain HBW.out hb
  have HP1 := Lib.hid (HP.out.below hb)
  clear hb HP HBW
  cases hl : lightB F
  · skip
    go_wp2_with fail
    refine (awake_any _).mono ?_
    rintro e wz ⟨rfl, hbz⟩
    have HBZ : Hid (Below w.heap.size w wz) := bchain (HB1.out) hbz
    clear hbz
    go_wp2_with fail
    go_ret
    exact ⟨rfl, HBZ.out⟩
  have HL := Lib.hid (lgt_of hl)
  have HFL := Lib.hid (lgt_fl HL.out)
  clear hl
  go_upto_region 3 with (fail)
  have HV1 := Lib.hid (HV.out.below HB1.out)
  refine wp_region_mix 16 [0, 1, 2, 3, 4, 5, 6, 7, 8, 9, 10, 11, 12, 13, 14, 15] [] [(true, 0), (true, 2), (false, 1), (false, 3), (false, 4), (true, 5), (true, 6), (true, 8), (false, 7), (false, 9), (false, 10), (true, 11), (true, 12), (true, 13), (true, 15), (false, 14), (false, 16), (false, 17), (false, 18), (false, 19), (false, 20), (false, 21), (false, 22)] (fun w' => Below w1.heap.size w1 w') (by kernel_rfl) (by kernel_rfl) ?_
  rintro D hD
  have HSD : Hid (Below w1.heap.size w1 D) := by rw [hD]; exact (Below.refl _ _).drew
  clear hD
  refine ⟨HSD.out, ?_⟩
  have HS : Hid (∀ w' : World, Below w1.heap.size w1 w' → w'.cell? ⟨w.heap.size, 0, none⟩ = some (.int .i64 F.states) ∧ w'.cell? ⟨w.heap.size, 1, none⟩ = some (.slice A1 n1 c1) ∧ w'.cell? ⟨w.heap.size, 2, none⟩ = some (.slice A2 n2 c2)) := by
    intro w' h
    obtain ⟨f0, f1, f2, _⟩ := (HP1.out.below h).facts
    exact ⟨f0, f1, f2⟩
  iterate 2 (refine wpMix_q (v := ?_) rfl rfl (fun w' hS => ?_) ?_; rotate_left; (focus ((try obtain ⟨s0, s1, s2⟩ := HS.out _ (hS rfl)); clear hS; go_simp; try with_reducible rfl; done)); (try simp only [Act.put, List.setIfInBounds_toArray, List.set_cons_zero, List.set_cons_succ]))
  refine wpMix_e rfl rfl (fun K hK => ?_)
  go_simp
  refine (useful_any _ F _ (HV1.out.below HSD.out) HL.out.fin HFL.out).mono ?_
  rintro e Y1 ⟨⟨vY1, rfl, ho⟩, hb⟩
  obtain ⟨-, AY1, cY1, rfl⟩ := own_slice ho
  have RY1 := Lib.hid ho.rd
  refine hK.out _ _ (fun _ => bchain HSD.out hb) ?_
  clear hK K ho
  (try dsimp only); (try simp only [Act.put]); (try simp only [List.setIfInBounds_toArray, List.set_cons_zero, List.set_cons_succ])
  have HSY1 := Lib.hid (bchain HSD.out hb)
  have HXY1 := Lib.hid hb
  clear hb
  refine wpMix_e rfl rfl (fun K hK => ?_)
  go_simp
  refine (rUseful_any _ F _ (HV1.out.below HSY1.out) HL.out.fin).mono ?_
  rintro e Y2 ⟨⟨vY2, rfl, ho⟩, hb⟩
  obtain ⟨-, AY2, cY2, rfl⟩ := own_slice ho
  have RY2 := Lib.hid ho.rd
  refine hK.out _ _ (fun _ => bchain HSY1.out hb) ?_
  clear hK K ho
  (try dsimp only); (try simp only [Act.put]); (try simp only [List.setIfInBounds_toArray, List.set_cons_zero, List.set_cons_succ])
  have HSY2 := Lib.hid (bchain HSY1.out hb)
  have HXY2 := Lib.hid hb
  clear hb
  refine wpMix_e rfl rfl (fun K hK => ?_)
  go_simp
  refine (rsameb_any _ _ (usefulL F) (usefulL F) _ (RY1.out.below HXY2.out) RY2.out).mono ?_
  rintro e Y3 ⟨rfl, hb⟩
  refine hK.out _ _ (fun _ => bchain HSY2.out hb) ?_
  clear hK K
  (try dsimp only); (try simp only [Act.put]); (try simp only [List.setIfInBounds_toArray, List.set_cons_zero, List.set_cons_succ])
  have HSY3 := Lib.hid (bchain HSY2.out hb)
  clear hb
  rw [same_yes]
  iterate 3 (refine wpMix_q (v := ?_) rfl rfl (fun w' hS => ?_) ?_; rotate_left; (focus ((try obtain ⟨s0, s1, s2⟩ := HS.out _ (hS rfl)); clear hS; go_simp; try with_reducible rfl; done)); (try simp only [Act.put, List.setIfInBounds_toArray, List.set_cons_zero, List.set_cons_succ]))
  refine wpMix_e rfl rfl (fun K hK => ?_)
  go_simp
  refine (ftrim_any _ F _ (HV1.out.below HSY3.out) HL.out.fin HFL.out).mono ?_
  rintro e Y4 ⟨⟨vY4, rfl, ho⟩, hb⟩
  have RY4 := Lib.hid ho.rd
  obtain ⟨taY4, tfY4, rfl, hta, htf⟩ := ho
  obtain ⟨_, _, rfl⟩ := own_sliceA hta
  obtain ⟨-, _, _, rfl⟩ := own_slice htf
  refine hK.out _ _ (fun _ => bchain HSY3.out hb) ?_
  clear hK K hta htf
  (try dsimp only); (try simp only [Act.put]); (try simp only [List.setIfInBounds_toArray, List.set_cons_zero, List.set_cons_succ])
  have HSY4 := Lib.hid (bchain HSY3.out hb)
  have HXY4 := Lib.hid hb
  clear hb
  refine wpMix_e rfl rfl (fun K hK => ?_)
  go_simp
  refine (rtrim_any _ F _ (HV1.out.below HSY4.out) HL.out.fin HFL.out).mono ?_
  rintro e Y5 ⟨⟨vY5, rfl, ho⟩, hb⟩
  have RY5 := Lib.hid ho.rd
  obtain ⟨taY5, tfY5, rfl, hta, htf⟩ := ho
  obtain ⟨_, _, rfl⟩ := own_sliceA hta
  obtain ⟨-, _, _, rfl⟩ := own_slice htf
  refine hK.out _ _ (fun _ => bchain HSY4.out hb) ?_
  clear hK K hta htf
  (try dsimp only); (try simp only [Act.put]); (try simp only [List.setIfInBounds_toArray, List.set_cons_zero, List.set_cons_succ])
  have HSY5 := Lib.hid (bchain HSY4.out hb)
  have HXY5 := Lib.hid hb
  clear hb
  refine wpMix_e rfl rfl (fun K hK => ?_)
  go_simp
  refine (rfsame_any _ _ (trimF F) (trimF F) _ (RY4.out.below HXY5.out) RY5.out).mono ?_
  rintro e Y6 ⟨rfl, hb⟩
  refine hK.out _ _ (fun _ => bchain HSY5.out hb) ?_
  clear hK K
  (try dsimp only)
  have HSY6 := Lib.hid (bchain HSY5.out hb)
  clear hb
  first | rw [pB_yes (rfl : trimF F = trimF F)] | rw [show pB True = true from pB_yes trivial]
  iterate 4 (refine wpMix_q (v := ?_) rfl rfl (fun w' hS => ?_) ?_; rotate_left; (focus ((try obtain ⟨s0, s1, s2⟩ := HS.out _ (hS rfl)); clear hS; go_simp; try with_reducible rfl; done)); (try simp only [Act.put, List.setIfInBounds_toArray, List.set_cons_zero, List.set_cons_succ]))
  refine wpMix_e rfl rfl (fun K hK => ?_)
  go_simp
  refine (fempty_any _ F _ (HV1.out.below HSY6.out) HL.out.fin HFL.out).mono ?_
  rintro e Y7 ⟨rfl, hb⟩
  refine hK.out _ _ (fun _ => bchain HSY6.out hb) ?_
  clear hK K
  (try dsimp only); (try simp only [Act.put]); (try simp only [List.setIfInBounds_toArray, List.set_cons_zero, List.set_cons_succ])
  have HSY7 := Lib.hid (bchain HSY6.out hb)
  clear hb
  refine wpMix_e rfl rfl (fun K hK => ?_)
  go_simp
  refine (rempty_any _ F _ (HV1.out.below HSY7.out) HL.out.fin).mono ?_
  rintro e Y8 ⟨rfl, hb⟩
  refine hK.out _ _ (fun h => absurd h (by decide)) ?_
  clear hK K
  (try dsimp only); (try simp only [Act.put]); (try simp only [List.setIfInBounds_toArray, List.set_cons_zero, List.set_cons_succ])
  have HSY8 := Lib.hid (bchain HSY7.out hb)
  clear hb
  have hq : (emptyB F == emptyB F) = true := by simp
  iterate 3 (refine wpMix_e rfl rfl (fun K hK => ?_); go_simp; refine hK.out _ _ (fun h => absurd h (by decide)) ?_; clear hK K; (try simp only [Act.put, List.setIfInBounds_toArray, List.set_cons_zero, List.set_cons_succ]))
  refine wpMix_e rfl rfl (fun K hK => ?_)
  go_simp
  refine (awake_any _).mono ?_
  rintro e Y9 ⟨rfl, hb⟩
  refine hK.out _ _ (fun h => absurd h (by decide)) ?_
  clear hK K
  (try dsimp only); (try simp only [Act.put]); (try simp only [List.setIfInBounds_toArray, List.set_cons_zero, List.set_cons_succ])
  have HSY9 := Lib.hid (bchain HSY8.out hb)
  clear hb
  iterate 2 (refine wpMix_e rfl rfl (fun K hK => ?_); go_simp; refine hK.out _ _ (fun h => absurd h (by decide)) ?_; clear hK K; (try simp only [Act.put, List.setIfInBounds_toArray, List.set_cons_zero, List.set_cons_succ]))
  refine wpMix_nil ?_
  refine NoPanic.normal ?_
  go_wp2_with fail
  go_ret
  exact ⟨rfl, bchain HB1.out HSY9.out⟩
end Go.Proofs.Ytmejihlplbeekaa
