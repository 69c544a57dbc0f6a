/-
  FstTrims: the walk.
-/
import Derived.Test.YtmejihlplbeekaaSW1
import Derived.Test.YtmejihlplbeekaaUP3
namespace Go.Proofs.Ytmejihlplbeekaa
open Go.ChangeShapes Go.WideShapes Go.ChangeAt Go.RowKit
set_option maxHeartbeats 4000000 in
set_option maxRecDepth 100000 in
theorem trims_walk (v vx vy : Value) (F : PFst) (xs ys : List Int) (w : World) (hv : RdF w v F) (hx : RdI w vx xs) (hy : RdI w vy ys) :
    Calls Try.prog 9 #[v, vx, vy] w fun e w' => e = .returned (.bool true) ∧ Below w.heap.size w w' := by
  have HV := Lib.hid hv
  obtain ⟨va, vf, rfl, ha, hf⟩ := hv
  obtain ⟨A1, n1, c1, rfl, _, _, HN1, _⟩ := ha.op
  obtain ⟨A2, n2, c2, rfl, _, _, HN2, _⟩ := hf.op
  clear ha hf
  obtain ⟨Ax, nx, cx, rfl, _, _, HNX, _⟩ := hx.op
  obtain ⟨Ay, ny, cy, rfl, _, _, HNY, _⟩ := hy.op
  have HX := Lib.hid hx
  have HY := Lib.hid hy
  clear hx hy
  go_enter Try.func9, Try.ntmps9
  go_wp2_with fail
  generalize hW : World.alloc w _ = W
  have HBW : Hid (Below w.heap.size w W) := by rw [← hW]; repeat (first | assumption | exact Below.refl _ _ | refine Below.alloc ?_ (by first | omega | (simp; done) | (simp; omega)) _ | refine Below.drew ?_ | refine below_drewN ?_ _ | refine Below.setCell ?_ (by first | omega | (simp; done) | (simp; omega)) _)
  have HP : Hid (FBlk W w.heap.size (.int .i64 F.states) (.slice A1 n1 c1) (.slice A2 n2 c2)) := by rw [← hW]; exact heap_alloc_new w _
  clear hW
  refine (light_any _ F _ (HV.out.below HBW.out)).mono ?_
  rintro e w1 ⟨rfl, hb⟩
  have HB1 : Hid (Below w.heap.size w w1) := bchain HBW.out hb
  have HP1 := Lib.hid (HP.out.below hb)
  clear hb HP HBW
  cases hl : lightB F
  · skip
    go_wp2_with fail
    refine (awake_any _).mono ?_
    rintro e wz ⟨rfl, hbz⟩
    have HBZ : Hid (Below w.heap.size w wz) := bchain (HB1.out) hbz
    clear hbz
    go_wp2_with fail
    go_ret
    exact ⟨rfl, HBZ.out⟩
  have HL := Lib.hid (lgt_of hl)
  clear hl
  go_wp2_with fail
  refine (short_any _ _ xs ys _ (HX.out.below HB1.out) (HY.out.below HB1.out)).mono ?_
  rintro e w2 ⟨rfl, rfl⟩
  cases hs : (decide (xs.length ≤ 24) && decide (ys.length ≤ 24))
  · skip
    go_wp2_with fail
    refine (awake_any _).mono ?_
    rintro e wz ⟨rfl, hbz⟩
    have HBZ : Hid (Below w.heap.size w wz) := bchain (HB1.out) hbz
    clear hbz
    go_wp2_with fail
    go_ret
    exact ⟨rfl, HBZ.out⟩
  simp only [Bool.and_eq_true, decide_eq_true_eq] at hs
  have hx24 : xs.length ≤ 1000 := by omega
  have hy24 : ys.length ≤ 1000 := by omega
  clear hs
  obtain ⟨G, hG⟩ : ∃ G, G = trimF F := ⟨_, rfl⟩
  have HGG : Hid (Good G) := by rw [hG]; exact trim_good HL.out.good
  have HGC : Hid (chk G = 0) := (chk_ok G).2 HGG.out
  have HGF : Hid (FinOk G) := good_fin HGG.out
  have HGL : Hid (G.final.length ≤ 1000000) := by rw [hG]; exact Nat.le_trans (trimE_len F F.final) (lgt_fl HL.out)
  have HT2 : Hid (trimF G = G) := by rw [hG]; exact trim_two HL.out.good
  have HEM : Hid (emptyB G = emptyB F) := by rw [hG]; exact empty_trim HL.out.good
  have HE1 : Hid (emptyB F = true → G = ⟨1, [], []⟩) := by rw [hG]; exact trim_none HL.out.good
  have HE2 : Hid (emptyB F = true → accB F xs ys = false) := fun h => acc_none HL.out.good h xs ys
  have HU : Hid (emptyB F = false → (((usefulL F).length : Nat) : Int) = G.states ∧ (((usefulL G).length : Nat) : Int) = G.states) := by rw [hG]; exact use_len HL.out.good
  have HAC : Hid (accB G xs ys = accB F xs ys) := by rw [hG]; exact trim_acc HL.out.good xs ys
  have HFT := Lib.hid (ftrim_any (.agg #[.int .i64 F.states, .slice A1 n1 c1, .slice A2 n2 c2]) F w1 (HV.out.below HB1.out) HL.out.fin (lgt_fl HL.out))
  rw [← hG] at HFT
  clear hG
  obtain ⟨p0, p1, p2, _, _, _⟩ := HP1.out.facts
  have hpl := HP1.out.lt
  go_wp2_with fail
  clear p0 p1 p2 hpl
  refine HFT.out.mono ?_
  rintro e w2 ⟨⟨vg, rfl, ho⟩, hb⟩
  have HG0 := Lib.hid ho.rd
  obtain ⟨ta, tf, rfl, hta, htf⟩ := ho
  obtain ⟨Ta, ca, rfl⟩ := own_sliceA hta
  obtain ⟨-, Tf, cf2, rfl⟩ := own_slice htf
  have HB2 : Hid (Below w.heap.size w w2) := bchain HB1.out hb
  have HP2 := Lib.hid (HP1.out.below hb)
  clear hb HFT HP1 HB1 hta htf
  go_upto_region 4 with (fail)
  generalize hW : World.alloc w2 _ = W
  have HX3 : Hid (Below w2.heap.size w2 W) := by rw [← hW]; exact al_below _ _
  have HP3 := Lib.hid (HP2.out.below HX3.out)
  have HQ3 : Hid (FBlk W w2.heap.size (.int .i64 G.states) (.slice Ta G.arcs.length ca) (.slice Tf G.final.length cf2)) := by rw [← hW]; exact heap_alloc_new w2 _
  have HBW : Hid (Below w.heap.size w W) := bchain HB2.out HX3.out
  have HV1 := Lib.hid (HV.out.below HBW.out)
  have HX1 := Lib.hid (HX.out.below HBW.out)
  have HY1 := Lib.hid (HY.out.below HBW.out)
  have HG1 := Lib.hid (HG0.out.below HX3.out)
  clear hW HX3 HP2 HG0 HB2
  refine wp_region_mix 14 [0, 1, 2, 3, 4, 5, 6, 7, 8, 9, 10, 11, 12, 13] [] [(true, 0), (false, 1), (true, 2), (true, 3), (true, 4), (true, 6), (false, 5), (false, 7), (true, 8), (true, 9), (true, 10), (true, 11), (true, 13), (false, 12), (false, 14), (false, 15), (false, 16)] (fun w' => Below W.heap.size W w') (by kernel_rfl) (by kernel_rfl) ?_
  rintro D hD
  have HSD : Hid (Below W.heap.size W D) := by rw [hD]; exact (Below.refl _ _).drew
  clear hD
  refine ⟨HSD.out, ?_⟩
  have HS : Hid (∀ w' : World, Below W.heap.size W w' → (w'.cell? ⟨w.heap.size, 0, none⟩ = some (.int .i64 F.states) ∧ w'.cell? ⟨w.heap.size, 1, none⟩ = some (.slice A1 n1 c1) ∧ w'.cell? ⟨w.heap.size, 2, none⟩ = some (.slice A2 n2 c2)) ∧ w'.cell? ⟨w2.heap.size, 0, none⟩ = some (.int .i64 G.states) ∧ w'.cell? ⟨w2.heap.size, 1, none⟩ = some (.slice Ta G.arcs.length ca) ∧ w'.cell? ⟨w2.heap.size, 2, none⟩ = some (.slice Tf G.final.length cf2)) := by
    intro w' h
    obtain ⟨f0, f1, f2, _⟩ := ((HP3.out).below h).facts
    obtain ⟨g0, g1, g2, _⟩ := ((HQ3.out).below h).facts
    exact ⟨⟨f0, f1, f2⟩, g0, g1, g2⟩
  iterate 1 (refine wpMix_q (v := ?_) rfl rfl (fun w' hS => ?_) ?_; rotate_left; (focus ((try obtain ⟨⟨s0, s1, s2⟩, u0, u1, u2⟩ := HS.out _ (hS rfl)); clear hS; go_simp; try with_reducible rfl; done)); (try simp only [Act.put, List.setIfInBounds_toArray, List.set_cons_zero, List.set_cons_succ]))
  refine wpMix_e rfl rfl (fun K hK => ?_)
  go_simp
  refine (fcheck_any _ G _ (HG1.out.below HSD.out)).mono ?_
  rintro e Y1 ⟨rfl, hb⟩
  refine hK.out _ _ (fun _ => bchain HSD.out hb) ?_
  clear hK K
  (try dsimp only); (try simp only [Act.put]); (try simp only [List.setIfInBounds_toArray, List.set_cons_zero, List.set_cons_succ])
  have HSY1 := Lib.hid (bchain HSD.out hb)
  clear hb
  rw [HGC.out]
  iterate 4 (refine wpMix_q (v := ?_) rfl rfl (fun w' hS => ?_) ?_; rotate_left; (focus ((try obtain ⟨⟨s0, s1, s2⟩, u0, u1, u2⟩ := HS.out _ (hS rfl)); clear hS; go_simp; try with_reducible rfl; done)); (try simp only [Act.put, List.setIfInBounds_toArray, List.set_cons_zero, List.set_cons_succ]))
  refine wpMix_e rfl rfl (fun K hK => ?_)
  go_simp
  refine (ftrim_any _ G _ (HG1.out.below HSY1.out) HGF.out HGL.out).mono ?_
  rintro e Y2 ⟨⟨vY2, rfl, ho⟩, hb⟩
  have RY2 := Lib.hid ho.rd
  obtain ⟨taY2, tfY2, rfl, hta, htf⟩ := ho
  obtain ⟨_, _, rfl⟩ := own_sliceA hta
  obtain ⟨-, _, _, rfl⟩ := own_slice htf
  refine hK.out _ _ (fun _ => bchain HSY1.out hb) ?_
  clear hK K hta htf
  (try dsimp only); (try simp only [Act.put]); (try simp only [List.setIfInBounds_toArray, List.set_cons_zero, List.set_cons_succ])
  have HSY2 := Lib.hid (bchain HSY1.out hb)
  have HXY2 := Lib.hid hb
  clear hb
  refine wpMix_e rfl rfl (fun K hK => ?_)
  go_simp
  refine (fsame_any _ _ (trimF G) G _ RY2.out (HG1.out.below HSY2.out)).mono ?_
  rintro e Y3 ⟨rfl, hb⟩
  refine hK.out _ _ (fun _ => bchain HSY2.out hb) ?_
  clear hK K
  (try dsimp only); (try simp only [Act.put]); (try simp only [List.setIfInBounds_toArray, List.set_cons_zero, List.set_cons_succ])
  have HSY3 := Lib.hid (bchain HSY2.out hb)
  clear hb
  rw [pB_yes HT2.out]
  iterate 5 (refine wpMix_q (v := ?_) rfl rfl (fun w' hS => ?_) ?_; rotate_left; (focus ((try obtain ⟨⟨s0, s1, s2⟩, u0, u1, u2⟩ := HS.out _ (hS rfl)); clear hS; go_simp; try with_reducible rfl; done)); (try simp only [Act.put, List.setIfInBounds_toArray, List.set_cons_zero, List.set_cons_succ]))
  refine wpMix_e rfl rfl (fun K hK => ?_)
  go_simp
  refine (fempty_any _ G _ (HG1.out.below HSY3.out) HGF.out HGL.out).mono ?_
  rintro e Y4 ⟨rfl, hb⟩
  refine hK.out _ _ (fun _ => bchain HSY3.out hb) ?_
  clear hK K
  (try dsimp only); (try simp only [Act.put]); (try simp only [List.setIfInBounds_toArray, List.set_cons_zero, List.set_cons_succ])
  have HSY4 := Lib.hid (bchain HSY3.out hb)
  clear hb
  rw [HEM.out]
  refine wpMix_e rfl rfl (fun K hK => ?_)
  go_simp
  refine (fempty_any _ F _ (HV1.out.below HSY4.out) HL.out.fin (lgt_fl HL.out)).mono ?_
  rintro e Y5 ⟨rfl, hb⟩
  refine hK.out _ _ (fun h => absurd h (by decide)) ?_
  clear hK K
  (try dsimp only); (try simp only [Act.put]); (try simp only [List.setIfInBounds_toArray, List.set_cons_zero, List.set_cons_succ])
  have HSY5 := Lib.hid (bchain HSY4.out hb)
  clear hb
  have hq : (emptyB F != emptyB F) = false := by simp
  iterate 2 (refine wpMix_e rfl rfl (fun K hK => ?_); go_simp; refine hK.out _ _ (fun h => absurd h (by decide)) ?_; clear hK K; (try simp only [Act.put, List.setIfInBounds_toArray, List.set_cons_zero, List.set_cons_succ]))
  refine wpMix_nil ?_
  refine NoPanic.normal ?_
  clear hq HS
  obtain ⟨p0, p1, p2, _, _, _⟩ := (HP3.out.below HSY5.out).facts
  have hpl := (HP3.out.below HSY5.out).lt
  go_wp2_with fail
  clear p0 p1 p2 hpl
  refine (fempty_any _ F _ (HV1.out.below HSY5.out) HL.out.fin (lgt_fl HL.out)).mono ?_
  rintro e w6 ⟨rfl, hb⟩
  have HB6 : Hid (Below W.heap.size W w6) := bchain HSY5.out hb
  clear hb
  cases he : emptyB F
  · have HU1 := Lib.hid (HU.out he)
    clear he
    go_upto_region 8 with (fail)
    have HB7 := Lib.hid (bchain HBW.out HB6.out)
    have HV2 := Lib.hid (HV.out.below HB7.out)
    have HX2 := Lib.hid (HX.out.below HB7.out)
    have HY2 := Lib.hid (HY.out.below HB7.out)
    have HG2 := Lib.hid (HG1.out.below HB6.out)
    refine wp_region_mix 22 [0, 1, 2, 3, 4, 5, 6, 7, 8, 9, 10, 11, 12, 13, 14, 15, 16, 17, 18, 19, 20, 21] [] [(true, 0), (true, 3), (true, 4), (false, 1), (true, 2), (true, 5), (true, 6), (true, 7), (true, 10), (true, 11), (false, 8), (true, 9), (true, 12), (true, 13), (true, 14), (true, 15), (true, 16), (true, 17), (true, 19), (true, 20), (true, 21), (false, 18), (false, 22), (false, 23), (false, 24), (false, 25), (false, 26), (false, 27), (false, 28)] (fun w' => Below w6.heap.size w6 w') (by kernel_rfl) (by kernel_rfl) ?_
    rintro D hD
    have HSD : Hid (Below w6.heap.size w6 D) := by rw [hD]; exact (Below.refl _ _).drew
    clear hD
    refine ⟨HSD.out, ?_⟩
    have HS : Hid (∀ w' : World, Below w6.heap.size w6 w' → (w'.cell? ⟨w.heap.size, 0, none⟩ = some (.int .i64 F.states) ∧ w'.cell? ⟨w.heap.size, 1, none⟩ = some (.slice A1 n1 c1) ∧ w'.cell? ⟨w.heap.size, 2, none⟩ = some (.slice A2 n2 c2)) ∧ w'.cell? ⟨w2.heap.size, 0, none⟩ = some (.int .i64 G.states) ∧ w'.cell? ⟨w2.heap.size, 1, none⟩ = some (.slice Ta G.arcs.length ca) ∧ w'.cell? ⟨w2.heap.size, 2, none⟩ = some (.slice Tf G.final.length cf2)) := by
      intro w' h
      obtain ⟨f0, f1, f2, _⟩ := ((HP3.out.below HB6.out).below h).facts
      obtain ⟨g0, g1, g2, _⟩ := ((HQ3.out.below HB6.out).below h).facts
      exact ⟨⟨f0, f1, f2⟩, g0, g1, g2⟩
    have hu1 : (((usefulL F).length : Nat) : Int) = G.states := HU1.out.1
    have hu2 : (((usefulL G).length : Nat) : Int) = G.states := HU1.out.2
    iterate 3 (refine wpMix_q (v := ?_) rfl rfl (fun w' hS => ?_) ?_; rotate_left; (focus ((try obtain ⟨⟨s0, s1, s2⟩, u0, u1, u2⟩ := HS.out _ (hS rfl)); clear hS; go_simp; try with_reducible rfl; done)); (try simp only [Act.put, List.setIfInBounds_toArray, List.set_cons_zero, List.set_cons_succ]))
    refine wpMix_e rfl rfl (fun K hK => ?_)
    go_simp
    refine (useful_any _ G _ (HG2.out.below HSD.out) HGF.out HGL.out).mono ?_
    rintro e Z1 ⟨⟨vZ1, rfl, ho⟩, hb⟩
    obtain ⟨-, AZ1, cZ1, rfl⟩ := own_slice ho
    refine hK.out _ _ (fun _ => bchain HSD.out hb) ?_
    clear hK K ho
    (try dsimp only); (try simp only [Act.put]); (try simp only [List.setIfInBounds_toArray, List.set_cons_zero, List.set_cons_succ])
    have HSZ1 := Lib.hid (bchain HSD.out hb)
    clear hb
    iterate 6 (refine wpMix_q (v := ?_) rfl rfl (fun w' hS => ?_) ?_; rotate_left; (focus ((try obtain ⟨⟨s0, s1, s2⟩, u0, u1, u2⟩ := HS.out _ (hS rfl)); clear hS; go_simp; try with_reducible rfl; done)); (try simp only [Act.put, List.setIfInBounds_toArray, List.set_cons_zero, List.set_cons_succ]))
    refine wpMix_e rfl rfl (fun K hK => ?_)
    go_simp
    refine (useful_any _ F _ (HV2.out.below HSZ1.out) HL.out.fin (lgt_fl HL.out)).mono ?_
    rintro e Z2 ⟨⟨vZ2, rfl, ho⟩, hb⟩
    obtain ⟨-, AZ2, cZ2, rfl⟩ := own_slice ho
    refine hK.out _ _ (fun _ => bchain HSZ1.out hb) ?_
    clear hK K ho
    (try dsimp only); (try simp only [Act.put]); (try simp only [List.setIfInBounds_toArray, List.set_cons_zero, List.set_cons_succ])
    have HSZ2 := Lib.hid (bchain HSZ1.out hb)
    clear hb
    iterate 10 (refine wpMix_q (v := ?_) rfl rfl (fun w' hS => ?_) ?_; rotate_left; (focus ((try obtain ⟨⟨s0, s1, s2⟩, u0, u1, u2⟩ := HS.out _ (hS rfl)); clear hS; go_simp; try with_reducible rfl; done)); (try simp only [Act.put, List.setIfInBounds_toArray, List.set_cons_zero, List.set_cons_succ]))
    refine wpMix_e rfl rfl (fun K hK => ?_)
    go_simp
    refine (faccepts_any _ _ _ G xs ys _ (HG2.out.below HSZ2.out) (HX2.out.below HSZ2.out) (HY2.out.below HSZ2.out) HGF.out.right HGF.out.ord HGF.out.st HGF.out.al HGL.out hx24 hy24).mono ?_
    rintro e Z3 ⟨rfl, hb⟩
    refine hK.out _ _ (fun _ => bchain HSZ2.out hb) ?_
    clear hK K
    (try dsimp only); (try simp only [Act.put]); (try simp only [List.setIfInBounds_toArray, List.set_cons_zero, List.set_cons_succ])
    have HSZ3 := Lib.hid (bchain HSZ2.out hb)
    clear hb
    rw [HAC.out]
    refine wpMix_e rfl rfl (fun K hK => ?_)
    go_simp
    refine (faccepts_any _ _ _ F xs ys _ (HV2.out.below HSZ3.out) (HX2.out.below HSZ3.out) (HY2.out.below HSZ3.out) HL.out.fin.right HL.out.fin.ord HL.out.fin.st HL.out.fin.al (lgt_fl HL.out) hx24 hy24).mono ?_
    rintro e Z4 ⟨rfl, hb⟩
    refine hK.out _ _ (fun h => absurd h (by decide)) ?_
    clear hK K
    (try dsimp only); (try simp only [Act.put]); (try simp only [List.setIfInBounds_toArray, List.set_cons_zero, List.set_cons_succ])
    have HSZ4 := Lib.hid (bchain HSZ3.out hb)
    clear hb
    have hq : (accB F xs ys == accB F xs ys) = true := by simp
    iterate 3 (refine wpMix_e rfl rfl (fun K hK => ?_); go_simp; refine hK.out _ _ (fun h => absurd h (by decide)) ?_; clear hK K; (try simp only [Act.put, List.setIfInBounds_toArray, List.set_cons_zero, List.set_cons_succ]))
    refine wpMix_e rfl rfl (fun K hK => ?_)
    go_simp
    refine (awake_any _).mono ?_
    rintro e Z5 ⟨rfl, hb⟩
    refine hK.out _ _ (fun h => absurd h (by decide)) ?_
    clear hK K
    (try dsimp only); (try simp only [Act.put]); (try simp only [List.setIfInBounds_toArray, List.set_cons_zero, List.set_cons_succ])
    have HSZ5 := Lib.hid (bchain HSZ4.out hb)
    clear hb
    iterate 2 (refine wpMix_e rfl rfl (fun K hK => ?_); go_simp; refine hK.out _ _ (fun h => absurd h (by decide)) ?_; clear hK K; (try simp only [Act.put, List.setIfInBounds_toArray, List.set_cons_zero, List.set_cons_succ]))
    refine wpMix_nil ?_
    refine NoPanic.normal ?_
    go_wp2_with fail
    go_ret
    exact ⟨rfl, bchain HB7.out HSZ5.out⟩
  · have hg := HE1.out he
    have hst : G.states = 1 := by rw [hg]
    have hla : G.arcs.length = 0 := by rw [hg]; rfl
    have hlf : G.final.length = 0 := by rw [hg]; rfl
    have hac := HE2.out he
    have HB7 := Lib.hid (bchain HBW.out HB6.out)
    clear he hg
    obtain ⟨p0, p1, p2, _, _, _⟩ := (HP3.out.below HB6.out).facts
    have hpl := (HP3.out.below HB6.out).lt
    obtain ⟨q0, q1, q2, _, _, _⟩ := (HQ3.out.below HB6.out).facts
    have hql := (HQ3.out.below HB6.out).lt
    rw [hst] at q0
    rw [hla] at q1
    rw [hlf] at q2
    go_wp2_with fail
    clear p0 p1 p2 hpl q0 q1 q2 hql
    refine (faccepts_any _ _ _ F xs ys _ (HV.out.below HB7.out) (HX.out.below HB7.out) (HY.out.below HB7.out) HL.out.fin.right HL.out.fin.ord HL.out.fin.st HL.out.fin.al (lgt_fl HL.out) hx24 hy24).mono ?_
    rintro e w8 ⟨rfl, hb⟩
    rw [hac]
    have HB8 : Hid (Below w.heap.size w w8) := bchain HB7.out hb
    clear hb
    go_wp2_with fail
    refine (awake_any _).mono ?_
    rintro e wz ⟨rfl, hbz⟩
    have HBZ : Hid (Below w.heap.size w wz) := bchain (HB8.out) hbz
    clear hbz
    go_wp2_with fail
    go_ret
    exact ⟨rfl, HBZ.out⟩
end Go.Proofs.Ytmejihlplbeekaa
