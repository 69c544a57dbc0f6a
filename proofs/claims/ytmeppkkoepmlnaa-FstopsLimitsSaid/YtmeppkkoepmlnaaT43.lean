/-
  FstopsLimits: the walk.
-/
import Derived.Test.YtmeppkkoepmlnaaT42
namespace Go.Proofs.Ytmeppkkoepmlnaa
open Go.ChangeShapes Go.WideShapes Go.ChangeAt Go.RowKit
set_option maxHeartbeats 8000000 in
set_option maxRecDepth 100000 in
theorem limits_walk (x0 x1 y0 y1 : Int) (w : World) :
    Calls Try.prog 11 #[.agg #[.int .i64 x0, .int .i64 x1], .agg #[.int .i64 y0, .int .i64 y1]] w fun e w' => e = .returned (.bool true) ∧ Below w.heap.size w w' := by
  go_enter Try.func11, Try.ntmps11
  go_wp2_with fail
  generalize hW : World.alloc (World.alloc w _) _ = W
  have HP1 : Hid (PBlk W w.heap.size x0 x1) := by rw [← hW]; exact (Below.heap_alloc _ _ _ (by first | omega | (simp; done) | (simp; omega))).trans (heap_alloc_new w _)
  have HP2 : Hid (PBlk W (w.heap.size + 1) y0 y1) := by
    rw [Hid, PBlk, ← hW]
    have := heap_alloc_new (w.alloc (.cells #[.int .i64 x0, .int .i64 x1] 49)) (.cells #[.int .i64 y0, .int .i64 y1] 49)
    simpa using this
  have HBW : Hid (Below w.heap.size w W) := by rw [← hW]; repeat (first | assumption | exact Below.refl _ _ | refine Below.alloc ?_ (by first | omega | (simp; done) | (simp; omega)) _ | refine Below.drew ?_ | refine below_drewN ?_ _ | refine Below.setCell ?_ (by first | omega | (simp; done) | (simp; omega)) _)
  clear hW
  obtain ⟨p0, p1, hp1⟩ := HP1.out.facts
  obtain ⟨q0, q1, hp2⟩ := HP2.out.facts
  have HLO := Lib.hid (trivial : True)
  go_loop [5] (fun i => ∃ k : Nat, k ≤ 2 ∧ i = .int .i64 k ∧ Hid ((0 < k → Bd x0 y0) ∧ (1 < k → Bd x1 y1))) (fun i => 2 - (intOf i).toNat)
  case atStart => exact ⟨0, Nat.zero_le _, rfl, fun h => absurd h (by omega), fun h => absurd h (by omega)⟩
  case round =>
    obtain ⟨k, hk, rfl, HK⟩ := hrel
    obtain rfl | rfl | rfl : k = 0 ∨ k = 1 ∨ k = 2 := by omega
    · skip
      by_cases a1 : x0 < 1
      · have t1 : decide (x0 < 1) = true := by simpa using a1
        have HC := Lib.hid HLO.out
        go_wp2_with fail
        refine (awake_any _).mono ?_
        rintro e wz ⟨rfl, hbz⟩
        have HBZ := Lib.hid hbz
        clear hbz
        go_wp2_with fail
        go_ret
        exact ⟨rfl, bchain HBW.out HBZ.out⟩
      have t1 : decide (x0 < 1) = false := by simpa using a1
      by_cases a2 : 1100 < x0
      · have t2 : decide (1100 < x0) = true := by simpa using a2
        have HC := Lib.hid HLO.out
        go_wp2_with fail
        refine (awake_any _).mono ?_
        rintro e wz ⟨rfl, hbz⟩
        have HBZ := Lib.hid hbz
        clear hbz
        go_wp2_with fail
        go_ret
        exact ⟨rfl, bchain HBW.out HBZ.out⟩
      have t2 : decide (1100 < x0) = false := by simpa using a2
      by_cases a3 : y0 < 0
      · have t3 : decide (y0 < 0) = true := by simpa using a3
        have HC := Lib.hid HLO.out
        go_wp2_with fail
        refine (awake_any _).mono ?_
        rintro e wz ⟨rfl, hbz⟩
        have HBZ := Lib.hid hbz
        clear hbz
        go_wp2_with fail
        go_ret
        exact ⟨rfl, bchain HBW.out HBZ.out⟩
      have t3 : decide (y0 < 0) = false := by simpa using a3
      by_cases a4 : 10100 < y0
      · have t4 : decide (10100 < y0) = true := by simpa using a4
        have HC := Lib.hid HLO.out
        go_wp2_with fail
        refine (awake_any _).mono ?_
        rintro e wz ⟨rfl, hbz⟩
        have HBZ := Lib.hid hbz
        clear hbz
        go_wp2_with fail
        go_ret
        exact ⟨rfl, bchain HBW.out HBZ.out⟩
      have t4 : decide (10100 < y0) = false := by simpa using a4
      go_wp2_with fail
      go_round
      case rel => exact ⟨1, by omega, by go_num, fun _ => ⟨by omega, by omega, by omega, by omega⟩, fun h => absurd h (by omega)⟩
      case measure => simp [intOf]
    · skip
      by_cases a1 : x1 < 1
      · have t1 : decide (x1 < 1) = true := by simpa using a1
        have HC := Lib.hid HLO.out
        go_wp2_with fail
        refine (awake_any _).mono ?_
        rintro e wz ⟨rfl, hbz⟩
        have HBZ := Lib.hid hbz
        clear hbz
        go_wp2_with fail
        go_ret
        exact ⟨rfl, bchain HBW.out HBZ.out⟩
      have t1 : decide (x1 < 1) = false := by simpa using a1
      by_cases a2 : 1100 < x1
      · have t2 : decide (1100 < x1) = true := by simpa using a2
        have HC := Lib.hid HLO.out
        go_wp2_with fail
        refine (awake_any _).mono ?_
        rintro e wz ⟨rfl, hbz⟩
        have HBZ := Lib.hid hbz
        clear hbz
        go_wp2_with fail
        go_ret
        exact ⟨rfl, bchain HBW.out HBZ.out⟩
      have t2 : decide (1100 < x1) = false := by simpa using a2
      by_cases a3 : y1 < 0
      · have t3 : decide (y1 < 0) = true := by simpa using a3
        have HC := Lib.hid HLO.out
        go_wp2_with fail
        refine (awake_any _).mono ?_
        rintro e wz ⟨rfl, hbz⟩
        have HBZ := Lib.hid hbz
        clear hbz
        go_wp2_with fail
        go_ret
        exact ⟨rfl, bchain HBW.out HBZ.out⟩
      have t3 : decide (y1 < 0) = false := by simpa using a3
      by_cases a4 : 10100 < y1
      · have t4 : decide (10100 < y1) = true := by simpa using a4
        have HC := Lib.hid HLO.out
        go_wp2_with fail
        refine (awake_any _).mono ?_
        rintro e wz ⟨rfl, hbz⟩
        have HBZ := Lib.hid hbz
        clear hbz
        go_wp2_with fail
        go_ret
        exact ⟨rfl, bchain HBW.out HBZ.out⟩
      have t4 : decide (10100 < y1) = false := by simpa using a4
      go_wp2_with fail
      go_round
      case rel => exact ⟨2, by omega, by go_num, fun _ => HK.out.1 (by omega), fun _ => ⟨by omega, by omega, by omega, by omega⟩⟩
      case measure => simp [intOf]
    · obtain ⟨u1, u2, u3, u4⟩ := HK.out.1 (by omega)
      obtain ⟨z1, z2, z3, z4⟩ := HK.out.2 (by omega)
      obtain ⟨s0, rfl⟩ : ∃ s0 : Nat, x0 = s0 := ⟨x0.toNat, by omega⟩
      obtain ⟨s1, rfl⟩ : ∃ s0 : Nat, x1 = s0 := ⟨x1.toNat, by omega⟩
      obtain ⟨n0, rfl⟩ : ∃ s0 : Nat, y0 = s0 := ⟨y0.toNat, by omega⟩
      obtain ⟨n1, rfl⟩ : ∃ s0 : Nat, y1 = s0 := ⟨y1.toNat, by omega⟩
      clear HK
      go_upto_region 6 with (fail)
      go_cut [6, 7] (fun s6 s7 wx => ∃ g h : Nat, s6 = .pointer (some ⟨g, 0, none⟩) ∧ s7 = .pointer (some ⟨h, 0, none⟩) ∧ Hid (Box wx g (largeF s0 n0)) ∧ Hid (Box wx h (largeF s1 n1)) ∧ Hid (Below W.heap.size W wx))
      case first =>
        as_aux_lemma =>
        have HS : Hid (∀ w' : World, Below W.heap.size W w' → w'.cell? ⟨w.heap.size, 0, none⟩ = some (.int .i64 s0) ∧ w'.cell? ⟨w.heap.size, 1, none⟩ = some (.int .i64 s1) ∧ w'.cell? ⟨w.heap.size + 1, 0, none⟩ = some (.int .i64 n0) ∧ w'.cell? ⟨w.heap.size + 1, 1, none⟩ = some (.int .i64 n1)) := by
          intro w' h
          obtain ⟨f0, f1, _⟩ := (HP1.out.below h).facts
          obtain ⟨g0, g1, _⟩ := (HP2.out.below h).facts
          exact ⟨f0, f1, g0, g1⟩
        clear p0 p1 q0 q1
        refine wp_region_steps 14 12 [0, 1, 2, 3, 4, 5, 6, 7, 8, 9, 10, 11] [] (fun w' => Below W.heap.size W w') (by kernel_rfl) (by kernel_rfl) ?_
        rintro D hD
        have HSD : Hid (Below W.heap.size W D) := by rw [hD]; exact (Below.refl _ _).drew
        clear hD
        (refine wpE_take 0 (v := ?_) (by kernel_rfl) rfl rfl (by exact HSD.out) (fun w' hS => ?_) ?_; rotate_left; (focus ((try obtain ⟨s0, s1, s2, s3⟩ := HS.out _ (hS rfl)); clear hS; go_simp; try with_reducible rfl; done)); (try simp only [Act.put, List.setIfInBounds_toArray, List.set_cons_zero, List.set_cons_succ]))
        (refine wpE_take 1 (v := ?_) (by kernel_rfl) rfl rfl (by exact HSD.out) (fun w' hS => ?_) ?_; rotate_left; (focus ((try obtain ⟨s0, s1, s2, s3⟩ := HS.out _ (hS rfl)); clear hS; go_simp; try with_reducible rfl; done)); (try simp only [Act.put, List.setIfInBounds_toArray, List.set_cons_zero, List.set_cons_succ]))
        (refine wpE_take 2 (v := ?_) (by kernel_rfl) rfl rfl (by exact HSD.out) (fun w' hS => ?_) ?_; rotate_left; (focus ((try obtain ⟨s0, s1, s2, s3⟩ := HS.out _ (hS rfl)); clear hS; go_simp; try with_reducible rfl; done)); (try simp only [Act.put, List.setIfInBounds_toArray, List.set_cons_zero, List.set_cons_succ]))
        (refine wpE_take 3 (v := ?_) (by kernel_rfl) rfl rfl (by exact HSD.out) (fun w' hS => ?_) ?_; rotate_left; (focus ((try obtain ⟨s0, s1, s2, s3⟩ := HS.out _ (hS rfl)); clear hS; go_simp; try with_reducible rfl; done)); (try simp only [Act.put, List.setIfInBounds_toArray, List.set_cons_zero, List.set_cons_succ]))
        (refine wpE_take 5 (v := ?_) (by kernel_rfl) rfl rfl (by exact HSD.out) (fun w' hS => ?_) ?_; rotate_left; (focus ((try obtain ⟨s0, s1, s2, s3⟩ := HS.out _ (hS rfl)); clear hS; go_simp; try with_reducible rfl; done)); (try simp only [Act.put, List.setIfInBounds_toArray, List.set_cons_zero, List.set_cons_succ]))
        (refine wpE_take 6 (v := ?_) (by kernel_rfl) rfl rfl (by exact HSD.out) (fun w' hS => ?_) ?_; rotate_left; (focus ((try obtain ⟨s0, s1, s2, s3⟩ := HS.out _ (hS rfl)); clear hS; go_simp; try with_reducible rfl; done)); (try simp only [Act.put, List.setIfInBounds_toArray, List.set_cons_zero, List.set_cons_succ]))
        (refine wpE_take 7 (v := ?_) (by kernel_rfl) rfl rfl (by exact HSD.out) (fun w' hS => ?_) ?_; rotate_left; (focus ((try obtain ⟨s0, s1, s2, s3⟩ := HS.out _ (hS rfl)); clear hS; go_simp; try with_reducible rfl; done)); (try simp only [Act.put, List.setIfInBounds_toArray, List.set_cons_zero, List.set_cons_succ]))
        (refine wpE_take 8 (v := ?_) (by kernel_rfl) rfl rfl (by exact HSD.out) (fun w' hS => ?_) ?_; rotate_left; (focus ((try obtain ⟨s0, s1, s2, s3⟩ := HS.out _ (hS rfl)); clear hS; go_simp; try with_reducible rfl; done)); (try simp only [Act.put, List.setIfInBounds_toArray, List.set_cons_zero, List.set_cons_succ]))
        refine wpE_br [4, 10, 11] (by kernel_rfl) ?_
        refine AllE.cons rfl rfl (fun K hK => ?_) (AllE.cons rfl rfl (fun K hK => ?_) (AllE.cons rfl rfl (fun K hK => ?_) AllE.nil))
        · skip
          go_simp
          refine (large_any s0 n0 _ (by omega) (by omega) (by omega)).mono ?_
          rintro e Y1 ⟨⟨vF, rfl, hrc⟩, hb⟩
          obtain ⟨oa, of, he, hca, hcf⟩ := id hrc
          subst he
          obtain ⟨_, _, _, rfl, -, -, -, -⟩ := hca.rd.op
          obtain ⟨_, _, _, rfl, -, -, -, -⟩ := hcf.rd.op
          refine hK.out _ _ (bchain HSD.out hb) ?_
          clear hK K hca hcf
          (try simp only [Act.put, List.setIfInBounds_toArray, List.set_cons_zero, List.set_cons_succ])
          have HSY1 := Lib.hid (bchain HSD.out hb)
          have HXY1 := Lib.hid hb
          have OA := Lib.hid hrc
          clear hrc hb
          refine wpE_br [9, 10, 11] (by kernel_rfl) ?_
          refine AllE.cons rfl rfl (fun K hK => ?_) (AllE.cons rfl rfl (fun K hK => ?_) (AllE.cons rfl rfl (fun K hK => ?_) AllE.nil))
          · skip
            go_simp
            refine (large_any s1 n1 _ (by omega) (by omega) (by omega)).mono ?_
            rintro e Y2 ⟨⟨vF, rfl, hrc⟩, hb⟩
            obtain ⟨oa, of, he, hca, hcf⟩ := id hrc
            subst he
            obtain ⟨_, _, _, rfl, -, -, -, -⟩ := hca.rd.op
            obtain ⟨_, _, _, rfl, -, -, -, -⟩ := hcf.rd.op
            refine hK.out _ _ (bchain HSY1.out hb) ?_
            clear hK K hca hcf
            (try simp only [Act.put, List.setIfInBounds_toArray, List.set_cons_zero, List.set_cons_succ])
            have HSY2 := Lib.hid (bchain HSY1.out hb)
            have HXY2 := Lib.hid hb
            have OB := Lib.hid hrc
            clear hrc hb
            have OA := Lib.hid (OA.out.below HXY2.out)
            refine wpE_br [10, 11] (by kernel_rfl) ?_
            refine AllE.cons rfl rfl (fun K hK => ?_) (AllE.cons rfl rfl (fun K hK => ?_) AllE.nil)
            · skip
              go_simp
              refine hK.out _ _ (HSY2.out.alloc HSY2.out.size _) ?_
              clear hK K
              (try simp only [Act.put, List.setIfInBounds_toArray, List.set_cons_zero, List.set_cons_succ])
              generalize hX : World.alloc Y2 _ = Y3
              have HSY3 : Hid (Below W.heap.size W Y3) := by rw [← hX]; exact HSY2.out.alloc HSY2.out.size _
              have HXY3 : Hid (Below Y2.heap.size Y2 Y3) := by rw [← hX]; exact (Below.refl _ _).alloc (Nat.le_refl _) _
              have ZA : Hid (FBlk Y3 Y2.heap.size (.int .i64 0) (.slice none 0 0) (.slice none 0 0)) := by rw [← hX]; exact heap_alloc_new _ _
              clear hX
              have OA := Lib.hid (OA.out.below HXY3.out)
              have OB := Lib.hid (OB.out.below HXY3.out)
              refine wpE_br [11] (by kernel_rfl) ?_
              refine AllE.cons rfl rfl (fun K hK => ?_) AllE.nil
              go_simp
              refine hK.out _ _ (HSY3.out.alloc HSY3.out.size _) ?_
              clear hK K
              (try simp only [Act.put, List.setIfInBounds_toArray, List.set_cons_zero, List.set_cons_succ])
              generalize hX : World.alloc Y3 _ = Y4
              have HSY4 : Hid (Below W.heap.size W Y4) := by rw [← hX]; exact HSY3.out.alloc HSY3.out.size _
              have HXY4 : Hid (Below Y3.heap.size Y3 Y4) := by rw [← hX]; exact (Below.refl _ _).alloc (Nat.le_refl _) _
              have ZB : Hid (FBlk Y4 Y3.heap.size (.int .i64 0) (.slice none 0 0) (.slice none 0 0)) := by rw [← hX]; exact heap_alloc_new _ _
              clear hX
              have hne : Y2.heap.size ≠ Y3.heap.size := by have := ZA.out.lt; omega
              have OA := Lib.hid (OA.out.below HXY4.out)
              have OB := Lib.hid (OB.out.below HXY4.out)
              have ZA := Lib.hid (ZA.out.below HXY4.out)
              refine wpE_rest 12 (by kernel_rfl) ?_
              simp only [List.drop_succ_cons, List.drop_zero]
              have HBOX := Lib.hid (Box.two OA.out OB.out ZA.out ZB.out hne)
              obtain ⟨r0, r1, r2, f0, f1, f2⟩ := ZA.out.facts
              obtain ⟨t0, t1, t2, g0, g1, g2⟩ := ZB.out.facts
              have hne' := Ne.symm hne
              go_wp2_with fail
              refine NoPanic.normal ?_
              go_wp2_with fail
              go_meet
              case rel => exact ⟨_, _, rfl, rfl, HBOX.out.1, HBOX.out.2, Go.Proofs.Ytmeppkkoepmlnaa.Below.set3 (Go.Proofs.Ytmeppkkoepmlnaa.Below.set3 HSY4.out HSY2.out.size _ _ _) HSY3.out.size _ _ _⟩
            · skip
              go_simp
              refine hK.out _ _ (HSY2.out.alloc HSY2.out.size _) ?_
              clear hK K
              (try simp only [Act.put, List.setIfInBounds_toArray, List.set_cons_zero, List.set_cons_succ])
              generalize hX : World.alloc Y2 _ = Y3
              have HSY3 : Hid (Below W.heap.size W Y3) := by rw [← hX]; exact HSY2.out.alloc HSY2.out.size _
              have HXY3 : Hid (Below Y2.heap.size Y2 Y3) := by rw [← hX]; exact (Below.refl _ _).alloc (Nat.le_refl _) _
              have ZB : Hid (FBlk Y3 Y2.heap.size (.int .i64 0) (.slice none 0 0) (.slice none 0 0)) := by rw [← hX]; exact heap_alloc_new _ _
              clear hX
              have OA := Lib.hid (OA.out.below HXY3.out)
              have OB := Lib.hid (OB.out.below HXY3.out)
              refine wpE_br [10] (by kernel_rfl) ?_
              refine AllE.cons rfl rfl (fun K hK => ?_) AllE.nil
              go_simp
              refine hK.out _ _ (HSY3.out.alloc HSY3.out.size _) ?_
              clear hK K
              (try simp only [Act.put, List.setIfInBounds_toArray, List.set_cons_zero, List.set_cons_succ])
              generalize hX : World.alloc Y3 _ = Y4
              have HSY4 : Hid (Below W.heap.size W Y4) := by rw [← hX]; exact HSY3.out.alloc HSY3.out.size _
              have HXY4 : Hid (Below Y3.heap.size Y3 Y4) := by rw [← hX]; exact (Below.refl _ _).alloc (Nat.le_refl _) _
              have ZA : Hid (FBlk Y4 Y3.heap.size (.int .i64 0) (.slice none 0 0) (.slice none 0 0)) := by rw [← hX]; exact heap_alloc_new _ _
              clear hX
              have hne : Y3.heap.size ≠ Y2.heap.size := by have := ZB.out.lt; omega
              have OA := Lib.hid (OA.out.below HXY4.out)
              have OB := Lib.hid (OB.out.below HXY4.out)
              have ZB := Lib.hid (ZB.out.below HXY4.out)
              refine wpE_rest 12 (by kernel_rfl) ?_
              simp only [List.drop_succ_cons, List.drop_zero]
              have HBOX := Lib.hid (Box.two OA.out OB.out ZA.out ZB.out hne)
              obtain ⟨r0, r1, r2, f0, f1, f2⟩ := ZA.out.facts
              obtain ⟨t0, t1, t2, g0, g1, g2⟩ := ZB.out.facts
              have hne' := Ne.symm hne
              go_wp2_with fail
              refine NoPanic.normal ?_
              go_wp2_with fail
              go_meet
              case rel => exact ⟨_, _, rfl, rfl, HBOX.out.1, HBOX.out.2, Go.Proofs.Ytmeppkkoepmlnaa.Below.set3 (Go.Proofs.Ytmeppkkoepmlnaa.Below.set3 HSY4.out HSY3.out.size _ _ _) HSY2.out.size _ _ _⟩
          · skip
            go_simp
            refine hK.out _ _ (HSY1.out.alloc HSY1.out.size _) ?_
            clear hK K
            (try simp only [Act.put, List.setIfInBounds_toArray, List.set_cons_zero, List.set_cons_succ])
            generalize hX : World.alloc Y1 _ = Y2
            have HSY2 : Hid (Below W.heap.size W Y2) := by rw [← hX]; exact HSY1.out.alloc HSY1.out.size _
            have HXY2 : Hid (Below Y1.heap.size Y1 Y2) := by rw [← hX]; exact (Below.refl _ _).alloc (Nat.le_refl _) _
            have ZA : Hid (FBlk Y2 Y1.heap.size (.int .i64 0) (.slice none 0 0) (.slice none 0 0)) := by rw [← hX]; exact heap_alloc_new _ _
            clear hX
            have OA := Lib.hid (OA.out.below HXY2.out)
            refine wpE_br [9, 11] (by kernel_rfl) ?_
            refine AllE.cons rfl rfl (fun K hK => ?_) (AllE.cons rfl rfl (fun K hK => ?_) AllE.nil)
            · skip
              go_simp
              refine (large_any s1 n1 _ (by omega) (by omega) (by omega)).mono ?_
              rintro e Y3 ⟨⟨vF, rfl, hrc⟩, hb⟩
              obtain ⟨oa, of, he, hca, hcf⟩ := id hrc
              subst he
              obtain ⟨_, _, _, rfl, -, -, -, -⟩ := hca.rd.op
              obtain ⟨_, _, _, rfl, -, -, -, -⟩ := hcf.rd.op
              refine hK.out _ _ (bchain HSY2.out hb) ?_
              clear hK K hca hcf
              (try simp only [Act.put, List.setIfInBounds_toArray, List.set_cons_zero, List.set_cons_succ])
              have HSY3 := Lib.hid (bchain HSY2.out hb)
              have HXY3 := Lib.hid hb
              have OB := Lib.hid hrc
              clear hrc hb
              have OA := Lib.hid (OA.out.below HXY3.out)
              have ZA := Lib.hid (ZA.out.below HXY3.out)
              refine wpE_br [11] (by kernel_rfl) ?_
              refine AllE.cons rfl rfl (fun K hK => ?_) AllE.nil
              go_simp
              refine hK.out _ _ (HSY3.out.alloc HSY3.out.size _) ?_
              clear hK K
              (try simp only [Act.put, List.setIfInBounds_toArray, List.set_cons_zero, List.set_cons_succ])
              generalize hX : World.alloc Y3 _ = Y4
              have HSY4 : Hid (Below W.heap.size W Y4) := by rw [← hX]; exact HSY3.out.alloc HSY3.out.size _
              have HXY4 : Hid (Below Y3.heap.size Y3 Y4) := by rw [← hX]; exact (Below.refl _ _).alloc (Nat.le_refl _) _
              have ZB : Hid (FBlk Y4 Y3.heap.size (.int .i64 0) (.slice none 0 0) (.slice none 0 0)) := by rw [← hX]; exact heap_alloc_new _ _
              clear hX
              have hne : Y1.heap.size ≠ Y3.heap.size := by have := ZA.out.lt; omega
              have OA := Lib.hid (OA.out.below HXY4.out)
              have OB := Lib.hid (OB.out.below HXY4.out)
              have ZA := Lib.hid (ZA.out.below HXY4.out)
              refine wpE_rest 12 (by kernel_rfl) ?_
              simp only [List.drop_succ_cons, List.drop_zero]
              have HBOX := Lib.hid (Box.two OA.out OB.out ZA.out ZB.out hne)
              obtain ⟨r0, r1, r2, f0, f1, f2⟩ := ZA.out.facts
              obtain ⟨t0, t1, t2, g0, g1, g2⟩ := ZB.out.facts
              have hne' := Ne.symm hne
              go_wp2_with fail
              refine NoPanic.normal ?_
              go_wp2_with fail
              go_meet
              case rel => exact ⟨_, _, rfl, rfl, HBOX.out.1, HBOX.out.2, Go.Proofs.Ytmeppkkoepmlnaa.Below.set3 (Go.Proofs.Ytmeppkkoepmlnaa.Below.set3 HSY4.out HSY1.out.size _ _ _) HSY3.out.size _ _ _⟩
            · skip
              go_simp
              refine hK.out _ _ (HSY2.out.alloc HSY2.out.size _) ?_
              clear hK K
              (try simp only [Act.put, List.setIfInBounds_toArray, List.set_cons_zero, List.set_cons_succ])
              generalize hX : World.alloc Y2 _ = Y3
              have HSY3 : Hid (Below W.heap.size W Y3) := by rw [← hX]; exact HSY2.out.alloc HSY2.out.size _
              have HXY3 : Hid (Below Y2.heap.size Y2 Y3) := by rw [← hX]; exact (Below.refl _ _).alloc (Nat.le_refl _) _
              have ZB : Hid (FBlk Y3 Y2.heap.size (.int .i64 0) (.slice none 0 0) (.slice none 0 0)) := by rw [← hX]; exact heap_alloc_new _ _
              clear hX
              have hne : Y1.heap.size ≠ Y2.heap.size := by have := ZA.out.lt; omega
              have OA := Lib.hid (OA.out.below HXY3.out)
              have ZA := Lib.hid (ZA.out.below HXY3.out)
              refine wpE_br [9] (by kernel_rfl) ?_
              refine AllE.cons rfl rfl (fun K hK => ?_) AllE.nil
              go_simp
              refine (large_any s1 n1 _ (by omega) (by omega) (by omega)).mono ?_
              rintro e Y4 ⟨⟨vF, rfl, hrc⟩, hb⟩
              obtain ⟨oa, of, he, hca, hcf⟩ := id hrc
              subst he
              obtain ⟨_, _, _, rfl, -, -, -, -⟩ := hca.rd.op
              obtain ⟨_, _, _, rfl, -, -, -, -⟩ := hcf.rd.op
              refine hK.out _ _ (bchain HSY3.out hb) ?_
              clear hK K hca hcf
              (try simp only [Act.put, List.setIfInBounds_toArray, List.set_cons_zero, List.set_cons_succ])
              have HSY4 := Lib.hid (bchain HSY3.out hb)
              have HXY4 := Lib.hid hb
              have OB := Lib.hid hrc
              clear hrc hb
              have OA := Lib.hid (OA.out.below HXY4.out)
              have ZA := Lib.hid (ZA.out.below HXY4.out)
              have ZB := Lib.hid (ZB.out.below HXY4.out)
              refine wpE_rest 12 (by kernel_rfl) ?_
              simp only [List.drop_succ_cons, List.drop_zero]
              have HBOX := Lib.hid (Box.two OA.out OB.out ZA.out ZB.out hne)
              obtain ⟨r0, r1, r2, f0, f1, f2⟩ := ZA.out.facts
              obtain ⟨t0, t1, t2, g0, g1, g2⟩ := ZB.out.facts
              have hne' := Ne.symm hne
              go_wp2_with fail
              refine NoPanic.normal ?_
              go_wp2_with fail
              go_meet
              case rel => exact ⟨_, _, rfl, rfl, HBOX.out.1, HBOX.out.2, Go.Proofs.Ytmeppkkoepmlnaa.Below.set3 (Go.Proofs.Ytmeppkkoepmlnaa.Below.set3 HSY4.out HSY1.out.size _ _ _) HSY2.out.size _ _ _⟩
          · skip
            go_simp
            refine hK.out _ _ (HSY1.out.alloc HSY1.out.size _) ?_
            clear hK K
            (try simp only [Act.put, List.setIfInBounds_toArray, List.set_cons_zero, List.set_cons_succ])
            generalize hX : World.alloc Y1 _ = Y2
            have HSY2 : Hid (Below W.heap.size W Y2) := by rw [← hX]; exact HSY1.out.alloc HSY1.out.size _
            have HXY2 : Hid (Below Y1.heap.size Y1 Y2) := by rw [← hX]; exact (Below.refl _ _).alloc (Nat.le_refl _) _
            have ZB : Hid (FBlk Y2 Y1.heap.size (.int .i64 0) (.slice none 0 0) (.slice none 0 0)) := by rw [← hX]; exact heap_alloc_new _ _
            clear hX
            have OA := Lib.hid (OA.out.below HXY2.out)
            refine wpE_br [9, 10] (by kernel_rfl) ?_
            refine AllE.cons rfl rfl (fun K hK => ?_) (AllE.cons rfl rfl (fun K hK => ?_) AllE.nil)
            · skip
              go_simp
              refine (large_any s1 n1 _ (by omega) (by omega) (by omega)).mono ?_
              rintro e Y3 ⟨⟨vF, rfl, hrc⟩, hb⟩
              obtain ⟨oa, of, he, hca, hcf⟩ := id hrc
              subst he
              obtain ⟨_, _, _, rfl, -, -, -, -⟩ := hca.rd.op
              obtain ⟨_, _, _, rfl, -, -, -, -⟩ := hcf.rd.op
              refine hK.out _ _ (bchain HSY2.out hb) ?_
              clear hK K hca hcf
              (try simp only [Act.put, List.setIfInBounds_toArray, List.set_cons_zero, List.set_cons_succ])
              have HSY3 := Lib.hid (bchain HSY2.out hb)
              have HXY3 := Lib.hid hb
              have OB := Lib.hid hrc
              clear hrc hb
              have OA := Lib.hid (OA.out.below HXY3.out)
              have ZB := Lib.hid (ZB.out.below HXY3.out)
              refine wpE_br [10] (by kernel_rfl) ?_
              refine AllE.cons rfl rfl (fun K hK => ?_) AllE.nil
              go_simp
              refine hK.out _ _ (HSY3.out.alloc HSY3.out.size _) ?_
              clear hK K
              (try simp only [Act.put, List.setIfInBounds_toArray, List.set_cons_zero, List.set_cons_succ])
              generalize hX : World.alloc Y3 _ = Y4
              have HSY4 : Hid (Below W.heap.size W Y4) := by rw [← hX]; exact HSY3.out.alloc HSY3.out.size _
              have HXY4 : Hid (Below Y3.heap.size Y3 Y4) := by rw [← hX]; exact (Below.refl _ _).alloc (Nat.le_refl _) _
              have ZA : Hid (FBlk Y4 Y3.heap.size (.int .i64 0) (.slice none 0 0) (.slice none 0 0)) := by rw [← hX]; exact heap_alloc_new _ _
              clear hX
              have hne : Y3.heap.size ≠ Y1.heap.size := by have := ZB.out.lt; omega
              have OA := Lib.hid (OA.out.below HXY4.out)
              have OB := Lib.hid (OB.out.below HXY4.out)
              have ZB := Lib.hid (ZB.out.below HXY4.out)
              refine wpE_rest 12 (by kernel_rfl) ?_
              simp only [List.drop_succ_cons, List.drop_zero]
              have HBOX := Lib.hid (Box.two OA.out OB.out ZA.out ZB.out hne)
              obtain ⟨r0, r1, r2, f0, f1, f2⟩ := ZA.out.facts
              obtain ⟨t0, t1, t2, g0, g1, g2⟩ := ZB.out.facts
              have hne' := Ne.symm hne
              go_wp2_with fail
              refine NoPanic.normal ?_
              go_wp2_with fail
              go_meet
              case rel => exact ⟨_, _, rfl, rfl, HBOX.out.1, HBOX.out.2, Go.Proofs.Ytmeppkkoepmlnaa.Below.set3 (Go.Proofs.Ytmeppkkoepmlnaa.Below.set3 HSY4.out HSY3.out.size _ _ _) HSY1.out.size _ _ _⟩
            · skip
              go_simp
              refine hK.out _ _ (HSY2.out.alloc HSY2.out.size _) ?_
              clear hK K
              (try simp only [Act.put, List.setIfInBounds_toArray, List.set_cons_zero, List.set_cons_succ])
              generalize hX : World.alloc Y2 _ = Y3
              have HSY3 : Hid (Below W.heap.size W Y3) := by rw [← hX]; exact HSY2.out.alloc HSY2.out.size _
              have HXY3 : Hid (Below Y2.heap.size Y2 Y3) := by rw [← hX]; exact (Below.refl _ _).alloc (Nat.le_refl _) _
              have ZA : Hid (FBlk Y3 Y2.heap.size (.int .i64 0) (.slice none 0 0) (.slice none 0 0)) := by rw [← hX]; exact heap_alloc_new _ _
              clear hX
              have hne : Y2.heap.size ≠ Y1.heap.size := by have := ZB.out.lt; omega
              have OA := Lib.hid (OA.out.below HXY3.out)
              have ZB := Lib.hid (ZB.out.below HXY3.out)
              refine wpE_br [9] (by kernel_rfl) ?_
              refine AllE.cons rfl rfl (fun K hK => ?_) AllE.nil
              go_simp
              refine (large_any s1 n1 _ (by omega) (by omega) (by omega)).mono ?_
              rintro e Y4 ⟨⟨vF, rfl, hrc⟩, hb⟩
              obtain ⟨oa, of, he, hca, hcf⟩ := id hrc
              subst he
              obtain ⟨_, _, _, rfl, -, -, -, -⟩ := hca.rd.op
              obtain ⟨_, _, _, rfl, -, -, -, -⟩ := hcf.rd.op
              refine hK.out _ _ (bchain HSY3.out hb) ?_
              clear hK K hca hcf
              (try simp only [Act.put, List.setIfInBounds_toArray, List.set_cons_zero, List.set_cons_succ])
              have HSY4 := Lib.hid (bchain HSY3.out hb)
              have HXY4 := Lib.hid hb
              have OB := Lib.hid hrc
              clear hrc hb
              have OA := Lib.hid (OA.out.below HXY4.out)
              have ZA := Lib.hid (ZA.out.below HXY4.out)
              have ZB := Lib.hid (ZB.out.below HXY4.out)
              refine wpE_rest 12 (by kernel_rfl) ?_
              simp only [List.drop_succ_cons, List.drop_zero]
              have HBOX := Lib.hid (Box.two OA.out OB.out ZA.out ZB.out hne)
              obtain ⟨r0, r1, r2, f0, f1, f2⟩ := ZA.out.facts
              obtain ⟨t0, t1, t2, g0, g1, g2⟩ := ZB.out.facts
              have hne' := Ne.symm hne
              go_wp2_with fail
              refine NoPanic.normal ?_
              go_wp2_with fail
              go_meet
              case rel => exact ⟨_, _, rfl, rfl, HBOX.out.1, HBOX.out.2, Go.Proofs.Ytmeppkkoepmlnaa.Below.set3 (Go.Proofs.Ytmeppkkoepmlnaa.Below.set3 HSY4.out HSY2.out.size _ _ _) HSY1.out.size _ _ _⟩
        · skip
          go_simp
          refine hK.out _ _ (HSD.out.alloc HSD.out.size _) ?_
          clear hK K
          (try simp only [Act.put, List.setIfInBounds_toArray, List.set_cons_zero, List.set_cons_succ])
          generalize hX : World.alloc D _ = Y1
          have HSY1 : Hid (Below W.heap.size W Y1) := by rw [← hX]; exact HSD.out.alloc HSD.out.size _
          have HXY1 : Hid (Below D.heap.size D Y1) := by rw [← hX]; exact (Below.refl _ _).alloc (Nat.le_refl _) _
          have ZA : Hid (FBlk Y1 D.heap.size (.int .i64 0) (.slice none 0 0) (.slice none 0 0)) := by rw [← hX]; exact heap_alloc_new _ _
          clear hX
          refine wpE_br [4, 11] (by kernel_rfl) ?_
          refine AllE.cons rfl rfl (fun K hK => ?_) (AllE.cons rfl rfl (fun K hK => ?_) AllE.nil)
          · skip
            go_simp
            refine (large_any s0 n0 _ (by omega) (by omega) (by omega)).mono ?_
            rintro e Y2 ⟨⟨vF, rfl, hrc⟩, hb⟩
            obtain ⟨oa, of, he, hca, hcf⟩ := id hrc
            subst he
            obtain ⟨_, _, _, rfl, -, -, -, -⟩ := hca.rd.op
            obtain ⟨_, _, _, rfl, -, -, -, -⟩ := hcf.rd.op
            refine hK.out _ _ (bchain HSY1.out hb) ?_
            clear hK K hca hcf
            (try simp only [Act.put, List.setIfInBounds_toArray, List.set_cons_zero, List.set_cons_succ])
            have HSY2 := Lib.hid (bchain HSY1.out hb)
            have HXY2 := Lib.hid hb
            have OA := Lib.hid hrc
            clear hrc hb
            have ZA := Lib.hid (ZA.out.below HXY2.out)
            refine wpE_br [9, 11] (by kernel_rfl) ?_
            refine AllE.cons rfl rfl (fun K hK => ?_) (AllE.cons rfl rfl (fun K hK => ?_) AllE.nil)
            · skip
              go_simp
              refine (large_any s1 n1 _ (by omega) (by omega) (by omega)).mono ?_
              rintro e Y3 ⟨⟨vF, rfl, hrc⟩, hb⟩
              obtain ⟨oa, of, he, hca, hcf⟩ := id hrc
              subst he
              obtain ⟨_, _, _, rfl, -, -, -, -⟩ := hca.rd.op
              obtain ⟨_, _, _, rfl, -, -, -, -⟩ := hcf.rd.op
              refine hK.out _ _ (bchain HSY2.out hb) ?_
              clear hK K hca hcf
              (try simp only [Act.put, List.setIfInBounds_toArray, List.set_cons_zero, List.set_cons_succ])
              have HSY3 := Lib.hid (bchain HSY2.out hb)
              have HXY3 := Lib.hid hb
              have OB := Lib.hid hrc
              clear hrc hb
              have OA := Lib.hid (OA.out.below HXY3.out)
              have ZA := Lib.hid (ZA.out.below HXY3.out)
              refine wpE_br [11] (by kernel_rfl) ?_
              refine AllE.cons rfl rfl (fun K hK => ?_) AllE.nil
              go_simp
              refine hK.out _ _ (HSY3.out.alloc HSY3.out.size _) ?_
              clear hK K
              (try simp only [Act.put, List.setIfInBounds_toArray, List.set_cons_zero, List.set_cons_succ])
              generalize hX : World.alloc Y3 _ = Y4
              have HSY4 : Hid (Below W.heap.size W Y4) := by rw [← hX]; exact HSY3.out.alloc HSY3.out.size _
              have HXY4 : Hid (Below Y3.heap.size Y3 Y4) := by rw [← hX]; exact (Below.refl _ _).alloc (Nat.le_refl _) _
              have ZB : Hid (FBlk Y4 Y3.heap.size (.int .i64 0) (.slice none 0 0) (.slice none 0 0)) := by rw [← hX]; exact heap_alloc_new _ _
              clear hX
              have hne : D.heap.size ≠ Y3.heap.size := by have := ZA.out.lt; omega
              have OA := Lib.hid (OA.out.below HXY4.out)
              have OB := Lib.hid (OB.out.below HXY4.out)
              have ZA := Lib.hid (ZA.out.below HXY4.out)
              refine wpE_rest 12 (by kernel_rfl) ?_
              simp only [List.drop_succ_cons, List.drop_zero]
              have HBOX := Lib.hid (Box.two OA.out OB.out ZA.out ZB.out hne)
              obtain ⟨r0, r1, r2, f0, f1, f2⟩ := ZA.out.facts
              obtain ⟨t0, t1, t2, g0, g1, g2⟩ := ZB.out.facts
              have hne' := Ne.symm hne
              go_wp2_with fail
              refine NoPanic.normal ?_
              go_wp2_with fail
              go_meet
              case rel => exact ⟨_, _, rfl, rfl, HBOX.out.1, HBOX.out.2, Go.Proofs.Ytmeppkkoepmlnaa.Below.set3 (Go.Proofs.Ytmeppkkoepmlnaa.Below.set3 HSY4.out HSD.out.size _ _ _) HSY3.out.size _ _ _⟩
            · skip
              go_simp
              refine hK.out _ _ (HSY2.out.alloc HSY2.out.size _) ?_
              clear hK K
              (try simp only [Act.put, List.setIfInBounds_toArray, List.set_cons_zero, List.set_cons_succ])
              generalize hX : World.alloc Y2 _ = Y3
              have HSY3 : Hid (Below W.heap.size W Y3) := by rw [← hX]; exact HSY2.out.alloc HSY2.out.size _
              have HXY3 : Hid (Below Y2.heap.size Y2 Y3) := by rw [← hX]; exact (Below.refl _ _).alloc (Nat.le_refl _) _
              have ZB : Hid (FBlk Y3 Y2.heap.size (.int .i64 0) (.slice none 0 0) (.slice none 0 0)) := by rw [← hX]; exact heap_alloc_new _ _
              clear hX
              have hne : D.heap.size ≠ Y2.heap.size := by have := ZA.out.lt; omega
              have OA := Lib.hid (OA.out.below HXY3.out)
              have ZA := Lib.hid (ZA.out.below HXY3.out)
              refine wpE_br [9] (by kernel_rfl) ?_
              refine AllE.cons rfl rfl (fun K hK => ?_) AllE.nil
              go_simp
              refine (large_any s1 n1 _ (by omega) (by omega) (by omega)).mono ?_
              rintro e Y4 ⟨⟨vF, rfl, hrc⟩, hb⟩
              obtain ⟨oa, of, he, hca, hcf⟩ := id hrc
              subst he
              obtain ⟨_, _, _, rfl, -, -, -, -⟩ := hca.rd.op
              obtain ⟨_, _, _, rfl, -, -, -, -⟩ := hcf.rd.op
              refine hK.out _ _ (bchain HSY3.out hb) ?_
              clear hK K hca hcf
              (try simp only [Act.put, List.setIfInBounds_toArray, List.set_cons_zero, List.set_cons_succ])
              have HSY4 := Lib.hid (bchain HSY3.out hb)
              have HXY4 := Lib.hid hb
              have OB := Lib.hid hrc
              clear hrc hb
              have OA := Lib.hid (OA.out.below HXY4.out)
              have ZA := Lib.hid (ZA.out.below HXY4.out)
              have ZB := Lib.hid (ZB.out.below HXY4.out)
              refine wpE_rest 12 (by kernel_rfl) ?_
              simp only [List.drop_succ_cons, List.drop_zero]
              have HBOX := Lib.hid (Box.two OA.out OB.out ZA.out ZB.out hne)
              obtain ⟨r0, r1, r2, f0, f1, f2⟩ := ZA.out.facts
              obtain ⟨t0, t1, t2, g0, g1, g2⟩ := ZB.out.facts
              have hne' := Ne.symm hne
              go_wp2_with fail
              refine NoPanic.normal ?_
              go_wp2_with fail
              go_meet
              case rel => exact ⟨_, _, rfl, rfl, HBOX.out.1, HBOX.out.2, Go.Proofs.Ytmeppkkoepmlnaa.Below.set3 (Go.Proofs.Ytmeppkkoepmlnaa.Below.set3 HSY4.out HSD.out.size _ _ _) HSY2.out.size _ _ _⟩
          · skip
            go_simp
            refine hK.out _ _ (HSY1.out.alloc HSY1.out.size _) ?_
            clear hK K
            (try simp only [Act.put, List.setIfInBounds_toArray, List.set_cons_zero, List.set_cons_succ])
            generalize hX : World.alloc Y1 _ = Y2
            have HSY2 : Hid (Below W.heap.size W Y2) := by rw [← hX]; exact HSY1.out.alloc HSY1.out.size _
            have HXY2 : Hid (Below Y1.heap.size Y1 Y2) := by rw [← hX]; exact (Below.refl _ _).alloc (Nat.le_refl _) _
            have ZB : Hid (FBlk Y2 Y1.heap.size (.int .i64 0) (.slice none 0 0) (.slice none 0 0)) := by rw [← hX]; exact heap_alloc_new _ _
            clear hX
            have hne : D.heap.size ≠ Y1.heap.size := by have := ZA.out.lt; omega
            have ZA := Lib.hid (ZA.out.below HXY2.out)
            refine wpE_br [4] (by kernel_rfl) ?_
            refine AllE.cons rfl rfl (fun K hK => ?_) AllE.nil
            go_simp
            refine (large_any s0 n0 _ (by omega) (by omega) (by omega)).mono ?_
            rintro e Y3 ⟨⟨vF, rfl, hrc⟩, hb⟩
            obtain ⟨oa, of, he, hca, hcf⟩ := id hrc
            subst he
            obtain ⟨_, _, _, rfl, -, -, -, -⟩ := hca.rd.op
            obtain ⟨_, _, _, rfl, -, -, -, -⟩ := hcf.rd.op
            refine hK.out _ _ (bchain HSY2.out hb) ?_
            clear hK K hca hcf
            (try simp only [Act.put, List.setIfInBounds_toArray, List.set_cons_zero, List.set_cons_succ])
            have HSY3 := Lib.hid (bchain HSY2.out hb)
            have HXY3 := Lib.hid hb
            have OA := Lib.hid hrc
            clear hrc hb
            have ZA := Lib.hid (ZA.out.below HXY3.out)
            have ZB := Lib.hid (ZB.out.below HXY3.out)
            refine wpE_br [9] (by kernel_rfl) ?_
            refine AllE.cons rfl rfl (fun K hK => ?_) AllE.nil
            go_simp
            refine (large_any s1 n1 _ (by omega) (by omega) (by omega)).mono ?_
            rintro e Y4 ⟨⟨vF, rfl, hrc⟩, hb⟩
            obtain ⟨oa, of, he, hca, hcf⟩ := id hrc
            subst he
            obtain ⟨_, _, _, rfl, -, -, -, -⟩ := hca.rd.op
            obtain ⟨_, _, _, rfl, -, -, -, -⟩ := hcf.rd.op
            refine hK.out _ _ (bchain HSY3.out hb) ?_
            clear hK K hca hcf
            (try simp only [Act.put, List.setIfInBounds_toArray, List.set_cons_zero, List.set_cons_succ])
            have HSY4 := Lib.hid (bchain HSY3.out hb)
            have HXY4 := Lib.hid hb
            have OB := Lib.hid hrc
            clear hrc hb
            have OA := Lib.hid (OA.out.below HXY4.out)
            have ZA := Lib.hid (ZA.out.below HXY4.out)
            have ZB := Lib.hid (ZB.out.below HXY4.out)
            refine wpE_rest 12 (by kernel_rfl) ?_
            simp only [List.drop_succ_cons, List.drop_zero]
            have HBOX := Lib.hid (Box.two OA.out OB.out ZA.out ZB.out hne)
            obtain ⟨r0, r1, r2, f0, f1, f2⟩ := ZA.out.facts
            obtain ⟨t0, t1, t2, g0, g1, g2⟩ := ZB.out.facts
            have hne' := Ne.symm hne
            go_wp2_with fail
            refine NoPanic.normal ?_
            go_wp2_with fail
            go_meet
            case rel => exact ⟨_, _, rfl, rfl, HBOX.out.1, HBOX.out.2, Go.Proofs.Ytmeppkkoepmlnaa.Below.set3 (Go.Proofs.Ytmeppkkoepmlnaa.Below.set3 HSY4.out HSD.out.size _ _ _) HSY1.out.size _ _ _⟩
        · skip
          go_simp
          refine hK.out _ _ (HSD.out.alloc HSD.out.size _) ?_
          clear hK K
          (try simp only [Act.put, List.setIfInBounds_toArray, List.set_cons_zero, List.set_cons_succ])
          generalize hX : World.alloc D _ = Y1
          have HSY1 : Hid (Below W.heap.size W Y1) := by rw [← hX]; exact HSD.out.alloc HSD.out.size _
          have HXY1 : Hid (Below D.heap.size D Y1) := by rw [← hX]; exact (Below.refl _ _).alloc (Nat.le_refl _) _
          have ZB : Hid (FBlk Y1 D.heap.size (.int .i64 0) (.slice none 0 0) (.slice none 0 0)) := by rw [← hX]; exact heap_alloc_new _ _
          clear hX
          refine wpE_br [4, 10] (by kernel_rfl) ?_
          refine AllE.cons rfl rfl (fun K hK => ?_) (AllE.cons rfl rfl (fun K hK => ?_) AllE.nil)
          · skip
            go_simp
            refine (large_any s0 n0 _ (by omega) (by omega) (by omega)).mono ?_
            rintro e Y2 ⟨⟨vF, rfl, hrc⟩, hb⟩
            obtain ⟨oa, of, he, hca, hcf⟩ := id hrc
            subst he
            obtain ⟨_, _, _, rfl, -, -, -, -⟩ := hca.rd.op
            obtain ⟨_, _, _, rfl, -, -, -, -⟩ := hcf.rd.op
            refine hK.out _ _ (bchain HSY1.out hb) ?_
            clear hK K hca hcf
            (try simp only [Act.put, List.setIfInBounds_toArray, List.set_cons_zero, List.set_cons_succ])
            have HSY2 := Lib.hid (bchain HSY1.out hb)
            have HXY2 := Lib.hid hb
            have OA := Lib.hid hrc
            clear hrc hb
            have ZB := Lib.hid (ZB.out.below HXY2.out)
            refine wpE_br [9, 10] (by kernel_rfl) ?_
            refine AllE.cons rfl rfl (fun K hK => ?_) (AllE.cons rfl rfl (fun K hK => ?_) AllE.nil)
            · skip
              go_simp
              refine (large_any s1 n1 _ (by omega) (by omega) (by omega)).mono ?_
              rintro e Y3 ⟨⟨vF, rfl, hrc⟩, hb⟩
              obtain ⟨oa, of, he, hca, hcf⟩ := id hrc
              subst he
              obtain ⟨_, _, _, rfl, -, -, -, -⟩ := hca.rd.op
              obtain ⟨_, _, _, rfl, -, -, -, -⟩ := hcf.rd.op
              refine hK.out _ _ (bchain HSY2.out hb) ?_
              clear hK K hca hcf
              (try simp only [Act.put, List.setIfInBounds_toArray, List.set_cons_zero, List.set_cons_succ])
              have HSY3 := Lib.hid (bchain HSY2.out hb)
              have HXY3 := Lib.hid hb
              have OB := Lib.hid hrc
              clear hrc hb
              have OA := Lib.hid (OA.out.below HXY3.out)
              have ZB := Lib.hid (ZB.out.below HXY3.out)
              refine wpE_br [10] (by kernel_rfl) ?_
              refine AllE.cons rfl rfl (fun K hK => ?_) AllE.nil
              go_simp
              refine hK.out _ _ (HSY3.out.alloc HSY3.out.size _) ?_
              clear hK K
              (try simp only [Act.put, List.setIfInBounds_toArray, List.set_cons_zero, List.set_cons_succ])
              generalize hX : World.alloc Y3 _ = Y4
              have HSY4 : Hid (Below W.heap.size W Y4) := by rw [← hX]; exact HSY3.out.alloc HSY3.out.size _
              have HXY4 : Hid (Below Y3.heap.size Y3 Y4) := by rw [← hX]; exact (Below.refl _ _).alloc (Nat.le_refl _) _
              have ZA : Hid (FBlk Y4 Y3.heap.size (.int .i64 0) (.slice none 0 0) (.slice none 0 0)) := by rw [← hX]; exact heap_alloc_new _ _
              clear hX
              have hne : Y3.heap.size ≠ D.heap.size := by have := ZB.out.lt; omega
              have OA := Lib.hid (OA.out.below HXY4.out)
              have OB := Lib.hid (OB.out.below HXY4.out)
              have ZB := Lib.hid (ZB.out.below HXY4.out)
              refine wpE_rest 12 (by kernel_rfl) ?_
              simp only [List.drop_succ_cons, List.drop_zero]
              have HBOX := Lib.hid (Box.two OA.out OB.out ZA.out ZB.out hne)
              obtain ⟨r0, r1, r2, f0, f1, f2⟩ := ZA.out.facts
              obtain ⟨t0, t1, t2, g0, g1, g2⟩ := ZB.out.facts
              have hne' := Ne.symm hne
              go_wp2_with fail
              refine NoPanic.normal ?_
              go_wp2_with fail
              go_meet
              case rel => exact ⟨_, _, rfl, rfl, HBOX.out.1, HBOX.out.2, Go.Proofs.Ytmeppkkoepmlnaa.Below.set3 (Go.Proofs.Ytmeppkkoepmlnaa.Below.set3 HSY4.out HSY3.out.size _ _ _) HSD.out.size _ _ _⟩
            · skip
              go_simp
              refine hK.out _ _ (HSY2.out.alloc HSY2.out.size _) ?_
              clear hK K
              (try simp only [Act.put, List.setIfInBounds_toArray, List.set_cons_zero, List.set_cons_succ])
              generalize hX : World.alloc Y2 _ = Y3
              have HSY3 : Hid (Below W.heap.size W Y3) := by rw [← hX]; exact HSY2.out.alloc HSY2.out.size _
              have HXY3 : Hid (Below Y2.heap.size Y2 Y3) := by rw [← hX]; exact (Below.refl _ _).alloc (Nat.le_refl _) _
              have ZA : Hid (FBlk Y3 Y2.heap.size (.int .i64 0) (.slice none 0 0) (.slice none 0 0)) := by rw [← hX]; exact heap_alloc_new _ _
              clear hX
              have hne : Y2.heap.size ≠ D.heap.size := by have := ZB.out.lt; omega
              have OA := Lib.hid (OA.out.below HXY3.out)
              have ZB := Lib.hid (ZB.out.below HXY3.out)
              refine wpE_br [9] (by kernel_rfl) ?_
              refine AllE.cons rfl rfl (fun K hK => ?_) AllE.nil
              go_simp
              refine (large_any s1 n1 _ (by omega) (by omega) (by omega)).mono ?_
              rintro e Y4 ⟨⟨vF, rfl, hrc⟩, hb⟩
              obtain ⟨oa, of, he, hca, hcf⟩ := id hrc
              subst he
              obtain ⟨_, _, _, rfl, -, -, -, -⟩ := hca.rd.op
              obtain ⟨_, _, _, rfl, -, -, -, -⟩ := hcf.rd.op
              refine hK.out _ _ (bchain HSY3.out hb) ?_
              clear hK K hca hcf
              (try simp only [Act.put, List.setIfInBounds_toArray, List.set_cons_zero, List.set_cons_succ])
              have HSY4 := Lib.hid (bchain HSY3.out hb)
              have HXY4 := Lib.hid hb
              have OB := Lib.hid hrc
              clear hrc hb
              have OA := Lib.hid (OA.out.below HXY4.out)
              have ZA := Lib.hid (ZA.out.below HXY4.out)
              have ZB := Lib.hid (ZB.out.below HXY4.out)
              refine wpE_rest 12 (by kernel_rfl) ?_
              simp only [List.drop_succ_cons, List.drop_zero]
              have HBOX := Lib.hid (Box.two OA.out OB.out ZA.out ZB.out hne)
              obtain ⟨r0, r1, r2, f0, f1, f2⟩ := ZA.out.facts
              obtain ⟨t0, t1, t2, g0, g1, g2⟩ := ZB.out.facts
              have hne' := Ne.symm hne
              go_wp2_with fail
              refine NoPanic.normal ?_
              go_wp2_with fail
              go_meet
              case rel => exact ⟨_, _, rfl, rfl, HBOX.out.1, HBOX.out.2, Go.Proofs.Ytmeppkkoepmlnaa.Below.set3 (Go.Proofs.Ytmeppkkoepmlnaa.Below.set3 HSY4.out HSY2.out.size _ _ _) HSD.out.size _ _ _⟩
          · skip
            go_simp
            refine hK.out _ _ (HSY1.out.alloc HSY1.out.size _) ?_
            clear hK K
            (try simp only [Act.put, List.setIfInBounds_toArray, List.set_cons_zero, List.set_cons_succ])
            generalize hX : World.alloc Y1 _ = Y2
            have HSY2 : Hid (Below W.heap.size W Y2) := by rw [← hX]; exact HSY1.out.alloc HSY1.out.size _
            have HXY2 : Hid (Below Y1.heap.size Y1 Y2) := by rw [← hX]; exact (Below.refl _ _).alloc (Nat.le_refl _) _
            have ZA : Hid (FBlk Y2 Y1.heap.size (.int .i64 0) (.slice none 0 0) (.slice none 0 0)) := by rw [← hX]; exact heap_alloc_new _ _
            clear hX
            have hne : Y1.heap.size ≠ D.heap.size := by have := ZB.out.lt; omega
            have ZB := Lib.hid (ZB.out.below HXY2.out)
            refine wpE_br [4] (by kernel_rfl) ?_
            refine AllE.cons rfl rfl (fun K hK => ?_) AllE.nil
            go_simp
            refine (large_any s0 n0 _ (by omega) (by omega) (by omega)).mono ?_
            rintro e Y3 ⟨⟨vF, rfl, hrc⟩, hb⟩
            obtain ⟨oa, of, he, hca, hcf⟩ := id hrc
            subst he
            obtain ⟨_, _, _, rfl, -, -, -, -⟩ := hca.rd.op
            obtain ⟨_, _, _, rfl, -, -, -, -⟩ := hcf.rd.op
            refine hK.out _ _ (bchain HSY2.out hb) ?_
            clear hK K hca hcf
            (try simp only [Act.put, List.setIfInBounds_toArray, List.set_cons_zero, List.set_cons_succ])
            have HSY3 := Lib.hid (bchain HSY2.out hb)
            have HXY3 := Lib.hid hb
            have OA := Lib.hid hrc
            clear hrc hb
            have ZA := Lib.hid (ZA.out.below HXY3.out)
            have ZB := Lib.hid (ZB.out.below HXY3.out)
            refine wpE_br [9] (by kernel_rfl) ?_
            refine AllE.cons rfl rfl (fun K hK => ?_) AllE.nil
            go_simp
            refine (large_any s1 n1 _ (by omega) (by omega) (by omega)).mono ?_
            rintro e Y4 ⟨⟨vF, rfl, hrc⟩, hb⟩
            obtain ⟨oa, of, he, hca, hcf⟩ := id hrc
            subst he
            obtain ⟨_, _, _, rfl, -, -, -, -⟩ := hca.rd.op
            obtain ⟨_, _, _, rfl, -, -, -, -⟩ := hcf.rd.op
            refine hK.out _ _ (bchain HSY3.out hb) ?_
            clear hK K hca hcf
            (try simp only [Act.put, List.setIfInBounds_toArray, List.set_cons_zero, List.set_cons_succ])
            have HSY4 := Lib.hid (bchain HSY3.out hb)
            have HXY4 := Lib.hid hb
            have OB := Lib.hid hrc
            clear hrc hb
            have OA := Lib.hid (OA.out.below HXY4.out)
            have ZA := Lib.hid (ZA.out.below HXY4.out)
            have ZB := Lib.hid (ZB.out.below HXY4.out)
            refine wpE_rest 12 (by kernel_rfl) ?_
            simp only [List.drop_succ_cons, List.drop_zero]
            have HBOX := Lib.hid (Box.two OA.out OB.out ZA.out ZB.out hne)
            obtain ⟨r0, r1, r2, f0, f1, f2⟩ := ZA.out.facts
            obtain ⟨t0, t1, t2, g0, g1, g2⟩ := ZB.out.facts
            have hne' := Ne.symm hne
            go_wp2_with fail
            refine NoPanic.normal ?_
            go_wp2_with fail
            go_meet
            case rel => exact ⟨_, _, rfl, rfl, HBOX.out.1, HBOX.out.2, Go.Proofs.Ytmeppkkoepmlnaa.Below.set3 (Go.Proofs.Ytmeppkkoepmlnaa.Below.set3 HSY4.out HSY1.out.size _ _ _) HSD.out.size _ _ _⟩
      case rest =>
        obtain ⟨g, h, rfl, rfl, BA, BB, HBC⟩ := hcut
        have HGA := Lib.hid (large_good s0 n0 (by omega) (by omega) (by omega))
        have HGB := Lib.hid (large_good s1 n1 (by omega) (by omega) (by omega))
        clear p0 p1 q0 q1
        obtain ⟨_, _, _, _, _, _, p0, p1, p2, hg1, HRA⟩ := BA.out.open
        obtain ⟨_, _, _, _, _, _, q0, q1, q2, hg2, HRB⟩ := BB.out.open
        go_wp2_with fail
        refine (union_both _ _ _ _ _ HRA.out HRB.out HGA.out HGB.out).mono ?_
        rintro e w1 ⟨⟨vF, xu, U, rfl, ho, hret⟩, hb⟩
        obtain ⟨oa, of, he, hca, hcf⟩ := id ho
        subst he
        obtain ⟨_, _, _, rfl, -, -, -, -⟩ := hca.rd.op
        obtain ⟨_, _, _, rfl, -, -, -, -⟩ := hcf.rd.op
        have RU := Lib.hid hret
        have HB1 := Lib.hid hb
        have HO := Lib.hid ho
        clear p0 p1 p2 q0 q1 q2 hg1 hg2 HRA HRB hret hb ho hca hcf
        go_upto_region 8 with (fail)
        generalize hX : World.alloc w1 _ = X7
        have HX7 : Hid (Below w1.heap.size w1 X7) := by rw [← hX]; exact (Below.refl _ _).alloc (Nat.le_refl _) _
        have BU : Hid (Box X7 w1.heap.size U) := by rw [← hX]; exact Box.make HO.out.rd
        generalize w1.heap.size = bBU at BU ⊢
        have HXA := Lib.hid (bchain HB1.out HX7.out)
        have BA := Lib.hid (BA.out.below HXA.out)
        have BB := Lib.hid (BB.out.below HXA.out)
        have HBC := Lib.hid (bchain HBC.out HXA.out)
        clear hX HX7 HO HB1
        obtain ⟨_, _, _, _, _, _, p0, p1, p2, hg1, HRA⟩ := BA.out.open
        obtain ⟨_, _, _, _, _, _, q0, q1, q2, hg2, HRB⟩ := BB.out.open
        go_wp2_with fail
        refine (concat_both _ _ _ _ _ HRA.out HRB.out HGA.out HGB.out).mono ?_
        rintro e w1 ⟨⟨vF, xc, C, rfl, ho, hret⟩, hb⟩
        obtain ⟨oa, of, he, hca, hcf⟩ := id ho
        subst he
        obtain ⟨_, _, _, rfl, -, -, -, -⟩ := hca.rd.op
        obtain ⟨_, _, _, rfl, -, -, -, -⟩ := hcf.rd.op
        have RC := Lib.hid hret
        have HB1 := Lib.hid hb
        have HO := Lib.hid ho
        clear p0 p1 p2 q0 q1 q2 hg1 hg2 HRA HRB hret hb ho hca hcf
        go_upto_region 9 with (fail)
        generalize hX : World.alloc w1 _ = X8
        have HX7 : Hid (Below w1.heap.size w1 X8) := by rw [← hX]; exact (Below.refl _ _).alloc (Nat.le_refl _) _
        have BC : Hid (Box X8 w1.heap.size C) := by rw [← hX]; exact Box.make HO.out.rd
        generalize w1.heap.size = bBC at BC ⊢
        have HXA := Lib.hid (bchain HB1.out HX7.out)
        have BA := Lib.hid (BA.out.below HXA.out)
        have BB := Lib.hid (BB.out.below HXA.out)
        have HBC := Lib.hid (bchain HBC.out HXA.out)
        clear hX HX7 HO HB1
        have BU := Lib.hid (BU.out.below HXA.out)
        obtain ⟨_, _, _, _, _, _, p0, p1, p2, hg1, HRA⟩ := BA.out.open
        obtain ⟨_, _, _, _, _, _, q0, q1, q2, hg2, HRB⟩ := BB.out.open
        go_wp2_with fail
        refine (star_both _ _ _ HRA.out HGA.out).mono ?_
        rintro e w1 ⟨⟨vF, xs, S, rfl, ho, hret⟩, hb⟩
        obtain ⟨oa, of, he, hca, hcf⟩ := id ho
        subst he
        obtain ⟨_, _, _, rfl, -, -, -, -⟩ := hca.rd.op
        obtain ⟨_, _, _, rfl, -, -, -, -⟩ := hcf.rd.op
        have RS := Lib.hid hret
        have HB1 := Lib.hid hb
        have HO := Lib.hid ho
        clear p0 p1 p2 q0 q1 q2 hg1 hg2 HRA HRB hret hb ho hca hcf
        go_upto_region 10 with (fail)
        generalize hX : World.alloc w1 _ = X9
        have HX7 : Hid (Below w1.heap.size w1 X9) := by rw [← hX]; exact (Below.refl _ _).alloc (Nat.le_refl _) _
        have BS : Hid (Box X9 w1.heap.size S) := by rw [← hX]; exact Box.make HO.out.rd
        generalize w1.heap.size = bBS at BS ⊢
        have HXA := Lib.hid (bchain HB1.out HX7.out)
        have BA := Lib.hid (BA.out.below HXA.out)
        have BB := Lib.hid (BB.out.below HXA.out)
        have HBC := Lib.hid (bchain HBC.out HXA.out)
        clear hX HX7 HO HB1
        have BU := Lib.hid (BU.out.below HXA.out)
        have BC := Lib.hid (BC.out.below HXA.out)
        obtain ⟨_, _, _, _, _, _, p0, p1, p2, hg1, HRA⟩ := BA.out.open
        obtain ⟨_, _, _, _, _, _, q0, q1, q2, hg2, HRB⟩ := BB.out.open
        go_wp2_with fail
        refine (compose_both _ _ _ _ _ HRA.out HRB.out HGA.out HGB.out).mono ?_
        rintro e w1 ⟨⟨vF, xd, D, rfl, ho, hret⟩, hb⟩
        obtain ⟨oa, of, he, hca, hcf⟩ := id ho
        subst he
        obtain ⟨_, _, _, rfl, -, -, -, -⟩ := hca.rd.op
        obtain ⟨_, _, _, rfl, -, -, -, -⟩ := hcf.rd.op
        have RD := Lib.hid hret
        have HB1 := Lib.hid hb
        have HO := Lib.hid ho
        clear p0 p1 p2 q0 q1 q2 hg1 hg2 HRA HRB hret hb ho hca hcf
        go_upto_region 11 with (fail)
        generalize hX : World.alloc w1 _ = X
        have HX7 : Hid (Below w1.heap.size w1 X) := by rw [← hX]; exact (Below.refl _ _).alloc (Nat.le_refl _) _
        have BD : Hid (Box X w1.heap.size D) := by rw [← hX]; exact Box.make HO.out.rd
        generalize w1.heap.size = bBD at BD ⊢
        have HXA := Lib.hid (bchain HB1.out HX7.out)
        have BA := Lib.hid (BA.out.below HXA.out)
        have BB := Lib.hid (BB.out.below HXA.out)
        have HBC := Lib.hid (bchain HBC.out HXA.out)
        clear hX HX7 HO HB1
        have BU := Lib.hid (BU.out.below HXA.out)
        have BC := Lib.hid (BC.out.below HXA.out)
        have BS := Lib.hid (BS.out.below HXA.out)
        obtain ⟨p0, p1, hp1⟩ := (HP1.out.below HBC.out).facts
        obtain ⟨q0, q1, hp2⟩ := (HP2.out.below HBC.out).facts
        clear HXA BA BB
        go_cut [16] (fun s wx => ∃ sm : Bool, s = .bool sm ∧ Hid (fullB [largeF s0 n0, largeF s1 n1] = sm) ∧ X = wx)
        case first =>
          as_aux_lemma =>
          by_cases hs : 1000 < (s0 : Int) + s1
          · go_wp2_with fail
            go_meet
            case rel => exact ⟨_, rfl, by rw [Hid, Bool.eq_iff_iff]; simp [fullB, sumS, sumA, largeF, largeArcs_length]; omega, rfl⟩
          · go_wp2_with fail
            go_meet
            case rel => exact ⟨_, rfl, by rw [Hid, Bool.eq_iff_iff]; simp [fullB, sumS, sumA, largeF, largeArcs_length]; omega, rfl⟩
        obtain ⟨sm, rfl, HSM, rfl⟩ := hcut
        go_upto_region 12 with (fail)
        go_cut [17] (fun s wx => ∃ sm : Bool, s = .bool sm ∧ Hid (fullB [largeF s0 n0] = sm) ∧ X = wx)
        case first =>
          as_aux_lemma =>
          by_cases hs : 1000 < (s0 : Int)
          · go_wp2_with fail
            go_meet
            case rel => exact ⟨_, rfl, by rw [Hid, Bool.eq_iff_iff]; simp [fullB, sumS, sumA, largeF, largeArcs_length]; omega, rfl⟩
          · go_wp2_with fail
            go_meet
            case rel => exact ⟨_, rfl, by rw [Hid, Bool.eq_iff_iff]; simp [fullB, sumS, sumA, largeF, largeArcs_length]; omega, rfl⟩
        obtain ⟨st, rfl, HST, rfl⟩ := hcut
        go_upto_region 13 with (fail)
        go_cut [18] (fun s wx => ∃ sm : Bool, s = .bool sm ∧ Hid (manyB (largeF s0 n0) (largeF s1 n1) = sm) ∧ X = wx)
        case first =>
          as_aux_lemma =>
          obtain ⟨Q1, hQ1⟩ : ∃ Q1 : Nat, (s0 : Int) * (s1 : Int) = (Q1 : Int) := ⟨s0 * s1, by simp⟩
          obtain ⟨Q2, hQ2⟩ : ∃ Q2 : Nat, (n0 : Int) * (n1 : Int) = (Q2 : Int) := ⟨n0 * n1, by simp⟩
          obtain ⟨Q3, hQ3⟩ : ∃ Q3 : Nat, (n0 : Int) * (s1 : Int) = (Q3 : Int) := ⟨n0 * s1, by simp⟩
          obtain ⟨Q4, hQ4⟩ : ∃ Q4 : Nat, (s0 : Int) * (n1 : Int) = (Q4 : Int) := ⟨s0 * n1, by simp⟩
          have u1 : Q1 ≤ 1000000000000 := by have e : Q1 = s0 * s1 := (by exact_mod_cast hQ1.symm); rw [e]; exact Nat.mul_le_mul (by omega : s0 ≤ 1000000) (by omega : s1 ≤ 1000000)
          have u2 : Q2 ≤ 1000000000000 := by have e : Q2 = n0 * n1 := (by exact_mod_cast hQ2.symm); rw [e]; exact Nat.mul_le_mul (by omega : n0 ≤ 1000000) (by omega : n1 ≤ 1000000)
          have u3 : Q3 ≤ 1000000000000 := by have e : Q3 = n0 * s1 := (by exact_mod_cast hQ3.symm); rw [e]; exact Nat.mul_le_mul (by omega : n0 ≤ 1000000) (by omega : s1 ≤ 1000000)
          have u4 : Q4 ≤ 1000000000000 := by have e : Q4 = s0 * n1 := (by exact_mod_cast hQ4.symm); rw [e]; exact Nat.mul_le_mul (by omega : s0 ≤ 1000000) (by omega : n1 ≤ 1000000)
          have HMB : Hid (manyB (largeF s0 n0) (largeF s1 n1) = (decide (1000 < (Q1 : Int)) || decide (100000 < (Q2 : Int) + (Q3 : Int) + (Q4 : Int)))) := by rw [Hid, manyB]; simp only [largeF, largeArcs_length, hQ1, hQ2, hQ3, hQ4]
          by_cases hs : 1000 < (Q1 : Int)
          · go_wp2_with fail
            go_meet
            case rel => exact ⟨_, rfl, by rw [Hid, HMB.out, Bool.eq_iff_iff]; simp; omega, rfl⟩
          · go_wp2_with fail
            go_meet
            case rel => exact ⟨_, rfl, by rw [Hid, HMB.out, Bool.eq_iff_iff]; simp; omega, rfl⟩
        obtain ⟨pr, rfl, HPR, rfl⟩ := hcut
        clear p0 p1 q0 q1
        have HB0 := Lib.hid (Below.refl X.heap.size X)
        cases sm
        · obtain ⟨rfl, rfl, hgu⟩ := RU.out.no HSM.out
          obtain ⟨rfl, rfl, hgc⟩ := RC.out.no HSM.out
          have HGU := Lib.hid hgu
          have HGC := Lib.hid hgc
          clear hgu hgc
          cases st
          · obtain ⟨rfl, rfl, hgs⟩ := RS.out.no HST.out
            have HGS := Lib.hid hgs
            clear hgs
            cases pr
            · as_aux_lemma =>
              obtain ⟨rfl, rfl, hgd⟩ := RD.out.no HPR.out
              have HGD := Lib.hid hgd
              clear hgd
              obtain ⟨_, _, _, _, _, _, p0, p1, p2, hg1, HRA⟩ := ((BU).out.below HB0.out).open
              go_wp2_with fail
              refine (fcheck_ok _ (unionF (largeF s0 n0) (largeF s1 n1)) _ HRA.out (HGU).out).mono ?_
              rintro e w1 ⟨rfl, hb⟩
              have HBw1 := Lib.hid (bchain HB0.out hb)
              clear hb p0 p1 p2 hg1 HRA
              obtain ⟨_, _, _, _, _, _, p0, p1, p2, hg1, HRA⟩ := ((BC).out.below HBw1.out).open
              go_wp2_with fail
              refine (fcheck_ok _ (concatF (largeF s0 n0) (largeF s1 n1)) _ HRA.out (HGC).out).mono ?_
              rintro e w2 ⟨rfl, hb⟩
              have HBw2 := Lib.hid (bchain HBw1.out hb)
              clear hb p0 p1 p2 hg1 HRA
              obtain ⟨_, _, _, _, _, _, p0, p1, p2, hg1, HRA⟩ := ((BS).out.below HBw2.out).open
              go_wp2_with fail
              refine (fcheck_ok _ (starF (largeF s0 n0)) _ HRA.out (HGS).out).mono ?_
              rintro e w3 ⟨rfl, hb⟩
              have HBw3 := Lib.hid (bchain HBw2.out hb)
              clear hb p0 p1 p2 hg1 HRA
              obtain ⟨_, _, _, _, _, _, p0, p1, p2, hg1, HRA⟩ := ((BD).out.below HBw3.out).open
              go_wp2_with fail
              refine (fcheck_ok _ (compF (largeF s0 n0) (largeF s1 n1)) _ HRA.out (HGD).out).mono ?_
              rintro e w4 ⟨rfl, hb⟩
              have HBw4 := Lib.hid (bchain HBw3.out hb)
              clear hb p0 p1 p2 hg1 HRA
              go_wp2_with fail
              refine (awake_any _).mono ?_
              rintro e wz ⟨rfl, hb⟩
              have HSZ := Lib.hid (bchain HBw4.out hb)
              clear hb
              go_wp2_with fail
              go_ret
              exact ⟨rfl, bchain HBW.out (bchain HBC.out HSZ.out)⟩
            · as_aux_lemma =>
              obtain rfl := RD.out.yes HPR.out
              obtain ⟨_, _, _, _, _, _, p0, p1, p2, hg1, HRA⟩ := ((BU).out.below HB0.out).open
              go_wp2_with fail
              refine (fcheck_ok _ (unionF (largeF s0 n0) (largeF s1 n1)) _ HRA.out (HGU).out).mono ?_
              rintro e w1 ⟨rfl, hb⟩
              have HBw1 := Lib.hid (bchain HB0.out hb)
              clear hb p0 p1 p2 hg1 HRA
              obtain ⟨_, _, _, _, _, _, p0, p1, p2, hg1, HRA⟩ := ((BC).out.below HBw1.out).open
              go_wp2_with fail
              refine (fcheck_ok _ (concatF (largeF s0 n0) (largeF s1 n1)) _ HRA.out (HGC).out).mono ?_
              rintro e w2 ⟨rfl, hb⟩
              have HBw2 := Lib.hid (bchain HBw1.out hb)
              clear hb p0 p1 p2 hg1 HRA
              obtain ⟨_, _, _, _, _, _, p0, p1, p2, hg1, HRA⟩ := ((BS).out.below HBw2.out).open
              go_wp2_with fail
              refine (fcheck_ok _ (starF (largeF s0 n0)) _ HRA.out (HGS).out).mono ?_
              rintro e w3 ⟨rfl, hb⟩
              have HBw3 := Lib.hid (bchain HBw2.out hb)
              clear hb p0 p1 p2 hg1 HRA
              go_wp2_with fail
              refine (awake_any _).mono ?_
              rintro e wz ⟨rfl, hb⟩
              have HSZ := Lib.hid (bchain HBw3.out hb)
              clear hb
              go_wp2_with fail
              go_ret
              exact ⟨rfl, bchain HBW.out (bchain HBC.out HSZ.out)⟩
          · obtain rfl := RS.out.yes HST.out
            cases pr
            · as_aux_lemma =>
              obtain ⟨rfl, rfl, hgd⟩ := RD.out.no HPR.out
              have HGD := Lib.hid hgd
              clear hgd
              obtain ⟨_, _, _, _, _, _, p0, p1, p2, hg1, HRA⟩ := ((BU).out.below HB0.out).open
              go_wp2_with fail
              refine (fcheck_ok _ (unionF (largeF s0 n0) (largeF s1 n1)) _ HRA.out (HGU).out).mono ?_
              rintro e w1 ⟨rfl, hb⟩
              have HBw1 := Lib.hid (bchain HB0.out hb)
              clear hb p0 p1 p2 hg1 HRA
              obtain ⟨_, _, _, _, _, _, p0, p1, p2, hg1, HRA⟩ := ((BC).out.below HBw1.out).open
              go_wp2_with fail
              refine (fcheck_ok _ (concatF (largeF s0 n0) (largeF s1 n1)) _ HRA.out (HGC).out).mono ?_
              rintro e w2 ⟨rfl, hb⟩
              have HBw2 := Lib.hid (bchain HBw1.out hb)
              clear hb p0 p1 p2 hg1 HRA
              obtain ⟨_, _, _, _, _, _, p0, p1, p2, hg1, HRA⟩ := ((BD).out.below HBw2.out).open
              go_wp2_with fail
              refine (fcheck_ok _ (compF (largeF s0 n0) (largeF s1 n1)) _ HRA.out (HGD).out).mono ?_
              rintro e w3 ⟨rfl, hb⟩
              have HBw3 := Lib.hid (bchain HBw2.out hb)
              clear hb p0 p1 p2 hg1 HRA
              go_wp2_with fail
              refine (awake_any _).mono ?_
              rintro e wz ⟨rfl, hb⟩
              have HSZ := Lib.hid (bchain HBw3.out hb)
              clear hb
              go_wp2_with fail
              go_ret
              exact ⟨rfl, bchain HBW.out (bchain HBC.out HSZ.out)⟩
            · as_aux_lemma =>
              obtain rfl := RD.out.yes HPR.out
              obtain ⟨_, _, _, _, _, _, p0, p1, p2, hg1, HRA⟩ := ((BU).out.below HB0.out).open
              go_wp2_with fail
              refine (fcheck_ok _ (unionF (largeF s0 n0) (largeF s1 n1)) _ HRA.out (HGU).out).mono ?_
              rintro e w1 ⟨rfl, hb⟩
              have HBw1 := Lib.hid (bchain HB0.out hb)
              clear hb p0 p1 p2 hg1 HRA
              obtain ⟨_, _, _, _, _, _, p0, p1, p2, hg1, HRA⟩ := ((BC).out.below HBw1.out).open
              go_wp2_with fail
              refine (fcheck_ok _ (concatF (largeF s0 n0) (largeF s1 n1)) _ HRA.out (HGC).out).mono ?_
              rintro e w2 ⟨rfl, hb⟩
              have HBw2 := Lib.hid (bchain HBw1.out hb)
              clear hb p0 p1 p2 hg1 HRA
              go_wp2_with fail
              refine (awake_any _).mono ?_
              rintro e wz ⟨rfl, hb⟩
              have HSZ := Lib.hid (bchain HBw2.out hb)
              clear hb
              go_wp2_with fail
              go_ret
              exact ⟨rfl, bchain HBW.out (bchain HBC.out HSZ.out)⟩
        · obtain rfl := RU.out.yes HSM.out
          obtain rfl := RC.out.yes HSM.out
          cases st
          · obtain ⟨rfl, rfl, hgs⟩ := RS.out.no HST.out
            have HGS := Lib.hid hgs
            clear hgs
            cases pr
            · as_aux_lemma =>
              obtain ⟨rfl, rfl, hgd⟩ := RD.out.no HPR.out
              have HGD := Lib.hid hgd
              clear hgd
              obtain ⟨_, _, _, _, _, _, p0, p1, p2, hg1, HRA⟩ := ((BS).out.below HB0.out).open
              go_wp2_with fail
              refine (fcheck_ok _ (starF (largeF s0 n0)) _ HRA.out (HGS).out).mono ?_
              rintro e w1 ⟨rfl, hb⟩
              have HBw1 := Lib.hid (bchain HB0.out hb)
              clear hb p0 p1 p2 hg1 HRA
              obtain ⟨_, _, _, _, _, _, p0, p1, p2, hg1, HRA⟩ := ((BD).out.below HBw1.out).open
              go_wp2_with fail
              refine (fcheck_ok _ (compF (largeF s0 n0) (largeF s1 n1)) _ HRA.out (HGD).out).mono ?_
              rintro e w2 ⟨rfl, hb⟩
              have HBw2 := Lib.hid (bchain HBw1.out hb)
              clear hb p0 p1 p2 hg1 HRA
              go_wp2_with fail
              refine (awake_any _).mono ?_
              rintro e wz ⟨rfl, hb⟩
              have HSZ := Lib.hid (bchain HBw2.out hb)
              clear hb
              go_wp2_with fail
              go_ret
              exact ⟨rfl, bchain HBW.out (bchain HBC.out HSZ.out)⟩
            · as_aux_lemma =>
              obtain rfl := RD.out.yes HPR.out
              obtain ⟨_, _, _, _, _, _, p0, p1, p2, hg1, HRA⟩ := ((BS).out.below HB0.out).open
              go_wp2_with fail
              refine (fcheck_ok _ (starF (largeF s0 n0)) _ HRA.out (HGS).out).mono ?_
              rintro e w1 ⟨rfl, hb⟩
              have HBw1 := Lib.hid (bchain HB0.out hb)
              clear hb p0 p1 p2 hg1 HRA
              go_wp2_with fail
              refine (awake_any _).mono ?_
              rintro e wz ⟨rfl, hb⟩
              have HSZ := Lib.hid (bchain HBw1.out hb)
              clear hb
              go_wp2_with fail
              go_ret
              exact ⟨rfl, bchain HBW.out (bchain HBC.out HSZ.out)⟩
          · obtain rfl := RS.out.yes HST.out
            cases pr
            · as_aux_lemma =>
              obtain ⟨rfl, rfl, hgd⟩ := RD.out.no HPR.out
              have HGD := Lib.hid hgd
              clear hgd
              obtain ⟨_, _, _, _, _, _, p0, p1, p2, hg1, HRA⟩ := ((BD).out.below HB0.out).open
              go_wp2_with fail
              refine (fcheck_ok _ (compF (largeF s0 n0) (largeF s1 n1)) _ HRA.out (HGD).out).mono ?_
              rintro e w1 ⟨rfl, hb⟩
              have HBw1 := Lib.hid (bchain HB0.out hb)
              clear hb p0 p1 p2 hg1 HRA
              go_wp2_with fail
              refine (awake_any _).mono ?_
              rintro e wz ⟨rfl, hb⟩
              have HSZ := Lib.hid (bchain HBw1.out hb)
              clear hb
              go_wp2_with fail
              go_ret
              exact ⟨rfl, bchain HBW.out (bchain HBC.out HSZ.out)⟩
            · as_aux_lemma =>
              obtain rfl := RD.out.yes HPR.out
              go_wp2_with fail
              refine (awake_any _).mono ?_
              rintro e wz ⟨rfl, hb⟩
              have HSZ := Lib.hid (bchain HB0.out hb)
              clear hb
              go_wp2_with fail
              go_ret
              exact ⟨rfl, bchain HBW.out (bchain HBC.out HSZ.out)⟩
end Go.Proofs.Ytmeppkkoepmlnaa
