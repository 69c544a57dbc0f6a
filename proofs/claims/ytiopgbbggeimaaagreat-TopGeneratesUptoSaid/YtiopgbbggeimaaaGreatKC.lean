/-
  The reference's Check of relations; it returns.
-/
import Derived.Test.YtiopgbbggeimaaaGreatKX
namespace Go.Proofs.YtiopgbbggeimaaaGreat
open Go.ChangeShapes Go.WideShapes Go.ChangeAt Go.RowKit
set_option maxHeartbeats 32000000 in
set_option maxRecDepth 100000 in
theorem relate_any (v : Value) (P : List PE) (w : World) (hv : RdP w v P) (hn : P.length ≤ 100) :
    Calls Tryz.prog 39 #[v] w fun e' w' => RetE AnyE e' ∧ Below w.heap.size w w' := by
  obtain ⟨L, hL, hD⟩ := hv
  have HV := Lib.hid hL
  have HD := Lib.hid hD
  have HLL : Hid (L.length ≤ 100) := by rw [Hid, hD.length]; exact hn
  obtain ⟨A, n, c, rfl, h1, h2, HN, HR⟩ := hL.op
  clear hL hD hn
  go_enter Tryz.func39, Tryz.ntmps39
  go_wp2_with fail
  go_loopw [3] (fun v3 wr => ∃ k : Nat, k ≤ n ∧ v3 = .int .i64 k ∧ Hid (Below w.heap.size w wr)) (fun v3 _ => n - (intOf v3).toNat)
  case atStart => exact ⟨0, Nat.zero_le _, rfl, Below.refl _ _⟩
  case round =>
    obtain ⟨i, hi, rfl, HBR⟩ := hrel
    by_cases hit : i < n
    · obtain ⟨b, off, e, hA, hb, hd, hce⟩ := HR.out i hit
      have HLe : Hid (e ∈ L) := List.mem_of_mem_drop (by rw [hd.out]; exact List.mem_cons_self)
      obtain ⟨p, _, hdp⟩ := HD.out.mem HLe.out
      subst hA
      have HCE := Lib.hid hce
      obtain ⟨_, _, _, h0, _, hcm, HNL, HRL⟩ := hdp.l.op
      cases h0
      have hi0 : (0 : Int) ≤ (i : Int) := by omega
      clear hdp hce
      go_wp2_with fail
      go_loopw [4] (fun v4 wr => ∃ k : Nat, k ≤ e.l.n ∧ v4 = .int .i64 k ∧ Hid (Below w.heap.size w wr)) (fun v4 _ => e.l.n - (intOf v4).toNat)
      case atStart => exact ⟨0, Nat.zero_le _, rfl, HBR.out⟩
      case round =>
        obtain ⟨k, hk, rfl, HBQ⟩ := hrel
        obtain ⟨f0, f1, f2, f3, f4, f5, f6, f7⟩ := HCE.out.below HBQ.out hb
        by_cases hkt : k < e.l.n
        · obtain ⟨b2, off2, q, hA2, hbq, hdq, g0, g1⟩ := (HRL.out k hkt).below HBQ.out
          rw [hA2] at f6
          have hk0 : (0 : Int) ≤ (k : Int) := by omega
          have HZA := Lib.hid hA2
          clear hA2
          obtain ⟨wo, rfl⟩ : ∃ wo : World, wo = wr := ⟨_, rfl⟩
          go_upto_region 8 with (fail)
          generalize hX : World.alloc wo _ = X
          have HXI : Hid (Below w.heap.size w X) := by rw [← hX]; exact bchain HBQ.out (al_below _ _)
          have HXL : Hid (LkBlk X wo.heap.size 134 q.x q.y) := by rw [← hX]; exact heap_alloc_new wo _
          clear hX f0 f1 f2 f3 f4 f5 f6 f7 g0 g1
          generalize wo.heap.size = gx at HXL ⊢
          obtain ⟨t0, t1, tl⟩ := HXL.out.facts
          go_wp2_with fail
          refine (inv_any q.x _).mono ?_
          rintro e' w1 ⟨⟨x, rfl⟩, rfl⟩
          cases hx : decide (x < 0)
          rotate_left
          · go_wp2_with fail
            go_ret
            exact ⟨RetE.mk trivial, HXI.out⟩
          go_wp2_with fail
          refine (find26_any _ L q.y _ (HV.out.below HXI.out)).mono ?_
          rintro e' w1 ⟨rfl, rfl⟩
          rcases find_cases HV.out q.y with ⟨hz, -⟩ | ⟨j, e2, b3, o3, hz, hjn, hLj, -, hA3, hb3, hce2⟩
          · rw [hz]
            have HZ := Lib.hid hz
            clear hz
            go_wp2_with fail
            go_ret
            exact ⟨RetE.mk trivial, HXI.out⟩
          injection hA3 with h2
          injection h2 with h3 h4
          subst h3 h4
          rw [hz]
          have HZ := Lib.hid hz
          have HCE2 := Lib.hid hce2
          obtain ⟨p2, _, hdp2⟩ := HD.out.get hLj
          have HDP2 := Lib.hid hdp2
          have hj0 : (0 : Int) ≤ (j : Int) := by omega
          clear hz hce2 hdp2 hLj hx
          go_upto_region 13 with (fail)
          clear t0 t1 tl
          refine wp_region_mix 13 [0, 1, 2, 3, 4, 5, 6, 7, 8, 9, 10, 11, 12] [] [(true, 0), (true, 1), (true, 2), (true, 3), (true, 4), (true, 5), (true, 7), (true, 8), (true, 9), (true, 10), (true, 11), (false, 6), (true, 12), (false, 13), (false, 14)] (fun w' => Below X.heap.size X w') (by kernel_rfl) (by kernel_rfl) ?_
          rintro D hDD
          have HSD : Hid (Below X.heap.size X D) := by rw [hDD]; exact (Below.refl _ _).drew
          clear hDD
          refine ⟨HSD.out, ?_⟩
          have HS : Hid (∀ w' : World, Below X.heap.size X w' → ECells w' b (off + j * 8) e2 ∧ ECells w' b (off + i * 8) e ∧ w'.cell? ⟨gx, 0, none⟩ = some (.int .i64 q.x)) :=
            fun w' h => ⟨HCE2.out.below (bchain HXI.out h) hb3, HCE.out.below (bchain HXI.out h) hb, (HXL.out.below h).facts.1⟩
          iterate 11 (refine wpMix_q (v := ?_) rfl rfl (fun w' hS => ?_) ?_; rotate_left; (focus ((try obtain ⟨⟨s0, s1, s2, s3, s4, s5, s6, s7⟩, ⟨r0, r1, r2, r3, r4, r5, r6, r7⟩, t0⟩ := HS.out _ (hS rfl)); clear hS; go_simp; try with_reducible rfl; done)); (try simp only [Act.put, List.setIfInBounds_toArray, List.set_cons_zero, List.set_cons_succ]))
          refine wpMix_e rfl rfl (fun K hK => ?_)
          go_simp
          refine (inv_any q.x _).mono ?_
          rintro e' w1 ⟨⟨x2, rfl⟩, rfl⟩
          refine hK.out _ _ (fun _ => HSD.out) ?_
          clear hK K
          (try simp only [Act.put, List.setIfInBounds_toArray, List.set_cons_zero, List.set_cons_succ])
          (refine wpMix_q (v := ?_) rfl rfl (fun w' hS => ?_) ?_; rotate_left; (focus ((try obtain _ := HS.out _ (hS rfl)); clear hS; go_simp; try with_reducible rfl; done)); (try simp only [Act.put, List.setIfInBounds_toArray, List.set_cons_zero, List.set_cons_succ]))
          refine wpMix_e rfl rfl (fun K hK => ?_)
          go_simp
          refine (has26_any e2 p2 x2 e.id _ (HDP2.out.below (bchain HXI.out HSD.out))).mono ?_
          rintro e' w2 ⟨⟨bb, rfl, _⟩, hb2⟩
          have HB2 := Lib.hid (bchain HXI.out (bchain HSD.out hb2))
          refine hK.out _ _ (fun h => absurd h (by decide)) ?_
          clear hK K hb2
          (try simp only [Act.put, List.setIfInBounds_toArray, List.set_cons_zero, List.set_cons_succ])
          (refine wpMix_e rfl rfl (fun K hK => ?_); go_simp; refine hK.out _ _ (fun h => absurd h (by decide)) ?_; clear hK K; (try simp only [Act.put, List.setIfInBounds_toArray, List.set_cons_zero, List.set_cons_succ]))
          refine wpMix_nil ?_
          refine NoPanic.normal ?_
          clear HS
          cases bb
          · go_wp2_with fail
            go_ret
            exact ⟨RetE.mk trivial, HB2.out⟩
          · go_wp2_with fail
            go_roundw
            case rel => exact ⟨k + 1, by omega, by go_num, HB2.out⟩
            case measure => simp [intOf]; omega
        · go_wp2_with fail
          go_roundw
          case rel => exact ⟨i + 1, by omega, by go_num, HBQ.out⟩
          case measure => simp [intOf]; omega
    · go_wp2_with fail
      go_loopw [7] (fun v7 wr => ∃ k : Nat, k ≤ n ∧ v7 = .int .i64 k ∧ Hid (Below w.heap.size w wr)) (fun v7 _ => n - (intOf v7).toNat)
      case atStart => exact ⟨0, Nat.zero_le _, rfl, HBR.out⟩
      case round =>
        obtain ⟨k, hk, rfl, HBQ⟩ := hrel
        by_cases hkt : k < n
        · obtain ⟨b, off, e, hA, hb, hd, hce⟩ := HR.out k hkt
          subst hA
          have HCE := Lib.hid hce
          have hk0 : (0 : Int) ≤ (k : Int) := by omega
          clear hce
          go_upto_region 18 with (fail)
          refine wp_region_mix 26 [0, 1, 2, 3, 4, 5, 6, 7, 8, 9, 10, 11, 12, 13, 14, 15, 16, 17, 18, 19, 20, 21, 22, 23, 24, 25] [] [(true, 0), (true, 1), (true, 2), (true, 3), (true, 4), (true, 5), (true, 7), (true, 8), (true, 9), (true, 10), (true, 11), (false, 6), (false, 12), (true, 13), (true, 14), (true, 15), (true, 16), (true, 17), (true, 18), (true, 19), (true, 21), (true, 22), (true, 23), (true, 24), (true, 25), (false, 20), (false, 26), (false, 27)] (fun w' => Below w.heap.size w w') (by kernel_rfl) (by kernel_rfl) ?_
          rintro D hDD
          have HSD : Hid (Below w.heap.size w D) := by rw [hDD]; exact HBQ.out.drew
          clear hDD
          refine ⟨HSD.out, ?_⟩
          have HS : Hid (∀ w' : World, Below w.heap.size w w' → ECells w' b (off + k * 8) e) := fun w' h => HCE.out.below h hb
          iterate 11 (refine wpMix_q (v := ?_) rfl rfl (fun w' hS => ?_) ?_; rotate_left; (focus ((try obtain ⟨r0, r1, r2, r3, r4, r5, r6, r7⟩ := HS.out _ (hS rfl)); clear hS; go_simp; try with_reducible rfl; done)); (try simp only [Act.put, List.setIfInBounds_toArray, List.set_cons_zero, List.set_cons_succ]))
          refine wpMix_e rfl rfl (fun K hK => ?_)
          go_simp
          refine (reach_any _ L P e.id 2 _ (HV.out.below HSD.out) (HD.out.mono fun _ _ _ _ k => k.below HSD.out) HLL.out).mono ?_
          rintro e' w1 ⟨⟨v1, l1, rfl, hl1⟩, hb1⟩
          have HB1 := Lib.hid (bchain HSD.out hb1)
          refine hK.out _ _ (fun _ => HB1.out) ?_
          clear hK K hb1
          (try simp only [Act.put, List.setIfInBounds_toArray, List.set_cons_zero, List.set_cons_succ])
          refine wpMix_e rfl rfl (fun K hK => ?_)
          go_simp
          refine (in26_any _ l1 e.id _ hl1).mono ?_
          rintro e' w2 ⟨⟨bb, rfl, _⟩, hb2⟩
          have HB2 := Lib.hid (bchain HB1.out hb2)
          refine hK.out _ _ (fun _ => HB2.out) ?_
          clear hK K hb2 hl1
          (try simp only [Act.put, List.setIfInBounds_toArray, List.set_cons_zero, List.set_cons_succ])
          cases bb
          · iterate 12 (refine wpMix_q (v := ?_) rfl rfl (fun w' hS => ?_) ?_; rotate_left; (focus ((try obtain ⟨r0, r1, r2, r3, r4, r5, r6, r7⟩ := HS.out _ (hS rfl)); clear hS; go_simp; try with_reducible rfl; done)); (try simp only [Act.put, List.setIfInBounds_toArray, List.set_cons_zero, List.set_cons_succ]))
            refine wpMix_e rfl rfl (fun K hK => ?_)
            go_simp
            refine (reach_any _ L P e.id 4 _ (HV.out.below HB2.out) (HD.out.mono fun _ _ _ _ k => k.below HB2.out) HLL.out).mono ?_
            rintro e' w3 ⟨⟨v3, l3, rfl, hl3⟩, hb3⟩
            have HB3 := Lib.hid (bchain HB2.out hb3)
            refine hK.out _ _ (fun _ => HB3.out) ?_
            clear hK K hb3
            (try simp only [Act.put, List.setIfInBounds_toArray, List.set_cons_zero, List.set_cons_succ])
            refine wpMix_e rfl rfl (fun K hK => ?_)
            go_simp
            refine (in26_any _ l3 e.id _ hl3).mono ?_
            rintro e' w4 ⟨⟨bb, rfl, _⟩, hb4⟩
            have HB4 := Lib.hid (bchain HB3.out hb4)
            refine hK.out _ _ (fun h => absurd h (by decide)) ?_
            clear hK K hb4 hl3
            (try simp only [Act.put, List.setIfInBounds_toArray, List.set_cons_zero, List.set_cons_succ])
            (refine wpMix_e rfl rfl (fun K hK => ?_); go_simp; refine hK.out _ _ (fun h => absurd h (by decide)) ?_; clear hK K; (try simp only [Act.put, List.setIfInBounds_toArray, List.set_cons_zero, List.set_cons_succ]))
            refine wpMix_nil ?_
            refine NoPanic.normal ?_
            clear HS
            cases bb
            · go_wp2_with fail
              go_roundw
              case rel => exact ⟨k + 1, by omega, by go_num, HB4.out⟩
              case measure => simp [intOf]; omega
            · go_wp2_with fail
              go_ret
              exact ⟨RetE.mk trivial, HB4.out⟩
          · (refine wpMix_q (v := ?_) rfl rfl (fun w' hS => ?_) ?_; rotate_left; (focus ((try obtain _ := HS.out _ (hS rfl)); clear hS; go_simp; try with_reducible rfl; done)); (try simp only [Act.put, List.setIfInBounds_toArray, List.set_cons_zero, List.set_cons_succ]))
            iterate 11 (refine wpMix_qskip rfl rfl ?_; (try simp only [Act.put, List.setIfInBounds_toArray, List.set_cons_zero, List.set_cons_succ]))
            iterate 2 (refine wpMix_eskip rfl rfl (HB2).out ?_; (try simp only [Act.put, List.setIfInBounds_toArray, List.set_cons_zero, List.set_cons_succ]))
            (refine wpMix_e rfl rfl (fun K hK => ?_); go_simp; refine hK.out _ _ (fun h => absurd h (by decide)) ?_; clear hK K; (try simp only [Act.put, List.setIfInBounds_toArray, List.set_cons_zero, List.set_cons_succ]))
            refine wpMix_nil ?_
            refine NoPanic.normal ?_
            clear HS
            go_wp2_with fail
            go_ret
            exact ⟨RetE.mk trivial, HB2.out⟩
        · go_wp2_with fail
          go_ret
          exact ⟨RetE.mk trivial, HBQ.out⟩
end Go.Proofs.YtiopgbbggeimaaaGreat
