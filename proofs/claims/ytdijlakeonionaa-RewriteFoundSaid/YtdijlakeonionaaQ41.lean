/-
  The statements' walks: RewriteShortens.
-/
import Derived.Test.YtdijlakeonionaaQ40
namespace Go.Proofs.Ytdijlakeonionaa
open Go.ChangeShapes Go.WideShapes Go.ChangeAt Go.RowKit
set_option maxHeartbeats 16000000 in
set_option maxRecDepth 100000 in
theorem shortens_walk (v vr vw : Value) (I : List PPh) (R : PRule) (l : List Int) (w : World) (hv : RdV w v I) (hr : RdR w vr R) (hw : RdI w vw l) :
    Calls Try.prog 7 #[v, vr, vw] w fun e w' => e = .returned (.bool true) ∧ Below w.heap.size w w' := by
  have HVW := Lib.hid hw
  obtain ⟨Aw, nw, cw, rfl, _, hcw63, HNW, HRW⟩ := hw.op
  clear hw
  obtain ⟨u, rfl, hp⟩ := id hv
  obtain ⟨A0, n0, c0, rfl, _, _, _, _⟩ := hp.op
  obtain ⟨vf, vt, vl, vg, rfl, hf, ht, hl, hg⟩ := id hr
  obtain ⟨A1, n1, c1, rfl, _, _, HN1, HR1⟩ := hf.op
  obtain ⟨A2, n2, c2, rfl, _, _, HN2, HR2⟩ := ht.op
  obtain ⟨A3, n3, c3, rfl, _, _, HN3, _⟩ := hl.op
  obtain ⟨A4, n4, c4, rfl, _, _, HN4, _⟩ := hg.op
  have HV := Lib.hid hv
  have HRR := Lib.hid hr
  have HF := Lib.hid hf
  have HT := Lib.hid ht
  clear hp hf ht hl hg hv hr
  obtain ⟨beg, hbeg⟩ : ∃ x, R.beg = x := ⟨_, rfl⟩
  obtain ⟨fin, hfin⟩ : ∃ x, R.fin = x := ⟨_, rfl⟩
  rw [hbeg, hfin] at HRR ⊢
  clear hbeg hfin
  go_enter Try.func7, Try.ntmps7
  go_upto_region 1 with (fail)
  generalize hW : World.alloc (World.alloc w _) _ = W
  have HBW : Hid (Below w.heap.size w W) := by rw [← hW]; exact bchain (al_below _ _) (al_below _ _)
  have HP : Hid (VBlk W w.heap.size (.slice A0 n0 c0)) := by rw [← hW]; exact VBlk.below (heap_alloc_new w _) (al_below _ _)
  have HQ : Hid (RBlk W (w.heap.size + 1) (.slice A1 n1 c1) (.slice A2 n2 c2) (.slice A3 n3 c3) (.slice A4 n4 c4) beg fin) := by
    have h := heap_alloc_new (w.alloc (.cells #[.slice A0 n0 c0] 24)) (.cells #[.slice A1 n1 c1, .slice A2 n2 c2, .slice A3 n3 c3, .slice A4 n4 c4, .bool beg, .bool fin] 28)
    rw [World.size_alloc] at h
    rw [← hW]; exact h
  clear hW
  have y0 := HP.out.cell
  have y1 := HP.out.lt
  obtain ⟨z0, z1, z2, z3, z4, z5⟩ := HQ.out.cells
  have zl := HQ.out.lt
  go_wp2_with fail
  clear y0 y1 z0 z1 z2 z3 z4 z5 zl
  refine (right_any _ _ _ I R l _ (HV.out.below HBW.out) (HRR.out.below HBW.out) ((HVW).out.below HBW.out)).mono ?_
  rintro e w1 ⟨⟨b, rfl, hbr⟩, hb1⟩
  have HB1 := Lib.hid (bchain HBW.out hb1)
  have HP1 := Lib.hid (HP.out.below hb1)
  have HQ1 := Lib.hid (HQ.out.below hb1)
  clear hb1 HP HQ HBW
  cases b
  · skip
    go_wp2_with fail
    refine (awake_any _).mono ?_
    rintro e wz ⟨rfl, hbz⟩
    have HBZ := Lib.hid (bchain (HB1).out hbz)
    clear hbz
    go_wp2_with fail
    go_ret
    exact ⟨rfl, HBZ.out⟩
  obtain ⟨h60, hck0, hlb⟩ := hbr rfl
  have H60 := Lib.hid h60
  have HRG : Hid (RGood I R) := rgood_of hck0
  have HLB := Lib.hid hlb
  have HLN := Lib.hid (list_len hlb)
  have HNZ := Lib.hid (list_nz hlb)
  clear hbr h60 hck0 hlb
  go_upto_region 3 with (fail)
  refine wp_region_ord 7 [0, 1, 2, 3, 4, 5, 6] [] [0, 1, 2, 4, 5, 6] [3, 7, 8, 9] (fun w' => Below w1.heap.size w1 w') (by kernel_rfl) (by kernel_rfl) ?_
  rintro D hD
  have HSD : Hid (Below w1.heap.size w1 D) := by rw [hD]; exact (Below.refl _ _).drew
  clear hD
  refine ⟨HSD.out, ?_⟩
  have HS := Lib.hid (fun (w' : World) (h : Below w1.heap.size w1 w') => And.intro (HP1.out.below h).cell (HQ1.out.below h).cells)
  iterate 6 (refine wpHead_cons (v := ?_) rfl rfl (fun w' hS => ?_) ?_; rotate_left; (focus ((try obtain ⟨s0, z0, z1, z2, z3, z4, z5⟩ := HS.out _ (hS rfl)); clear hS; go_simp; try with_reducible rfl; done)); (try simp only [Act.put, List.setIfInBounds_toArray, List.set_cons_zero, List.set_cons_succ]))
  refine wpHead_nil ?_
  refine wpTail_cons rfl rfl (fun K hK => ?_)
  go_simp
  refine (psites_any _ _ _ I R l _ (HV.out.below (bchain HB1.out HSD.out)) (HRR.out.below (bchain HB1.out HSD.out)) (HVW.out.below (bchain HB1.out HSD.out)) HRG.out.ok HLN.out).mono ?_
  rintro e Y1 ⟨⟨vv, rfl, ho⟩, hb⟩
  obtain ⟨A7, n7, c7, rfl⟩ := own_sliceN ho
  have HSY1 := Lib.hid (bchain HSD.out hb)
  have HXY1 := Lib.hid hb
  have HO7 := Lib.hid ho.rd
  refine hK.out _ _ (fun _ => HSY1.out) ?_
  clear hK K ho hb
  (try simp only [Act.put, List.setIfInBounds_toArray, List.set_cons_zero, List.set_cons_succ])
  refine wpTail_cons rfl rfl (fun K hK => ?_)
  go_simp
  refine (papply_any _ _ _ I R l _ (HV.out.below (bchain HB1.out HSY1.out)) (HRR.out.below (bchain HB1.out HSY1.out)) (HVW.out.below (bchain HB1.out HSY1.out)) HRG.out.ok HLN.out HNZ.out).mono ?_
  rintro e Y2 ⟨⟨vv, rfl, ho⟩, hb⟩
  obtain ⟨A8, n8, c8, rfl⟩ := own_sliceN ho
  have HSY2 := Lib.hid (bchain HSY1.out hb)
  have HXY2 := Lib.hid hb
  have HO8 := Lib.hid ho.rd
  refine hK.out _ _ (fun _ => HSY2.out) ?_
  clear hK K ho hb
  (try simp only [Act.put, List.setIfInBounds_toArray, List.set_cons_zero, List.set_cons_succ])
  have HOK : Hid (ShortOk R l (sitesF I R l) (applyF I R l)) := short_ok HNZ.out
  have HS7 := Lib.hid (HO7.out.below HXY2.out)
  have HB2 := Lib.hid (bchain HB1.out HSY2.out)
  clear HO7 HXY2 HXY1 HSY1 HSD HS HLB
  generalize hS : sitesF I R l = S at HOK HS7
  generalize ho : applyF I R l = out at HOK HO8
  clear hS ho
  obtain ⟨_, _, _, he, _, _, HN7, HR7⟩ := HS7.out.op
  cases he
  obtain ⟨_, _, _, he, _, _, HN8, _⟩ := HO8.out.op
  cases he
  have HLL : Hid (l.length = nw) := HNW.out
  have hnwL : nw ≤ 1000000 := by have := HLN.out; rw [HNW.out] at this; exact this
  refine wpTail_rest 8 rfl ?_
  simp only [List.drop_succ_cons, List.drop_zero]
  go_wp2_with fail
  refine NoPanic.normal ?_
  go_wp2_with fail
  go_loopw [9, 28] (fun v9 v28 wr => ∃ i d : Nat, i ≤ n7 ∧ v28 = .int .i64 i ∧ v9 = .int .i64 d ∧ Hid (d = dS R l (S.take i)) ∧ Hid (Below Y2.heap.size Y2 wr)) (fun _ v28 _ => n7 - (intOf v28).toNat)
  case atStart => exact ⟨0, 0, Nat.zero_le _, rfl, rfl, rfl, Below.refl _ _⟩
  case round =>
    obtain ⟨i, d, hi, rfl, rfl, HDI, HBR⟩ := hrel
    by_cases hlt : i < n7
    · obtain ⟨b7, o7, s, rfl, hb7, hd7, hc7⟩ := (HR7.out i hlt).below HBR.out
      obtain ⟨k, rfl, hkn, hhas⟩ := HOK.out.mem s (List.mem_of_mem_drop (by rw [hd7.out]; exact List.mem_cons_self))
      rw [HNW.out] at hkn
      obtain ⟨bw, ow, x, rfl, hbw, hdw, hcw⟩ := (HRW.out k hkn).below (bchain HB2.out HBR.out)
      rw [getD_at hdw.out] at hhas
      have HHX := Lib.hid hhas
      have HD7 : Hid (dS R l (S.take (i + 1)) = dS R l (S.take i) + if toF R.fr R.tto x = 0 then 1 else 0) := by
        have h := dS_at R l hd7.out
        rw [Int.toNat_natCast, getD_at hdw.out] at h
        exact h
      have hi0 : (0 : Int) ≤ (i : Int) := by omega
      have hil : (i : Int) < (n7 : Int) := by omega
      have hk0 : (0 : Int) ≤ (k : Int) := by omega
      have hkl : (k : Int) < (nw : Int) := by omega
      have hkn0 : ¬ (k : Int) < 0 := by omega
      have hkge : ¬ nw ≤ k := by omega
      have hkge' : ¬ (nw : Int) ≤ (k : Int) := by omega
      have HCC : Hid (∀ w' : World, Below wr.heap.size wr w' → w'.cell? ⟨b7, o7 + i, none⟩ = some (.int .i64 (k : Int)) ∧ w'.cell? ⟨bw, ow + k, none⟩ = some (.int .i64 x)) :=
        fun w' h => ⟨(h.cell (p := ⟨b7, o7 + i, none⟩) hb7).trans hc7, (h.cell (p := ⟨bw, ow + k, none⟩) hbw).trans hcw⟩
      have HBX := Lib.hid (bchain HSY2.out HBR.out)
      clear hb7 hc7 hbw hcw hhas
      go_upto_region 8 with (fail)
      refine wp_region_mix 24 [0, 1, 2, 3, 4, 5, 6, 7, 8, 9, 10, 11, 12, 13, 14, 15, 16, 17, 18, 19, 20, 21, 22, 23] [] [(true, 0), (true, 1), (true, 2), (true, 3), (true, 4), (true, 5), (true, 6), (true, 7), (true, 8), (true, 9), (true, 10), (true, 11), (true, 12), (true, 13), (true, 14), (true, 15), (true, 16), (true, 17), (true, 18), (true, 19), (true, 20), (true, 21), (true, 22), (true, 23), (false, 24), (false, 25), (false, 26)] (fun w' => Below wr.heap.size wr w') (by kernel_rfl) (by kernel_rfl) ?_
      rintro D hD
      have HSD : Hid (Below wr.heap.size wr D) := by rw [hD]; exact (Below.refl _ _).drew
      clear hD
      refine ⟨HSD.out, ?_⟩
      have HS := Lib.hid (fun (w' : World) (h : Below wr.heap.size wr w') => And.intro ((HQ1.out.below (bchain HBX.out h)).cells) (HCC.out w' h))
      iterate 24 (refine wpMix_q (v := ?_) rfl rfl (fun w' hS => ?_) ?_; rotate_left; (focus ((try obtain ⟨⟨z0, z1, z2, z3, z4, z5⟩, g0, g1⟩ := HS.out _ (hS rfl)); clear hS; go_simp; try with_reducible rfl; done)); (try simp only [Act.put, List.setIfInBounds_toArray, List.set_cons_zero, List.set_cons_succ]))
      refine wpMix_e rfl rfl (fun K hK => ?_)
      go_simp
      refine (rhas_true _ R.fr x _ (HF.out.below (bchain HB2.out (bchain HBR.out HSD.out))) HHX.out).mono ?_
      rintro e Y3 ⟨rfl, hb⟩
      refine hK.out _ _ (fun _ => bchain HSD.out hb) ?_
      clear hK K
      (try simp only [Act.put, List.setIfInBounds_toArray, List.set_cons_zero, List.set_cons_succ])
      have HSY3 := Lib.hid (bchain HSD.out hb)
      clear hb
      iterate 2 (refine wpMix_e rfl rfl (fun K hK => ?_); go_simp; refine hK.out _ _ (fun h => absurd h (by decide)) ?_; clear hK K; (try simp only [Act.put, List.setIfInBounds_toArray, List.set_cons_zero, List.set_cons_succ]))
      refine wpMix_nil ?_
      refine NoPanic.normal ?_
      have HBY := Lib.hid (bchain HBX.out HSY3.out)
      obtain ⟨z0, z1, z2, z3, z4, z5⟩ := (HQ1.out.below HBY.out).cells
      have zl := (HQ1.out.below HBY.out).lt
      go_wp2_with fail
      clear z0 z1 z2 z3 z4 z5 zl HS
      obtain ⟨hz1, hz2⟩ := zK_parts HRG.out.tl HRG.out.nd HHX.out
      have HZ1 := Lib.hid hz1
      have HZ2 := Lib.hid hz2
      have hd1 : d ≤ 1000000 := by have h1 := dS_le R l (S.take i); have h2 := HDI.out; have h3 := List.length_take_le' i S; have h4 := HOK.out.len; have h5 := HNW.out; have h6 : dS R l S ≤ 1000000 := (by omega); have h7 : dS R l (S.take i) ≤ dS R l S := (List.take_sublist i S).countP_le; omega
      clear hz1 hz2
      go_loopw [9, 61] (fun v9 v61 wx => ∃ j q : Nat, j ≤ n1 ∧ v61 = .int .i64 j ∧ v9 = .int .i64 q ∧ Hid (q = d + zK R.fr R.tto x j) ∧ Hid (Below Y3.heap.size Y3 wx)) (fun _ v61 _ => n1 - (intOf v61).toNat)
      case atStart => exact ⟨0, d, Nat.zero_le _, rfl, rfl, rfl, Below.refl _ _⟩
      case round =>
        obtain ⟨j, q, hj, rfl, rfl, HQJ, HBS⟩ := hrel
        have HBZ := Lib.hid (bchain HBY.out HBS.out)
        by_cases hjlt : j < n1
        · obtain ⟨b1, o1, f, rfl, hb1, hd1, hc1⟩ := (HR1.out j hjlt).below (bchain HB1.out HBZ.out)
          obtain ⟨b2, o2, t, rfl, hb2, hd2, hc2⟩ := (HR2.out j (by rw [← HN2.out, HRG.out.tl, HN1.out]; exact hjlt)).below (bchain HB1.out HBZ.out)
          have HK2 : Hid (zK R.fr R.tto x (j + 1) = zK R.fr R.tto x j + if (f = x ∧ t = 0) then 1 else 0) := by rw [Hid, zK, getD_at hd1.out, getD_at hd2.out]
          have hq1 : q ≤ 1000001 := by have h1 := HQJ.out; have h2 := HZ1.out j (by rw [HN1.out]; omega); omega
          have hj0 : (0 : Int) ≤ (j : Int) := by omega
          have hj1 : (j : Int) < (n1 : Int) := by omega
          have hj2 : j < n2 := by rw [← HN2.out, HRG.out.tl, HN1.out]; exact hjlt
          have hj3 : (j : Int) < (n2 : Int) := by omega
          have hwq : IntKind.i64.wrap ((q : Int) + 1) = (q : Int) + 1 := IntWalk.i64_in _ (by omega)
          have HS : Hid (∀ w' : World, Below wr.heap.size wr w' → (w'.cell? ⟨w.heap.size + 1, 0, none⟩ = some (.slice (some ⟨b1, o1, none⟩) n1 c1) ∧ w'.cell? ⟨w.heap.size + 1, 1, none⟩ = some (.slice (some ⟨b2, o2, none⟩) n2 c2)) ∧ w'.cell? ⟨b1, o1 + j, none⟩ = some (.int .i64 f) ∧ w'.cell? ⟨b2, o2 + j, none⟩ = some (.int .i64 t) ∧ w'.cell? ⟨b7, o7 + i, none⟩ = some (.int .i64 (k : Int)) ∧ w'.cell? ⟨bw, ow + k, none⟩ = some (.int .i64 x)) := by
            intro w' h
            obtain ⟨r0, r1, _, _, _, _⟩ := (HQ1.out.below (bchain HBZ.out h)).cells
            exact ⟨⟨r0, r1⟩, (h.cell (p := ⟨b1, o1 + j, none⟩) hb1).trans hc1, (h.cell (p := ⟨b2, o2 + j, none⟩) hb2).trans hc2, HCC.out w' (bchain HSY3.out (bchain HBS.out h))⟩
          clear hb1 hb2 hc1 hc2 hd1
          go_upto_region 13 with (fail)
          refine wp_region_mix 17 [0, 1, 2, 3, 4, 5, 6, 7, 8, 9, 10, 11, 12, 13, 14, 15, 16] [] [(true, 0), (true, 1), (true, 2), (true, 3), (true, 4), (true, 5), (true, 6), (true, 7), (true, 8), (true, 9), (true, 10), (true, 11), (true, 12), (true, 13), (true, 14), (true, 15), (true, 16), (false, 17), (false, 18), (false, 19), (false, 20)] (fun w' => Below wr.heap.size wr w') (by kernel_rfl) (by kernel_rfl) ?_
          rintro Z hZ
          have HSZ : Hid (Below wr.heap.size wr Z) := by rw [hZ]; exact (Below.refl _ _).drew
          clear hZ
          refine ⟨HSZ.out, ?_⟩
          obtain ⟨r0, r1, _, _, _, _⟩ := (HQ1.out.below (bchain HBZ.out HSZ.out)).cells
          obtain ⟨_, f0, f1, f2, f3⟩ := HS.out Z HSZ.out
          by_cases hfx : f = x
          · have hf1 : (f == x) = true := by simp [hfx]
            by_cases ht0 : t = 0
            · have ht1 : (t == 0) = true := by simp [ht0]
              have HK3 : Hid (zK R.fr R.tto x (j + 1) = zK R.fr R.tto x j + 1) := by rw [Hid, HK2.out, if_pos ⟨hfx, ht0⟩]
              clear hfx ht0
              iterate 17 (refine wpMix_q (v := ?_) rfl rfl (fun w' hS => ?_) ?_; rotate_left; (focus ((try obtain ⟨⟨s0, s1⟩, s2, s3, s4, s5⟩ := HS.out _ (hS rfl)); clear hS; go_simp; try with_reducible rfl; done)); (try simp only [Act.put, List.setIfInBounds_toArray, List.set_cons_zero, List.set_cons_succ]))
              iterate 4 (refine wpMix_e rfl rfl (fun K hK => ?_); go_simp; refine hK.out _ _ (fun h => absurd h (by decide)) ?_; clear hK K; (try simp only [Act.put, List.setIfInBounds_toArray, List.set_cons_zero, List.set_cons_succ]))
              refine wpMix_nil ?_
              refine NoPanic.normal ?_
              go_wp2_with fail
              go_roundw
              case rel => exact ⟨j + 1, q + 1, by omega, by go_num, by go_num, by rw [Hid, HK3.out, HQJ.out]; omega, bchain HBS.out HSZ.out⟩
              case measure => simp [intOf]; omega
            · have ht1 : (t == 0) = false := by simp [ht0]
              have HK3 : Hid (zK R.fr R.tto x (j + 1) = zK R.fr R.tto x j) := by rw [Hid, HK2.out, if_neg (fun h => ht0 h.2), Nat.add_zero]
              clear hfx ht0
              iterate 17 (refine wpMix_q (v := ?_) rfl rfl (fun w' hS => ?_) ?_; rotate_left; (focus ((try obtain ⟨⟨s0, s1⟩, s2, s3, s4, s5⟩ := HS.out _ (hS rfl)); clear hS; go_simp; try with_reducible rfl; done)); (try simp only [Act.put, List.setIfInBounds_toArray, List.set_cons_zero, List.set_cons_succ]))
              iterate 4 (refine wpMix_e rfl rfl (fun K hK => ?_); go_simp; refine hK.out _ _ (fun h => absurd h (by decide)) ?_; clear hK K; (try simp only [Act.put, List.setIfInBounds_toArray, List.set_cons_zero, List.set_cons_succ]))
              refine wpMix_nil ?_
              refine NoPanic.normal ?_
              go_wp2_with fail
              go_roundw
              case rel => exact ⟨j + 1, q, by omega, by go_num, rfl, by rw [Hid, HK3.out]; exact HQJ.out, bchain HBS.out HSZ.out⟩
              case measure => simp [intOf]; omega
          · have hf1 : (f == x) = false := by simp [hfx]
            have HK3 : Hid (zK R.fr R.tto x (j + 1) = zK R.fr R.tto x j) := by rw [Hid, HK2.out, if_neg (fun h => hfx h.1), Nat.add_zero]
            clear hfx
            iterate 14 (refine wpMix_q (v := ?_) rfl rfl (fun w' hS => ?_) ?_; rotate_left; (focus ((try obtain ⟨⟨s0, s1⟩, s2, s3, s4, s5⟩ := HS.out _ (hS rfl)); clear hS; go_simp; try with_reducible rfl; done)); (try simp only [Act.put, List.setIfInBounds_toArray, List.set_cons_zero, List.set_cons_succ]))
            iterate 3 (refine wpMix_qskip rfl rfl ?_; (try simp only [Act.put, List.setIfInBounds_toArray, List.set_cons_zero, List.set_cons_succ]))
            iterate 3 (refine wpMix_eskip rfl rfl (HSZ).out ?_; (try simp only [Act.put, List.setIfInBounds_toArray, List.set_cons_zero, List.set_cons_succ]))
            iterate 1 (refine wpMix_e rfl rfl (fun K hK => ?_); go_simp; refine hK.out _ _ (fun h => absurd h (by decide)) ?_; clear hK K; (try simp only [Act.put, List.setIfInBounds_toArray, List.set_cons_zero, List.set_cons_succ]))
            refine wpMix_nil ?_
            refine NoPanic.normal ?_
            go_wp2_with fail
            go_roundw
            case rel => exact ⟨j + 1, q, by omega, by go_num, rfl, by rw [Hid, HK3.out]; exact HQJ.out, bchain HBS.out HSZ.out⟩
            case measure => simp [intOf]; omega
        · obtain rfl : n1 = j := by omega
          have HQ2 : Hid (q = dS R l (S.take (i + 1))) := by rw [Hid, HQJ.out, HD7.out, ← HZ2.out, HN1.out, HDI.out]
          go_wp2_with fail
          go_roundw
          case rel => exact ⟨i + 1, q, by omega, by go_num, rfl, HQ2.out, bchain (bchain HBR.out HSY3.out) HBS.out⟩
          case measure => simp [intOf]; omega
    · obtain rfl : n7 = i := by omega
      have HDD : Hid (n8 + d = nw) := by
        have h := HOK.out.len
        rw [HN8.out, HNW.out] at h
        rw [Hid, HDI.out, ← HN7.out, List.take_length]
        exact h
      have hdd : n8 + d = nw := HDD.out
      have hwd : IntKind.i64.wrap ((nw : Int) - (d : Int)) = (n8 : Int) := (IntWalk.i64_in _ (by omega)).trans (by omega)
      have HBE := Lib.hid (bchain HB2.out HBR.out)
      by_cases hz : n7 = 0
      · subst hz
        have hout : out = l := HOK.out.none (List.eq_nil_of_length_eq_zero HN7.out)
        subst hout
        go_wp2_with fail
        refine (rsame_same _ _ out _ (HO8.out.below HBR.out) (HVW.out.below HBE.out)).mono ?_
        rintro e x1 ⟨rfl, hx1⟩
        have HBE1 := Lib.hid (bchain HBR.out hx1)
        clear hx1
        go_wp2_with fail
        refine (up_any _ S _ (HS7.out.below HBE1.out) HOK.out.up).mono ?_
        rintro e x2 ⟨rfl, hx2⟩
        have HBE2 := Lib.hid (bchain HBE1.out hx2)
        clear hx2
        go_wp2_with fail
        refine (awake_any _).mono ?_
        rintro e x3 ⟨rfl, hx3⟩
        have HBE3 := Lib.hid (bchain HBE2.out hx3)
        clear hx3
        go_wp2_with fail
        go_ret
        exact ⟨rfl, bchain HB2.out HBE3.out⟩
      · have hz1 : 0 < n7 := by omega
        have hz2 : (0 : Int) < (n7 : Int) := by omega
        go_wp2_with fail
        refine (up_any _ S _ (HS7.out.below HBR.out) HOK.out.up).mono ?_
        rintro e x2 ⟨rfl, hx2⟩
        have HBE2 := Lib.hid (bchain HBR.out hx2)
        clear hx2
        go_wp2_with fail
        refine (awake_any _).mono ?_
        rintro e x3 ⟨rfl, hx3⟩
        have HBE3 := Lib.hid (bchain HBE2.out hx3)
        clear hx3
        go_wp2_with fail
        go_ret
        exact ⟨rfl, bchain HB2.out HBE3.out⟩
end Go.Proofs.Ytdijlakeonionaa
