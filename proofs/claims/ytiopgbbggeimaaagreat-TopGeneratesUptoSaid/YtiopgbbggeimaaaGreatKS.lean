/-
  Right, Form and Spelled (package surface).
-/
import Derived.Test.YtiopgbbggeimaaaGreatKQ
namespace Go.Proofs.YtiopgbbggeimaaaGreat
open Go.ChangeShapes Go.WideShapes Go.ChangeAt Go.RowKit
theorem LightOk.lx {G : PLang} (h : LightOk G) : LxB G.lex := by
  refine ⟨fun p hp => by have := h.alts p hp; omega, by have := h.five; omega, fun p hp => by have := (h.lex.ent p hp).sl; omega, fun p hp f hf => ?_⟩
  have he := h.lex.ent p hp
  rcases List.mem_cons.1 hf with rfl | hf
  · exact (wordC_ok.1 he.form).2.1
  · exact (wordC_ok.1 (he.alts f hf)).2.1
set_option maxHeartbeats 16000000 in
set_option maxRecDepth 100000 in
theorem right_any (g : GV) (G : PLang) (v : Value) (a : List PPt) (w : World) (hg : DpG w g G) (ha : RdPt w v a) (hl : LightOk G) :
    Calls Tryz.prog 19 #[.agg #[.slice g.i.A g.i.n g.i.c, .string g.on, .slice g.u.A g.u.n g.u.c, .slice g.l.A g.l.n g.l.c, .slice g.r.A g.r.n g.r.c, .int .i64 g.q, .slice g.s.A g.s.n g.s.c, .slice g.f.A g.f.n g.f.c, .slice g.x.A g.x.n g.x.c], .agg #[v]] w fun e' w' => e' = .returned (.int .i64 (rightC G a)) ∧ Below w.heap.size w w' := by
  obtain ⟨rc, hrc⟩ : ∃ rc, rightC G a = rc := ⟨_, rfl⟩
  rw [hrc]
  unfold rightC at hrc
  have HLT := Lib.hid hl
  have HLX := Lib.hid hl.lx
  have HG := Lib.hid hg
  obtain ⟨A, n, c, rfl, _, hc63, HN, HR⟩ := ha.op
  have HA := Lib.hid ha
  rw [HN.out] at hrc
  clear hg ha hl
  go_enter Tryz.func19, Tryz.ntmps19
  go_upto_region 1 with (fail)
  generalize hW : World.alloc (World.alloc w _) _ = W
  have HBW : Hid (Below w.heap.size w W) := by rw [← hW]; exact bchain (al_below _ _) (al_below _ _)
  have HQ : Hid (LgBlk W w.heap.size g) := by rw [← hW]; exact LgBlk.below (heap_alloc_new w _) (al_below _ _)
  have HP : Hid (AnBlk W (w.heap.size + 1) (.slice A n c)) := by
    have h := heap_alloc_new (w.alloc (.cells #[.slice g.i.A g.i.n g.i.c, .string g.on, .slice g.u.A g.u.n g.u.c, .slice g.l.A g.l.n g.l.c, .slice g.r.A g.r.n g.r.c, .int .i64 g.q, .slice g.s.A g.s.n g.s.c, .slice g.f.A g.f.n g.f.c, .slice g.x.A g.x.n g.x.c] 36)) (.cells #[.slice A n c] 39)
    rw [World.size_alloc] at h
    rw [← hW]; exact h
  clear hW
  have pc := HP.out.cell
  by_cases hn0 : n = 0
  · have HRC : Hid (rc = 4) := by rw [Hid, ← hrc, if_pos hn0]
    subst hn0
    clear hrc
    go_wp2_with fail
    go_ret
    exact ⟨by rw [(HRC).out]; rfl, (HBW).out⟩
  rw [if_neg hn0] at hrc
  have d0 : ((n : Int) == 0) = false := by simp; omega
  have d0' : (n == 0) = false := by simp; omega
  by_cases hn4 : 4 < n
  · have HRC : Hid (rc = 11) := by rw [Hid, ← hrc, if_pos hn4]
    have d1 : decide ((4 : Int) < (n : Int)) = true := by simp; omega
    clear hrc hn0
    go_wp2_with fail
    go_ret
    exact ⟨by rw [(HRC).out]; rfl, (HBW).out⟩
  rw [if_neg hn4] at hrc
  have d1 : decide ((4 : Int) < (n : Int)) = false := by simp; omega
  have hnn : n ≤ 4 := by omega
  have HRC := Lib.hid hrc
  clear hrc hn0 hn4
  go_wp2_with fail
  clear pc d0 d0' d1
  go_loopw [23] (fun v23 wr => ∃ k : Nat, k ≤ n ∧ v23 = .int .i64 k ∧ Hid (partsC G.lex a = partsC G.lex (a.drop k)) ∧ Hid (Below W.heap.size W wr)) (fun v23 _ => n - (intOf v23).toNat)
  case atStart => exact ⟨0, Nat.zero_le _, rfl, rfl, Below.refl _ _⟩
  case round =>
    obtain ⟨k, hk, rfl, HPC, HBR⟩ := hrel
    by_cases hlt : k < n
    · obtain ⟨b, off, p, rfl, hb, hd, c0, c1, c2⟩ := (HR.out k hlt).below (bchain HBW.out HBR.out)
      have hk0 : (0 : Int) ≤ (k : Int) := by omega
      have HP2 : Hid (partsC G.lex a = if partC G.lex p ≠ 0 then partC G.lex p else partsC G.lex (a.drop (k + 1))) := by rw [Hid, HPC.out, hd.out]; rfl
      have HBAD : Hid (partC G.lex p ≠ 0 → rc = partC G.lex p) := fun h => by rw [← HRC.out, HP2.out, if_pos h, if_pos h]
      clear HPC
      obtain ⟨wo, rfl⟩ : ∃ wo : World, wo = wr := ⟨_, rfl⟩
      go_upto_region 8 with (fail)
      generalize hX : World.alloc wo _ = X
      have HXB : Hid (Below W.heap.size W X) := by rw [← hX]; exact bchain HBR.out (al_below _ _)
      have HXP : Hid (PtBlk X wo.heap.size p) := by rw [← hX]; exact heap_alloc_new wo _
      clear hX c0 c1 c2
      generalize wo.heap.size = gx at HXP ⊢
      obtain ⟨p0, p1, p2, pl⟩ := HXP.out.facts
      obtain ⟨z0, z1, z2, z3, z4, z5, z6, z7, z8, zl⟩ := (HQ.out.below HXB.out).facts
      obtain ⟨L, x, pe, ok, hL, hgv, hdp, hal, hok⟩ := get_two (HG.out.below (bchain HBW.out HXB.out)).x p.e HLX.out.alts
      have HOK := Lib.hid hok
      go_wp2_with fail
      refine (get_any _ L p.e _ hL).mono ?_
      rintro e' w1 ⟨rfl, hb1⟩
      rw [hgv]
      have HB1 := Lib.hid (bchain HXB.out hb1)
      have HP1 := Lib.hid (HXP.out.below hb1)
      clear hb1 hok hdp hal hL hgv p0 p1 p2 pl z0 z1 z2 z3 z4 z5 z6 z7 z8 zl
      go_upto_region 9 with (fail)
      generalize hY : World.alloc w1 _ = Y
      have HYB : Hid (Below W.heap.size W Y) := by rw [← hY]; exact bchain HB1.out (al_below _ _)
      have HPY : Hid (PtBlk Y gx p) := by rw [← hY]; exact HP1.out.below (al_below _ _)
      clear hY
      generalize w1.heap.size = gy
      have HYW := Lib.hid (bchain HBW.out HYB.out)
      obtain ⟨p0, p1, p2, pl⟩ := HPY.out.facts
      obtain ⟨z0, z1, z2, z3, z4, z5, z6, z7, z8, zl⟩ := (HQ.out.below HYB.out).facts
      cases ok
      · have HPN : Hid (rc = 9) := by
          rcases HOK.out with h | h
          · have h1 : partC G.lex p = 9 := by rw [partC, h.2]
            rw [Hid, HBAD.out (by rw [h1]; decide), h1]
          · exact absurd h.1 (by decide)
        clear HOK
        go_wp2_with fail
        go_ret
        exact ⟨by rw [(HPN).out]; rfl, (HYW).out⟩
      have HPS : Hid (getP G.lex p.e = some pe) := by
        rcases HOK.out with h | h
        · exact absurd h.1 (by decide)
        · exact h.2
      clear HOK
      go_wp2_with fail
      refine (form_any g G p _ (HG.out.below HYW.out) HLX.out.alts).mono ?_
      rintro e' w2 ⟨⟨x2, Af, nf, cf, bb, rfl, hf⟩, hb2⟩
      have HB2 := Lib.hid (bchain HYB.out hb2)
      have HP2' := Lib.hid (HPY.out.below hb2)
      have HFF := Lib.hid hf
      clear hb2 hf p0 p1 p2 pl z0 z1 z2 z3 z4 z5 z6 z7 z8 zl
      go_upto_region 12 with (fail)
      generalize hZ : World.alloc w2 _ = Z
      have HZB : Hid (Below W.heap.size W Z) := by rw [← hZ]; exact bchain HB2.out (al_below _ _)
      have HPZ : Hid (PtBlk Z gx p) := by rw [← hZ]; exact HP2'.out.below (al_below _ _)
      clear hZ HPY HP1 HXP HP2'
      generalize w2.heap.size = gz
      have HZW := Lib.hid (bchain HBW.out HZB.out)
      cases bb
      · have HPN : Hid (rc = 2) := by
          rcases HFF.out with h | ⟨q, h, _⟩
          · have h1 : partC G.lex p = 2 := by
              have h2 := formAt_some HPS.out
              rw [h.2] at h2
              rw [partC, HPS.out]
              by_cases hc : 0 ≤ p.a ∧ p.a < ((formsP pe).length : Int)
              · rw [if_pos hc] at h2; cases h2
              · simp only [if_neg hc]
            rw [Hid, HBAD.out (by rw [h1]; decide), h1]
          · exact absurd h (by decide)
        clear HFF
        go_wp2_with fail
        go_ret
        exact ⟨by rw [(HPN).out]; rfl, (HZW).out⟩
      have HPD : Hid (partC G.lex p = if 0 ≤ p.s ∧ p.s < ((sensesP G.lex p.e).length : Int) then 0 else 22) := by
        rcases HFF.out with h | ⟨q, _, h, _⟩
        · exact absurd h.1 (by decide)
        · have h2 := formAt_some HPS.out
          rw [h] at h2
          rw [Hid, partC, HPS.out]
          by_cases hc : 0 ≤ p.a ∧ p.a < ((formsP pe).length : Int)
          · simp only [if_pos hc]
          · rw [if_neg hc] at h2; cases h2
      clear HFF
      go_upto_region 14 with (fail)
      refine wp_region_mix 12 [0, 1, 2, 3, 4, 5, 6, 7, 8, 9, 10, 11] [] [(true, 0), (true, 1), (true, 2), (true, 3), (true, 4), (true, 5), (true, 6), (true, 7), (true, 8), (true, 9), (false, 10), (true, 11), (false, 12), (false, 13)] (fun w' => Below Z.heap.size Z w') (by kernel_rfl) (by kernel_rfl) ?_
      rintro D hD
      have HSD : Hid (Below Z.heap.size Z D) := by rw [hD]; exact (Below.refl _ _).drew
      clear hD
      refine ⟨HSD.out, ?_⟩
      have HS : Hid (∀ w' : World, Below Z.heap.size Z w' → w'.cell? ⟨gx, 0, none⟩ = some (.int .i64 p.e) ∧ w'.cell? ⟨gx, 2, none⟩ = some (.int .i64 p.s) ∧ w'.cell? ⟨w.heap.size, 8, none⟩ = some (.slice g.x.A g.x.n g.x.c)) :=
        fun w' h => ⟨(HPZ.out.below h).facts.1, (HPZ.out.below h).facts.2.2.1, (HQ.out.below (bchain HZB.out h)).facts.2.2.2.2.2.2.2.2.1⟩
      by_cases hs0 : p.s < 0
      · have e0 : decide (p.s < 0) = true := by simp [hs0]
        have HPN : Hid (rc = 22) := by
          have h1 : partC G.lex p = 22 := by rw [HPD.out, if_neg (by omega)]
          rw [Hid, HBAD.out (by rw [h1]; decide), h1]
        have HDW := Lib.hid (bchain HZW.out HSD.out)
        iterate 4 (refine wpMix_q (v := ?_) rfl rfl (fun w' hS => ?_) ?_; rotate_left; (focus ((try obtain ⟨s0, s1, s2⟩ := HS.out _ (hS rfl)); clear hS; go_simp; try with_reducible rfl; done)); (try simp only [Act.put, List.setIfInBounds_toArray, List.set_cons_zero, List.set_cons_succ]))
        iterate 6 (refine wpMix_qskip rfl rfl ?_; (try simp only [Act.put, List.setIfInBounds_toArray, List.set_cons_zero, List.set_cons_succ]))
        (refine wpMix_eskip rfl rfl (HSD).out ?_; (try simp only [Act.put, List.setIfInBounds_toArray, List.set_cons_zero, List.set_cons_succ]))
        (refine wpMix_qskip rfl rfl ?_; (try simp only [Act.put, List.setIfInBounds_toArray, List.set_cons_zero, List.set_cons_succ]))
        (refine wpMix_eskip rfl rfl (HSD).out ?_; (try simp only [Act.put, List.setIfInBounds_toArray, List.set_cons_zero, List.set_cons_succ]))
        (refine wpMix_e rfl rfl (fun K hK => ?_); go_simp; refine hK.out _ _ (fun h => absurd h (by decide)) ?_; clear hK K; (try simp only [Act.put, List.setIfInBounds_toArray, List.set_cons_zero, List.set_cons_succ]))
        refine wpMix_nil ?_
        refine NoPanic.normal ?_
        clear HS hs0
        go_wp2_with fail
        go_ret
        exact ⟨by rw [(HPN).out]; rfl, (HDW).out⟩
      have e0 : decide (p.s < 0) = false := by simp [hs0]
      iterate 10 (refine wpMix_q (v := ?_) rfl rfl (fun w' hS => ?_) ?_; rotate_left; (focus ((try obtain ⟨s0, s1, s2⟩ := HS.out _ (hS rfl)); clear hS; go_simp; try with_reducible rfl; done)); (try simp only [Act.put, List.setIfInBounds_toArray, List.set_cons_zero, List.set_cons_succ]))
      refine wpMix_e rfl rfl (fun K hK => ?_)
      go_simp
      refine (senses_any _ G.lex p.e _ ((HG.out.below (bchain HZW.out HSD.out)).x) HLX.out.len HLX.out.sn).mono ?_
      rintro e' w3 ⟨⟨vs, rfl, hvs⟩, hb3⟩
      obtain ⟨As, ns, cs, rfl, _, _, HNS, _⟩ := hvs.op
      have HB3 := Lib.hid (bchain HSD.out hb3)
      have HWD := Lib.hid (bchain HZW.out HB3.out)
      refine hK.out _ _ (fun _ => HB3.out) ?_
      clear hK K hb3 hvs
      (try simp only [Act.put, List.setIfInBounds_toArray, List.set_cons_zero, List.set_cons_succ])
      by_cases hs1 : (ns : Int) ≤ p.s
      · have e1 : decide ((ns : Int) ≤ p.s) = true := by simp [hs1]
        have HPN : Hid (rc = 22) := by
          have h1 : partC G.lex p = 22 := by rw [HPD.out, if_neg (by rw [HNS.out]; omega)]
          rw [Hid, HBAD.out (by rw [h1]; decide), h1]
        (refine wpMix_q (v := ?_) rfl rfl (fun w' hS => ?_) ?_; rotate_left; (focus ((try obtain _ := HS.out _ (hS rfl)); clear hS; go_simp; try with_reducible rfl; done)); (try simp only [Act.put, List.setIfInBounds_toArray, List.set_cons_zero, List.set_cons_succ]))
        iterate 2 (refine wpMix_e rfl rfl (fun K hK => ?_); go_simp; refine hK.out _ _ (fun h => absurd h (by decide)) ?_; clear hK K; (try simp only [Act.put, List.setIfInBounds_toArray, List.set_cons_zero, List.set_cons_succ]))
        refine wpMix_nil ?_
        refine NoPanic.normal ?_
        clear HS hs0 hs1
        go_wp2_with fail
        go_ret
        exact ⟨by rw [(HPN).out]; rfl, (HWD).out⟩
      have e1 : decide ((ns : Int) ≤ p.s) = false := by simp [hs1]
      have HPN : Hid (partsC G.lex a = partsC G.lex (a.drop (k + 1))) := by
        have h1 : partC G.lex p = 0 := by rw [HPD.out, if_pos (by rw [HNS.out]; omega)]
        rw [Hid, HP2.out, if_neg (by rw [h1]; decide)]
      (refine wpMix_q (v := ?_) rfl rfl (fun w' hS => ?_) ?_; rotate_left; (focus ((try obtain _ := HS.out _ (hS rfl)); clear hS; go_simp; try with_reducible rfl; done)); (try simp only [Act.put, List.setIfInBounds_toArray, List.set_cons_zero, List.set_cons_succ]))
      iterate 2 (refine wpMix_e rfl rfl (fun K hK => ?_); go_simp; refine hK.out _ _ (fun h => absurd h (by decide)) ?_; clear hK K; (try simp only [Act.put, List.setIfInBounds_toArray, List.set_cons_zero, List.set_cons_succ]))
      refine wpMix_nil ?_
      refine NoPanic.normal ?_
      clear HS hs0 hs1
      go_wp2_with fail
      go_roundw
      case rel => exact ⟨k + 1, by omega, by go_num, HPN.out, bchain HZB.out HB3.out⟩
      case measure => simp [intOf]; omega
    · have HPZ : Hid (partsC G.lex a = 0) := by rw [Hid, HPC.out, List.drop_of_length_le (by rw [HN.out]; omega)]; rfl
      have HRC2 : Hid ((if accF G.net (clsA G.lex a) = false then 21 else if 24 < (baseA G.lex a).length then 5 else 0) = rc) := by rw [Hid, ← HRC.out, HPZ.out, if_neg (show ¬ ((0 : Int) ≠ 0) by decide)]
      have HAL : Hid (a.length ≤ 1000) := by rw [Hid, HN.out]; omega
      clear HPC HRC
      obtain ⟨X, hX⟩ : ∃ X, X = wr := ⟨_, rfl⟩
      have HXB : Hid (Below W.heap.size W X) := by rw [hX]; exact HBR.out
      rw [← hX]
      clear hX HBR
      have HXW := Lib.hid (bchain HBW.out HXB.out)
      obtain ⟨S, hS⟩ := HLT.out.st
      have HSS := Lib.hid hS
      clear hS
      go_upto_region 17 with (fail)
      refine wp_region_ord 5 [0, 1, 2, 3, 4] [] [0, 1, 2, 3] [4, 5, 6] (fun w' => Below X.heap.size X w') (by kernel_rfl) (by kernel_rfl) ?_
      rintro D hD
      have HSD : Hid (Below X.heap.size X D) := by rw [hD]; exact (Below.refl _ _).drew
      clear hD
      refine ⟨HSD.out, ?_⟩
      have HS : Hid (∀ w' : World, Below X.heap.size X w' → w'.cell? ⟨w.heap.size + 1, 0, none⟩ = some (.slice A n c) ∧ (w'.cell? ⟨w.heap.size, 0, none⟩ = some (.slice g.i.A g.i.n g.i.c) ∧ w'.cell? ⟨w.heap.size, 1, none⟩ = some (.string g.on) ∧ w'.cell? ⟨w.heap.size, 2, none⟩ = some (.slice g.u.A g.u.n g.u.c) ∧ w'.cell? ⟨w.heap.size, 3, none⟩ = some (.slice g.l.A g.l.n g.l.c) ∧ w'.cell? ⟨w.heap.size, 4, none⟩ = some (.slice g.r.A g.r.n g.r.c) ∧
          w'.cell? ⟨w.heap.size, 5, none⟩ = some (.int .i64 g.q) ∧ w'.cell? ⟨w.heap.size, 6, none⟩ = some (.slice g.s.A g.s.n g.s.c) ∧ w'.cell? ⟨w.heap.size, 7, none⟩ = some (.slice g.f.A g.f.n g.f.c) ∧ w'.cell? ⟨w.heap.size, 8, none⟩ = some (.slice g.x.A g.x.n g.x.c) ∧ w.heap.size < w'.heap.size)) :=
        fun w' h => ⟨(HP.out.below (bchain HXB.out h)).cell, (HQ.out.below (bchain HXB.out h)).facts⟩
      iterate 4 (refine wpHead_cons (v := ?_) rfl rfl (fun w' hS => ?_) ?_; rotate_left; (focus ((try obtain ⟨s0, t0, t1, t2, t3, t4, t5, t6, t7, t8, t9⟩ := HS.out _ (hS rfl)); clear hS; go_simp; try with_reducible rfl; done)); (try simp only [Act.put, List.setIfInBounds_toArray, List.set_cons_zero, List.set_cons_succ]))
      refine wpHead_nil ?_
      refine wpTail_cons rfl rfl (fun K hK => ?_)
      go_simp
      refine (classes_any g G _ a _ (HG.out.below (bchain HXW.out HSD.out)) (HA.out.below (bchain HXW.out HSD.out)) HAL.out HLX.out).mono ?_
      rintro e' w1 ⟨⟨vc, rfl, hvc⟩, hb1⟩
      have HB1 := Lib.hid (bchain HSD.out hb1)
      have HVC := Lib.hid hvc
      refine hK.out _ _ (fun _ => HB1.out) ?_
      clear hK K hb1 hvc
      (try simp only [Act.put, List.setIfInBounds_toArray, List.set_cons_zero, List.set_cons_succ])
      refine wpTail_cons rfl rfl (fun K hK => ?_)
      go_simp
      refine (accepts_any _ _ G.net S (clsA G.lex a) _ ((HG.out.below (bchain HXW.out HB1.out)).net) HVC.out HLT.out.net HSS.out).mono ?_
      rintro e' w2 ⟨rfl, hb2⟩
      have HB2 := Lib.hid (bchain HB1.out hb2)
      refine hK.out _ _ (fun h => absurd h (by decide)) ?_
      clear hK K hb2 HS
      (try simp only [Act.put, List.setIfInBounds_toArray, List.set_cons_zero, List.set_cons_succ])
      refine wpTail_rest 6 rfl ?_
      simp only [List.drop_succ_cons, List.drop_zero]
      have HW2 := Lib.hid (bchain HXW.out HB2.out)
      cases hac : accF G.net (clsA G.lex a)
      · have HPN : Hid (rc = 21) := by rw [Hid, ← HRC2.out, if_pos hac]
        clear hac
        go_wp2_with fail
        refine NoPanic.normal ?_
        go_wp2_with fail
        go_ret
        exact ⟨by rw [(HPN).out]; rfl, (HW2).out⟩
      have HRC3 : Hid ((if 24 < (baseA G.lex a).length then (5 : Int) else 0) = rc) := by rw [Hid, ← HRC2.out, if_neg (show ¬ accF G.net (clsA G.lex a) = false by rw [hac]; decide)]
      clear hac
      obtain ⟨z0, z1, z2, z3, z4, z5, z6, z7, z8, zl⟩ := (HQ.out.below (bchain HXB.out HB2.out)).facts
      have pc := (HP.out.below (bchain HXB.out HB2.out)).cell
      go_wp2_with fail
      refine NoPanic.normal ?_
      go_wp2_with fail
      refine (base_any g G _ a _ (HG.out.below HW2.out) (HA.out.below HW2.out) HAL.out HLX.out).mono ?_
      rintro e' w3 ⟨⟨vb, rfl, hvb⟩, hb3⟩
      have HW3 := Lib.hid (bchain HW2.out hb3)
      obtain ⟨Ab, nb, cb, rfl, _, _, HNB, _⟩ := hvb.op
      clear hb3 hvb
      by_cases h24 : 24 < nb
      · have e1 : decide ((24 : Int) < (nb : Int)) = true := by simp; omega
        have HPN : Hid (rc = 5) := by rw [Hid, ← HRC3.out, if_pos (by rw [HNB.out]; exact h24)]
        go_wp2_with fail
        go_ret
        exact ⟨by rw [(HPN).out]; rfl, (HW3).out⟩
      · have e1 : decide ((24 : Int) < (nb : Int)) = false := by simp; omega
        have HPN : Hid (rc = 0) := by rw [Hid, ← HRC3.out, if_neg (by rw [HNB.out]; exact h24)]
        go_wp2_with fail
        go_ret
        exact ⟨by rw [(HPN).out]; rfl, (HW3).out⟩
end Go.Proofs.YtiopgbbggeimaaaGreat
