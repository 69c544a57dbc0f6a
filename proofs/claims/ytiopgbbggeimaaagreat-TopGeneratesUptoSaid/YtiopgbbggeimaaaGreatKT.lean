/-
  The reference of surface forms: form, part.
-/
import Derived.Test.YtiopgbbggeimaaaGreatKF
namespace Go.Proofs.YtiopgbbggeimaaaGreat
open Go.ChangeShapes Go.WideShapes Go.ChangeAt Go.RowKit
def altB (p : PE) (a : Int) : Bool := decide (0 ≤ a) && decide (a < ((formsP p).length : Int))
set_option maxHeartbeats 4000000 in
set_option maxRecDepth 100000 in
theorem rform_any (e : EV) (p : PE) (a : Int) (w : World) (he : DpE w e p) (hn : p.alts.length ≤ 1000) :
    Calls Tryz.prog 59 #[.agg #[.int .i64 e.id, .slice e.f.A e.f.n e.f.c, .int .i64 e.cls, .slice e.a.A e.a.n e.a.c, .int .i64 e.main, .slice e.s.A e.s.n e.s.c, .slice e.l.A e.l.n e.l.c, .slice e.r.A e.r.n e.r.c], .int .i64 a] w fun e' w' => e' = .returned (.bool (altB p a)) ∧ Below w.heap.size w w' := by
  have HE := Lib.hid he
  have HN := Lib.hid hn
  clear he hn
  go_enter Tryz.func59, Tryz.ntmps59
  go_upto_region 1 with (fail)
  generalize hW : World.alloc w _ = W
  have HBW : Hid (Below w.heap.size w W) := by rw [← hW]; exact al_below _ _
  have HQ : Hid (EBlk W w.heap.size e) := by rw [← hW]; exact heap_alloc_new w _
  clear hW
  obtain ⟨z0, z1, z2, z3, z4, z5, z6, z7, zl⟩ := HQ.out.facts
  by_cases h0 : 0 ≤ a
  · have d0 : decide (0 ≤ a) = true := by simp [h0]
    have HA : Hid (altB p a = decide (a < ((formsP p).length : Int))) := by rw [Hid, altB, d0, Bool.true_and]
    go_wp2_with fail
    refine (rforms_any w e p W HE.out HBW.out HN.out).mono ?_
    rintro e' w2 ⟨⟨vf, rfl, hf⟩, hb⟩
    have HB2 := Lib.hid (bchain HBW.out hb)
    obtain ⟨gf, cf, rfl, hf1, hf2, hf3, hf4, HFR⟩ := hf.op
    clear hb hf
    generalize (formsP p).length = nf at hf1 HA ⊢
    go_wp2_with fail
    go_ret
    exact ⟨by rw [HA.out]; rfl, HB2.out⟩
  · have d0 : decide (0 ≤ a) = false := by simp [h0]
    have HA : Hid (altB p a = false) := by rw [Hid, altB, d0, Bool.false_and]
    clear h0
    go_wp2_with fail
    go_ret
    exact ⟨by rw [HA.out]; rfl, HBW.out⟩
theorem partC_eq {lex : List PE} {p : PPt} {pe : PE} (h : getP lex p.e = some pe) : partC lex p = if altB pe p.a then (if 0 ≤ p.s ∧ p.s < ((sensesP lex p.e).length : Int) then 0 else 22) else 2 := by
  rw [partC, h]
  simp only [altB]
  by_cases h1 : 0 ≤ p.a <;> by_cases h2 : p.a < ((formsP pe).length : Int) <;> simp [h1, h2]
theorem formAt_eq {lex : List PE} {p : PPt} {pe : PE} (h : getP lex p.e = some pe) : formAt lex p = if altB pe p.a then some (pe, (formsP pe).getD p.a.toNat []) else none := by
  rw [formAt_some h]
  simp only [altB]
  by_cases h1 : 0 ≤ p.a <;> by_cases h2 : p.a < ((formsP pe).length : Int) <;> simp [h1, h2]
set_option maxHeartbeats 16000000 in
set_option maxRecDepth 100000 in
theorem rpart_any (g : GV) (G : PLang) (p : PPt) (w : World) (hg : DpG w g G) (hlx : LxB G.lex) :
    Calls Tryz.prog 26 #[.agg #[.slice g.i.A g.i.n g.i.c, .string g.on, .slice g.u.A g.u.n g.u.c, .slice g.l.A g.l.n g.l.c, .slice g.r.A g.r.n g.r.c, .int .i64 g.q, .slice g.s.A g.s.n g.s.c, .slice g.f.A g.f.n g.f.c, .slice g.x.A g.x.n g.x.c], .agg #[.int .i64 p.e, .int .i64 p.a, .int .i64 p.s]] w fun e' w' => e' = .returned (.int .i64 (partC G.lex p)) ∧ Below w.heap.size w w' := by
  obtain ⟨rc, hrc⟩ : ∃ rc, partC G.lex p = rc := ⟨_, rfl⟩
  rw [hrc]
  have HRC := Lib.hid hrc
  have HLX := Lib.hid hlx
  have HG := Lib.hid hg
  obtain ⟨L, x, pe, ok, hL, hgv, hdp, hal, hok⟩ := get_two hg.x p.e hlx.alts
  have HL := Lib.hid hL
  have HGV := Lib.hid hgv
  have HD := Lib.hid hdp
  have HAL := Lib.hid hal
  have HOK := Lib.hid hok
  clear hg hL hgv hdp hal hok hlx hrc
  go_enter Tryz.func26, Tryz.ntmps26
  go_upto_region 1 with (fail)
  generalize hW : World.alloc (World.alloc w _) _ = W
  have HBW : Hid (Below w.heap.size w W) := by rw [← hW]; exact bchain (al_below _ _) (al_below _ _)
  have HQ : Hid (LgBlk W w.heap.size g) := by rw [← hW]; exact LgBlk.below (heap_alloc_new w _) (al_below _ _)
  have HP : Hid (PtBlk W (w.heap.size + 1) p) := by
    have h := heap_alloc_new (w.alloc (.cells #[.slice g.i.A g.i.n g.i.c, .string g.on, .slice g.u.A g.u.n g.u.c, .slice g.l.A g.l.n g.l.c, .slice g.r.A g.r.n g.r.c, .int .i64 g.q, .slice g.s.A g.s.n g.s.c, .slice g.f.A g.f.n g.f.c, .slice g.x.A g.x.n g.x.c] 36)) (.cells #[.int .i64 p.e, .int .i64 p.a, .int .i64 p.s] 65)
    rw [World.size_alloc] at h
    rw [← hW]; exact h
  clear hW
  obtain ⟨z0, z1, z2, z3, z4, z5, z6, z7, z8, zl⟩ := HQ.out.facts
  obtain ⟨p0, p1, p2, pl⟩ := HP.out.facts
  go_wp2_with fail
  refine (rget_any _ L p.e _ (HL.out.below HBW.out)).mono ?_
  rintro e' w1 ⟨rfl, hb⟩
  rw [HGV.out]
  have HB1 := Lib.hid hb
  clear hb z0 z1 z2 z3 z4 z5 z6 z7 z8 zl p0 p1 p2 pl
  go_upto_region 2 with (fail)
  generalize hX : World.alloc w1 _ = X
  have HXB : Hid (Below W.heap.size W X) := by rw [← hX]; exact bchain HB1.out (al_below _ _)
  have HE : Hid (EBlk X w1.heap.size x) := by rw [← hX]; exact heap_alloc_new w1 _
  clear hX HB1
  generalize w1.heap.size = gx at HE ⊢
  have HBX := Lib.hid (bchain HBW.out HXB.out)
  obtain ⟨y0, y1, y2, y3, y4, y5, y6, y7, yl⟩ := HE.out.facts
  obtain ⟨p0, p1, p2, pl⟩ := (HP.out.below HXB.out).facts
  cases ok
  · have HPN : Hid (rc = 9) := by
      rcases HOK.out with h | h
      · rw [Hid, ← HRC.out, partC, h.2]
      · exact absurd h.1 (by decide)
    clear HOK
    go_wp2_with fail
    go_ret
    exact ⟨by rw [(HPN).out]; rfl, (HBX).out⟩
  have HPS : Hid (getP G.lex p.e = some pe) := by
    rcases HOK.out with h | h
    · exact absurd h.1 (by decide)
    · exact h.2
  have HPC := Lib.hid (partC_eq HPS.out)
  clear HOK
  go_wp2_with fail
  refine (rform_any x pe p.a _ (HD.out.below HBX.out) HAL.out).mono ?_
  rintro e' w2 ⟨rfl, hb⟩
  have HB2 := Lib.hid (bchain HXB.out hb)
  have HW2 := Lib.hid (bchain HBW.out HB2.out)
  clear hb y0 y1 y2 y3 y4 y5 y6 y7 yl p0 p1 p2 pl
  cases hal : altB pe p.a
  · have HPN : Hid (rc = 2) := by rw [Hid, ← HRC.out, HPC.out, hal]; rfl
    clear hal
    go_wp2_with fail
    go_ret
    exact ⟨by rw [(HPN).out]; rfl, (HW2).out⟩
  have HPD : Hid (rc = if 0 ≤ p.s ∧ p.s < ((sensesP G.lex p.e).length : Int) then 0 else 22) := by rw [Hid, ← HRC.out, HPC.out, hal]; rfl
  clear hal
  go_upto_region 6 with (fail)
  refine wp_region_mix 12 [0, 1, 2, 3, 4, 5, 6, 7, 8, 9, 10, 11] [] [(true, 0), (true, 1), (true, 2), (true, 3), (true, 4), (true, 5), (true, 6), (true, 7), (true, 8), (true, 9), (false, 10), (true, 11), (false, 12), (false, 13)] (fun w' => Below w2.heap.size w2 w') (by kernel_rfl) (by kernel_rfl) ?_
  rintro D hD
  have HSD : Hid (Below w2.heap.size w2 D) := by rw [hD]; exact (Below.refl _ _).drew
  clear hD
  refine ⟨HSD.out, ?_⟩
  have HS : Hid (∀ w' : World, Below w2.heap.size w2 w' → w'.cell? ⟨w.heap.size + 1, 0, none⟩ = some (.int .i64 p.e) ∧ w'.cell? ⟨w.heap.size + 1, 2, none⟩ = some (.int .i64 p.s) ∧ w'.cell? ⟨w.heap.size, 8, none⟩ = some (.slice g.x.A g.x.n g.x.c)) :=
    fun w' h => ⟨(HP.out.below (bchain HB2.out h)).facts.1, (HP.out.below (bchain HB2.out h)).facts.2.2.1, (HQ.out.below (bchain HB2.out h)).facts.2.2.2.2.2.2.2.2.1⟩
  by_cases hs0 : p.s < 0
  · have e0 : decide (p.s < 0) = true := by simp [hs0]
    have HPN : Hid (rc = 22) := by rw [Hid, HPD.out, if_neg (by omega)]
    have HDW := Lib.hid (bchain HW2.out HSD.out)
    iterate 4 (refine wpMix_q (v := ?_) rfl rfl (fun w' hS => ?_) ?_; rotate_left; (focus ((try obtain ⟨s0, s1, s2⟩ := HS.out _ (hS rfl)); clear hS; go_simp; try with_reducible rfl; done)); (try simp only [Act.put, List.setIfInBounds_toArray, List.set_cons_zero, List.set_cons_succ]))
    iterate 6 (refine wpMix_qskip rfl rfl ?_; (try simp only [Act.put, List.setIfInBounds_toArray, List.set_cons_zero, List.set_cons_succ]))
    (refine wpMix_eskip rfl rfl (HSD).out ?_; (try simp only [Act.put, List.setIfInBounds_toArray, List.set_cons_zero, List.set_cons_succ]))
    (refine wpMix_qskip rfl rfl ?_; (try simp only [Act.put, List.setIfInBounds_toArray, List.set_cons_zero, List.set_cons_succ]))
    (refine wpMix_eskip rfl rfl (HSD).out ?_; (try simp only [Act.put, List.setIfInBounds_toArray, List.set_cons_zero, List.set_cons_succ]))
    (refine wpMix_e rfl rfl (fun K hK => ?_); go_simp; refine hK.out _ _ (fun h => absurd h (by decide)) ?_; clear hK K; (try simp only [Act.put, List.setIfInBounds_toArray, List.set_cons_zero, List.set_cons_succ]))
    refine wpMix_nil ?_
    refine NoPanic.normal ?_
    clear HS hs0
    go_wp2_with fail
    go_ret
    exact ⟨by rw [(HPN).out]; rfl, (HDW).out⟩
  have e0 : decide (p.s < 0) = false := by simp [hs0]
  iterate 10 (refine wpMix_q (v := ?_) rfl rfl (fun w' hS => ?_) ?_; rotate_left; (focus ((try obtain ⟨s0, s1, s2⟩ := HS.out _ (hS rfl)); clear hS; go_simp; try with_reducible rfl; done)); (try simp only [Act.put, List.setIfInBounds_toArray, List.set_cons_zero, List.set_cons_succ]))
  refine wpMix_e rfl rfl (fun K hK => ?_)
  go_simp
  refine (rsenses_any _ G.lex p.e _ ((HG.out.below (bchain HW2.out HSD.out)).x) HLX.out.len).mono ?_
  rintro e' w3 ⟨⟨vs, rfl, hvs⟩, hb3⟩
  obtain ⟨As, ns, cs, rfl, _, _, HNS, _⟩ := hvs.op
  have HB3 := Lib.hid (bchain HSD.out hb3)
  have HWD := Lib.hid (bchain HW2.out HB3.out)
  refine hK.out _ _ (fun _ => HB3.out) ?_
  clear hK K hb3 hvs
  (try simp only [Act.put, List.setIfInBounds_toArray, List.set_cons_zero, List.set_cons_succ])
  by_cases hs1 : (ns : Int) ≤ p.s
  · have e1 : decide ((ns : Int) ≤ p.s) = true := by simp [hs1]
    have HPN : Hid (rc = 22) := by rw [Hid, HPD.out, if_neg (by rw [HNS.out]; omega)]
    (refine wpMix_q (v := ?_) rfl rfl (fun w' hS => ?_) ?_; rotate_left; (focus ((try obtain _ := HS.out _ (hS rfl)); clear hS; go_simp; try with_reducible rfl; done)); (try simp only [Act.put, List.setIfInBounds_toArray, List.set_cons_zero, List.set_cons_succ]))
    iterate 2 (refine wpMix_e rfl rfl (fun K hK => ?_); go_simp; refine hK.out _ _ (fun h => absurd h (by decide)) ?_; clear hK K; (try simp only [Act.put, List.setIfInBounds_toArray, List.set_cons_zero, List.set_cons_succ]))
    refine wpMix_nil ?_
    refine NoPanic.normal ?_
    clear HS hs0 hs1
    go_wp2_with fail
    go_ret
    exact ⟨by rw [(HPN).out]; rfl, (HWD).out⟩
  have e1 : decide ((ns : Int) ≤ p.s) = false := by simp [hs1]
  have HPN : Hid (rc = 0) := by rw [Hid, HPD.out, if_pos (by rw [HNS.out]; omega)]
  (refine wpMix_q (v := ?_) rfl rfl (fun w' hS => ?_) ?_; rotate_left; (focus ((try obtain _ := HS.out _ (hS rfl)); clear hS; go_simp; try with_reducible rfl; done)); (try simp only [Act.put, List.setIfInBounds_toArray, List.set_cons_zero, List.set_cons_succ]))
  iterate 2 (refine wpMix_e rfl rfl (fun K hK => ?_); go_simp; refine hK.out _ _ (fun h => absurd h (by decide)) ?_; clear hK K; (try simp only [Act.put, List.setIfInBounds_toArray, List.set_cons_zero, List.set_cons_succ]))
  refine wpMix_nil ?_
  refine NoPanic.normal ?_
  clear HS hs0 hs1
  go_wp2_with fail
  go_ret
  exact ⟨by rw [(HPN).out]; rfl, (HWD).out⟩
end Go.Proofs.YtiopgbbggeimaaaGreat
