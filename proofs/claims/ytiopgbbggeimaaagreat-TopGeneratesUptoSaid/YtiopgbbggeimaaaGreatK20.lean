/-
  analyze: step of the search.
-/
import Derived.Test.YtiopgbbggeimaaaGreatKY
namespace Go.Proofs.YtiopgbbggeimaaaGreat
open Go.ChangeShapes Go.WideShapes Go.ChangeAt Go.RowKit
theorem wp_app_pts {w : World} {o : Oper} {a : Act} {K : Act → World → Prop} {Q : Exit → Act → World → Prop} (s x : Operand)
    (ho : o.op = .call { callee := .builtin .append, args := #[s, x], argTypes := #[37, 37] })
    (base : Nat) (v : Value) (l : List PPt) (hs : a.eval s = v) (hown : OwnPt w base v l) (vx : Value) (xs : List PPt) (hx : a.eval x = vx) (hr : RdPt w vx xs) (hl : l.length + xs.length ≤ 1000000) (hbase : base ≤ w.heap.size)
    (h : ∀ v' w', OwnPt w' base v' (l ++ xs) → w.grownBy w' v.ownBlock → K (a.put o.dst v') w') : o.wp Tryz.prog a w K Q := by
  obtain ⟨i0, hi, hz0, hz1, hz2⟩ := info_parts infoPt
  refine wp_append_rd w s x 37 ho base 65 i0 _ 3 24 Tryz.underlying37 hi hz0 hz1 hz2 rfl (by decide) v l.length _ hs hown vx xs.length _ hx hr (ptCells_one xs) (by simp only [maxLen]; omega) (by omega) hbase ?_
  intro v' w' h1 h2 _
  refine h v' w' ?_ h2
  unfold OwnPt
  rw [List.flatMap_append, List.length_append]
  exact h1
theorem rd_newP (w : World) (p : PPt) : RdPt (w.alloc (.cells #[.int .i64 p.e, .int .i64 p.a, .int .i64 p.s] 65)) (.slice (some ⟨w.heap.size, 0, none⟩) 1 1) [p] := by
  refine ⟨_, 1, rfl, by simp, by decide, rfl, fun _ => ⟨w.heap.size, 0, rfl, by simp, fun j u hu => ?_⟩⟩
  have h := cell_of_row _ w.heap.size (0 + j) _ _ (0, 0) (heap_alloc_new w (.cells #[.int .i64 p.e, .int .i64 p.a, .int .i64 p.s] 65))
  rw [h]
  match j, hu with
  | 0, hu => simpa [ptCells] using hu
  | 1, hu => simpa [ptCells] using hu
  | 2, hu => simpa [ptCells] using hu
/-- one part's row stays while another row grows -/
theorem rdP_one {w w' : World} {g : Nat} {p : PPt} {row : Option Nat} (h : RdPt w (.slice (some ⟨g, 0, none⟩) 1 1) [p]) (hg : w.grownBy w' row) (hne : some g ≠ row) : RdPt w' (.slice (some ⟨g, 0, none⟩) 1 1) [p] := by
  obtain ⟨A, c, he, h1, h2, h3, h4⟩ := h
  cases he
  refine ⟨_, 1, rfl, h1, h2, h3, fun hp => ?_⟩
  obtain ⟨b, off, hA, hb, hc⟩ := h4 hp
  cases hA
  exact ⟨g, 0, rfl, by have := hg.size; omega, fun j u hu => (World.cell?_of_block (a := ⟨g, 0 + j, none⟩) (hg.block g hb hne)).trans (hc j u hu)⟩
theorem FormsR.gw {w0 w w' : World} {base n0 : Nat} {p : PE} {v : Value} (h : FormsR w0 base p v w) (g : Gw n0 w w') : FormsR w0 base p v w' := by
  obtain ⟨us, h1, h2, h3⟩ := h
  exact ⟨us, g.ownW h1, h2, h3⟩
theorem ne_own {a b n c : Nat} (h : a ≠ b) : some a ≠ (Value.slice (some ⟨b, 0, none⟩) n c).ownBlock := fun e => h (by simpa [Value.ownBlock] using e)
theorem own_sliceN {w : World} {base n : Nat} {v : Value} {l : List PPt} (h : OwnPt w base v l) (hn : l.length = n) : ∃ A c, v = .slice A n c := by
  subst hn
  exact own_sliceP h
def RecC (w0 : World) (s : Sch) (G : PLang) (wl : List Int) (B bo bf S k : Nat) : Prop :=
  ∀ (pv bv : Value) (parts : List PPt) (now : Nat) (base : List Int) (st : Fnd) (w : World), parts.length + k = 4 → now < 2 ^ S → OwnPt w w0.heap.size pv parts → OwnI w w0.heap.size bv base → base ∈ basesL G.lex parts.length → (∀ y ∈ base, isB G.inv y = true) → base.length ≤ 24 → WE w s B bo bf → WS w0 G wl s.bm bo bf st w →
    Calls Tryz.prog 94 #[.pointer (some ⟨B, 0, none⟩), pv, .int .u32 (now : Int), bv] w fun e w' => e = .returned (.bool (foldE addF st (hits G wl k parts now base)).2) ∧ WS w0 G wl s.bm bo bf (foldE addF st (hits G wl k parts now base)).1 w' ∧ Gw w0.heap.size w w'
def StepC (w0 : World) (s : Sch) (G : PLang) (wl : List Int) (B bo bf S k : Nat) : Prop :=
  ∀ (e : EV) (p : PE) (pv bv : Value) (parts : List PPt) (nx : Nat) (base : List Int) (st : Fnd) (w : World), p ∈ G.lex → DpE w0 e p → parts.length + (k + 1) = 4 → nx < 2 ^ S → OwnPt w w0.heap.size pv parts → OwnI w w0.heap.size bv base → base ∈ basesL G.lex parts.length → (∀ y ∈ base, isB G.inv y = true) → base.length ≤ 24 → WE w s B bo bf → WS w0 G wl s.bm bo bf st w →
    Calls Tryz.prog 117 #[.pointer (some ⟨B, 0, none⟩), .agg #[.int .i64 e.id, .slice e.f.A e.f.n e.f.c, .int .i64 e.cls, .slice e.a.A e.a.n e.a.c, .int .i64 e.main, .slice e.s.A e.s.n e.s.c, .slice e.l.A e.l.n e.l.c, .slice e.r.A e.r.n e.r.c], pv, .int .u32 (nx : Int), bv] w fun e w' => e = .returned (.bool (foldE addF st (stepF (hits G wl k) G wl p parts nx base)).2) ∧ WS w0 G wl s.bm bo bf (foldE addF st (stepF (hits G wl k) G wl p parts nx base)).1 w' ∧ Gw w0.heap.size w w'
theorem formL_cons (rec : Rec) (G : PLang) (ws : List Int) (id : Int) (parts : List PPt) (nx : Nat) (base : List Int) (i : Nat) (f : List Int) (l : List (List Int)) : formL rec G ws id parts nx base i (f :: l) = (if tooB G ws (base.length + f.length) then [] else rec (parts ++ [⟨id, (i : Int), 0⟩]) nx (base ++ f)) ++ formL rec G ws id parts nx base (i + 1) l := rfl
theorem getD_dropL {l : List (List Int)} {j : Nat} (h : j < l.length) : l.drop j = l.getD j [] :: l.drop (j + 1) := by
  rw [List.drop_eq_getElem_cons h]
  simp [List.getD, h]
theorem LightOk.formB {G : PLang} (h : LightOk G) {p : PE} (hp : p ∈ G.lex) {f : List Int} (hf : f ∈ formsP p) : ∀ x ∈ f, isB G.inv x = true := by
  have he := h.lex.ent _ hp
  rcases List.mem_cons.1 hf with h3 | h3
  · rw [h3]; exact (wordC_ok.1 he.form).2.2
  · exact (wordC_ok.1 (he.alts _ h3)).2.2
set_option maxHeartbeats 32000000 in
set_option maxRecDepth 100000 in
theorem step_any (w0 : World) (s : Sch) (G : PLang) (wl : List Int) (B bo bf S k : Nat) (hE : SE w0 s G wl) (ih : RecC w0 s G wl B bo bf S k) : StepC w0 s G wl B bo bf S k := by
  intro e p pv bv parts nx base st w hpm hde hpk hnx hpo hbo hbm hbs hbl hwe hws
  have HE := Lib.hid hE
  have HIH := Lib.hid ih
  have HPM := Lib.hid hpm
  have HDE := Lib.hid hde
  have HPK := Lib.hid hpk
  have HNX := Lib.hid hnx
  have HPO := Lib.hid hpo
  have HBO := Lib.hid hbo
  have HBM := Lib.hid hbm
  have HBS := Lib.hid hbs
  have HWE := Lib.hid hwe
  have HWS := Lib.hid hws
  have HLX := Lib.hid hE.ok.lx
  obtain ⟨Ap, cp, rfl⟩ := own_sliceP hpo
  obtain ⟨_, Ab, cb, rfl⟩ := own_slice hbo
  obtain ⟨np, hnp⟩ : ∃ n, parts.length = n := ⟨_, rfl⟩
  obtain ⟨nb, hnb⟩ : ∃ n, base.length = n := ⟨_, rfl⟩
  have HNP := Lib.hid hnp
  have HNB := Lib.hid hnb
  have hnp4 : np ≤ 3 := by omega
  have hnb24 : nb ≤ 24 := by omega
  rw [hnp] at HPO HBM HPK ⊢
  rw [hnb] at HBO ⊢
  obtain ⟨r, hr⟩ : ∃ r, foldE addF st (stepF (hits G wl k) G wl p parts nx base) = r := ⟨_, rfl⟩
  have HR := Lib.hid hr
  rw [hr]
  have hn0 : w0.heap.size ≤ w.heap.size := hws.b.size
  have HID : Hid (e.id = p.id) := hde.id
  clear hE ih hpm hde hpk hnx hpo hbo hbm hbs hbl hwe hws hnp hnb hr
  go_enter Tryz.func117, Tryz.ntmps117
  go_upto_region 1 with (fail)
  generalize hW : World.alloc w _ = W
  have HBW : Hid (Below w.heap.size w W) := by rw [← hW]; exact al_below _ _
  have HGW : Hid (Gw w0.heap.size w W) := by rw [← hW]; exact (Gs.of_below (al_below _ _) hn0).toGw
  have HEB : Hid (EBlk W w.heap.size e) := by rw [← hW]; exact heap_alloc_new w _
  clear hW
  have HWEW := Lib.hid (HWE.out.below HBW.out)
  have HWSW := Lib.hid (HWS.out.below HBW.out)
  have HPW : Hid (OwnPt W w0.heap.size (.slice Ap np cp) parts) := own_below HPO.out HBW.out
  have HBOW : Hid (OwnI W w0.heap.size (.slice Ab nb cb) base) := own_below HBO.out HBW.out
  have hn0W : w0.heap.size ≤ W.heap.size := HWSW.out.b.size
  refine wp_region_ord 7 [0, 1, 2, 3, 4, 5, 6] [] [0, 1, 2, 3, 4, 5, 6] [7, 8, 9] (fun w' => Below W.heap.size W w') (by kernel_rfl) (by kernel_rfl) ?_
  rintro D hD
  have HSD : Hid (Below W.heap.size W D) := by rw [hD]; exact (Below.refl _ _).drew
  clear hD
  refine ⟨HSD.out, ?_⟩
  have HS : Hid (∀ w' : World, Below W.heap.size W w' → w'.cell? ⟨B, 8, none⟩ = some (.slice s.g.x.A s.g.x.n s.g.x.c) ∧ B < w'.heap.size ∧ w'.cell? ⟨w.heap.size, 0, none⟩ = some (.int .i64 e.id)) :=
    fun w' h => ⟨(HWEW.out.sr.below h).facts.2.2.2.1, (HWEW.out.sr.below h).lt, (HEB.out.below h).facts.1⟩
  iterate 7 (refine wpHead_cons (v := ?_) rfl rfl (fun w' hS => ?_) ?_; rotate_left; (focus ((try obtain ⟨s0, s1, s2⟩ := HS.out _ (hS rfl)); clear hS; go_simp; try with_reducible rfl; done)); (try simp only [Act.put, List.setIfInBounds_toArray, List.set_cons_zero, List.set_cons_succ]))
  refine wpHead_nil ?_
  refine wpTail_cons rfl rfl (fun K hK => ?_)
  go_simp
  refine (senses_any _ G.lex e.id _ ((HE.out.g.below (HWSW.out.b.trans (HSD.out.mono hn0W))).x) HLX.out.len HLX.out.sn).mono ?_
  rintro e' w1 ⟨⟨vs, rfl, hvs⟩, hb1⟩
  obtain ⟨As, ns, cs, rfl, _, _, HNS, _⟩ := hvs.op
  have HB1 := Lib.hid (bchain HSD.out hb1)
  refine hK.out _ _ (fun h => absurd h (by decide)) ?_
  clear hK K HS hb1 hvs
  (try simp only [Act.put, List.setIfInBounds_toArray, List.set_cons_zero, List.set_cons_succ])
  refine wpTail_rest 8 rfl ?_
  simp only [List.drop_succ_cons, List.drop_zero]
  rw [HID.out] at HNS
  have HWE1 := Lib.hid (HWEW.out.below HB1.out)
  have HWS1 := Lib.hid (HWSW.out.below HB1.out)
  have HP1 : Hid (OwnPt w1 w0.heap.size (.slice Ap np cp) parts) := own_below HPW.out HB1.out
  have HBO1 : Hid (OwnI w1 w0.heap.size (.slice Ab nb cb) base) := own_below HBOW.out HB1.out
  have HG1 : Hid (Gw w0.heap.size w w1) := HGW.out.trans (Gs.of_below HB1.out hn0W).toGw
  have HEB1 := Lib.hid (HEB.out.below HB1.out)
  have hn01 : w0.heap.size ≤ w1.heap.size := HWS1.out.b.size
  clear HWEW HWSW HPW HBOW HGW HEB
  by_cases hns : ns = 0
  · have HRF : Hid (r = (st, true)) := by rw [Hid, ← HR.out, stepF, if_pos (by rw [HNS.out]; exact hns)]; rfl
    subst hns
    go_wp2_with fail
    refine NoPanic.normal ?_
    go_wp2_with fail
    go_ret
    exact ⟨by rw [HRF.out]; rfl, by rw [HRF.out]; exact HWS1.out, HG1.out⟩
  have d0 : ((ns : Int) == 0) = false := by simp; omega
  have d0' : (ns == 0) = false := by simp; omega
  have HR2 : Hid (foldE addF st (formL (hits G wl k) G wl p.id parts nx base 0 (formsP p)) = r) := by rw [Hid, ← HR.out, stepF, if_neg (by rw [HNS.out]; exact hns)]
  clear hns HR
  go_wp2_with fail
  refine NoPanic.normal ?_
  clear d0 d0'
  obtain ⟨y0, y1, y2, y3, y4, y5, y6, y7, yl⟩ := HEB1.out.facts
  go_wp2_with fail
  refine (forms_any w0 e p w1 HDE.out HWS1.out.b (HLX.out.alts p HPM.out)).mono ?_
  rintro e' w2 ⟨⟨vf, rfl, hf⟩, hb2⟩
  have HB2 := Lib.hid hb2
  have HFR := Lib.hid hf
  obtain ⟨gf, cf, rfl, hfc, hfc63, hfg, hfl, _⟩ := hf.op
  obtain ⟨nf, hnf⟩ : ∃ nf, (formsP p).length = nf := ⟨_, rfl⟩
  have HNF := Lib.hid hnf
  rw [hnf] at HFR hfc ⊢
  have HWE2 := Lib.hid (HWE1.out.below HB2.out)
  have HWS2 := Lib.hid (HWS1.out.below HB2.out)
  have HP2 : Hid (OwnPt w2 w0.heap.size (.slice Ap np cp) parts) := own_below HP1.out HB2.out
  have HBO2 : Hid (OwnI w2 w0.heap.size (.slice Ab nb cb) base) := own_below HBO1.out HB2.out
  have HG2 : Hid (Gw w0.heap.size w w2) := HG1.out.trans (Gs.of_below HB2.out hn01).toGw
  have HEB2 := Lib.hid (HEB1.out.below HB2.out)
  clear hb2 hf y0 y1 y2 y3 y4 y5 y6 y7 yl hnf HWE1 HWS1 HP1 HBO1 HG1 HEB1
  have hnf4 : nf ≤ 1001 := by have := HLX.out.alts p HPM.out; have h := HNF.out; simp [formsP] at h; omega
  go_wp2_with fail
  go_loopw [29] (fun v29 wr => ∃ (j : Nat) (s2 : Fnd), j ≤ nf ∧ v29 = .int .i64 j ∧ Hid (foldE addF s2 (formL (hits G wl k) G wl p.id parts nx base j ((formsP p).drop j)) = r) ∧ Hid (WS w0 G wl s.bm bo bf s2 wr) ∧ Hid (Gw w0.heap.size w2 wr)) (fun v29 _ => nf - (intOf v29).toNat)
  case atStart => exact ⟨0, st, Nat.zero_le _, rfl, HR2.out, HWS2.out, Gw.refl _ _⟩
  case round =>
    obtain ⟨j, s2, hj, rfl, HFJ, HWSJ, HGJ⟩ := hrel
    by_cases hjt : j < nf
    · have hjf : j < (formsP p).length := by rw [HNF.out]; exact hjt
      obtain ⟨f, hf⟩ : ∃ f, (formsP p).getD j [] = f := ⟨_, rfl⟩
      have HFM : Hid (f ∈ formsP p) := by
        rw [Hid, ← hf, List.getD_eq_getElem?_getD, List.getElem?_eq_getElem hjf]
        exact List.getElem_mem _
      have HFJ2 : Hid (foldE addF s2 ((if tooB G wl (base.length + f.length) then [] else hits G wl k (parts ++ [⟨p.id, (j : Int), 0⟩]) nx (base ++ f)) ++ formL (hits G wl k) G wl p.id parts nx base (j + 1) ((formsP p).drop (j + 1))) = r) := by
        have h := HFJ.out
        rw [getD_dropL hjf, hf, formL_cons] at h
        exact h
      obtain ⟨gq, cq, heq, _, _, _, hfl2, hcel⟩ := (HFR.out.gw HGJ.out).op
      obtain ⟨B1, m, cm, hc1, hr1⟩ := hcel.out j hjf
      rw [hf] at hr1
      have hgq : gq = gf := by injection heq with h1 _ _; injection h1 with h1; injection h1 with h1 _; exact h1.symm
      subst hgq
      obtain ⟨_, _, _, he1, _, _, HM, _⟩ := hr1.op
      cases he1
      have HR1 := Lib.hid hr1
      have HWEJ := Lib.hid (HWE2.out.gw HGJ.out)
      have HPJ := Lib.hid (HGJ.out.ownPt HP2.out)
      have HBOJ := Lib.hid (HGJ.out.ownI HBO2.out)
      have HEBJ := Lib.hid (HGJ.out.eb HEB2.out)
      have hnj : w0.heap.size ≤ wr.heap.size := HWSJ.out.b.size
      have hm24 : m ≤ 24 := by have := HLX.out.form p HPM.out f HFM.out; rw [HM.out] at this; exact this
      have hj0 : (0 : Int) ≤ (j : Int) := by omega
      clear hf heq hfl2 hcel hr1 HFJ hjf
      go_upto_region 7 with (fail)
      clear hc1
      obtain ⟨z0, z4, z6, z8, z9, z10, z11, z12, z13, zl⟩ := HWEJ.out.sr.facts
      obtain ⟨tb, htb⟩ : ∃ tb, tooB G wl (base.length + f.length) = tb := ⟨_, rfl⟩
      rw [htb] at HFJ2
      go_cut [56] (fun s56 wx => s56 = .bool tb ∧ wr = wx)
      case first =>
        have HTB : Hid ((decide (24 < nb + m) || (!s.shr && decide (s.ws.n < nb + m))) = tb) := by
          rw [Hid, ← htb, tooB, HNB.out, HM.out, HE.out.shr, HE.out.nw]
        clear htb
        by_cases hb24 : 24 < nb + m
        · have d1 : decide ((24 : Int) < (nb : Int) + (m : Int)) = true := by simp; omega
          have HT : Hid (tb = true) := by rw [Hid, ← HTB.out, decide_eq_true hb24, Bool.true_or]
          clear hb24
          go_wp2_with fail
          go_meet
          exact ⟨by rw [HT.out], rfl⟩
        · have d1 : decide ((24 : Int) < (nb : Int) + (m : Int)) = false := by simp; omega
          have HT : Hid ((!s.shr && decide (s.ws.n < nb + m)) = tb) := by rw [Hid, ← HTB.out, decide_eq_false hb24, Bool.false_or]
          clear hb24
          cases hsh : s.shr
          · rw [hsh] at HT z10
            clear hsh
            by_cases hbw : s.ws.n < nb + m
            · have d2 : decide ((s.ws.n : Int) < (nb : Int) + (m : Int)) = true := by simp; omega
              have HT2 : Hid (tb = true) := by rw [Hid, ← HT.out, decide_eq_true hbw]; rfl
              clear hbw
              go_wp2_with fail
              go_meet
              exact ⟨by rw [HT2.out], rfl⟩
            · have d2 : decide ((s.ws.n : Int) < (nb : Int) + (m : Int)) = false := by simp; omega
              have HT2 : Hid (tb = false) := by rw [Hid, ← HT.out, decide_eq_false hbw]; rfl
              clear hbw
              go_wp2_with fail
              go_meet
              exact ⟨by rw [HT2.out], rfl⟩
          · rw [hsh] at HT z10
            clear hsh
            have HT2 : Hid (tb = false) := by rw [Hid, ← HT.out]; rfl
            go_wp2_with fail
            go_meet
            exact ⟨by rw [HT2.out], rfl⟩
      case rest =>
        obtain ⟨rfl, rfl⟩ := hcut
        cases tb
        · have HFJ3 : Hid (foldE addF s2 (hits G wl k (parts ++ [⟨p.id, (j : Int), 0⟩]) nx (base ++ f) ++ formL (hits G wl k) G wl p.id parts nx base (j + 1) ((formsP p).drop (j + 1))) = r) := HFJ2.out
          have HNT : Hid (nb + m ≤ 24) := by
            simp only [tooB, Bool.or_eq_false_iff, decide_eq_false_iff_not] at htb
            rw [HNB.out, HM.out] at htb
            rw [Hid]; omega
          clear HFJ2 htb
          have HNE : Hid (OwnI (wr.alloc (.cells #[] 3)) wr.heap.size (.slice (some ⟨wr.heap.size, 0, none⟩) 0 0) []) := own_newI wr _ _ rfl (Nat.le_refl _)
          have HRB : Hid (RdI (wr.alloc (.cells #[] 3)) (.slice Ab nb cb) base) := HBOJ.out.rd.below (al_below _ _)
          have HL1 : Hid (([] : List Int).length + base.length ≤ 300000000) := by rw [Hid, HNB.out]; simp; omega
          have HL2 : Hid (base.length + f.length ≤ 300000000) := by rw [Hid, HNB.out, HM.out]; omega
          have hbs : wr.heap.size ≤ (wr.alloc (.cells #[] 3)).heap.size := by simp
          have HWA : Hid (Below wr.heap.size wr (wr.alloc (.cells #[] 3))) := al_below _ _
          clear z0 z4 z6 z8 z9 z10 z11 z12 z13 zl
          go_upto_region 9 with (at_builtin; first | (refine wpList_app_ints rfl (.tmp 57) (.tmp 58) rfl wr.heap.size (.slice (some ⟨wr.heap.size, 0, none⟩) 0 0) [] rfl HNE.out (.slice Ab nb cb) base rfl HRB.out HL1.out hbs ?_; intro v5 w5 ho hg _; have HO5 : Hid (OwnI w5 wr.heap.size v5 base) := ho; have HB5 : Hid (Below wr.heap.size wr w5) := (HWA.out.grown hg HWA.out.size (fun j hj => by cases hj; exact Nat.le_refl _)); obtain ⟨_, A5, c5, h5⟩ := own_slice HO5.out; subst h5; clear ho hg; have hb5 := HB5.out.size; have HRF5 := Lib.hid ((HR1.out.below HWSJ.out.b).below HB5.out)) | (refine wpList_app_ints rfl (.tmp 59) (.tmp 60) rfl wr.heap.size (.slice A5 base.length c5) base rfl HO5.out (.slice B1 m cm) f rfl HRF5.out HL2.out hb5 ?_; intro v6 w6 ho hg _; have HO6 : Hid (OwnI w6 wr.heap.size v6 (base ++ f)) := ho; have HB6 : Hid (Below wr.heap.size wr w6) := (HB5.out.grown hg hb5 (fun j hj => (World.ownsRow.lt HO5.out j hj).1)); obtain ⟨_, A6, c6, h6⟩ := own_slice HO6.out; subst h6; clear ho hg))
          clear HNE HRB HL1 HL2 hbs HWA HO5 HB5 HRF5 hb5
          have hn6 : w0.heap.size ≤ w6.heap.size := by have := HB6.out.size; omega
          have HWE6 := Lib.hid (HWEJ.out.below HB6.out)
          have HWS6 := Lib.hid (HWSJ.out.below HB6.out)
          have HP6 : Hid (OwnPt w6 w0.heap.size (.slice Ap np cp) parts) := own_below HPJ.out HB6.out
          have HEB6 := Lib.hid (HEBJ.out.below HB6.out)
          have HG6 : Hid (Gw w0.heap.size w2 w6) := HGJ.out.trans (Gs.of_below HB6.out hnj).toGw
          have HBO6 : Hid (OwnI w6 w0.heap.size (.slice A6 (base ++ f).length c6) (base ++ f)) := own_base HO6.out hnj
          clear HWEJ HWSJ HPJ HEBJ HGJ HO6 HBOJ
          go_cut [15] (fun s15 wx => ∃ Aq cq, s15 = .slice Aq (np + 1) cq ∧ Hid (OwnPt wx w0.heap.size (.slice Aq (np + 1) cq) (parts ++ [⟨p.id, (j : Int), 0⟩])) ∧ Hid (Below w6.heap.size w6 wx))
          case first =>
            have HLA : Hid (([] : List PPt).length + parts.length ≤ 1000000) := by rw [Hid, HNP.out]; simp; omega
            have HLB : Hid (parts.length + [(⟨p.id, (j : Int), 0⟩ : PPt)].length ≤ 1000000) := by rw [Hid, HNP.out]; simp; omega
            have HNP1 : Hid ((parts ++ [(⟨p.id, (j : Int), 0⟩ : PPt)]).length = np + 1) := by rw [Hid, List.length_append, HNP.out]; rfl
            refine wp_region_all 10 (fun w' => Below w6.heap.size w6 w') (by kernel_rfl) (by kernel_rfl) ?_
            rintro D hD
            have HSD : Hid (Below w6.heap.size w6 D) := by rw [hD]; exact (Below.refl _ _).drew
            clear hD
            have HS : Hid (∀ w' : World, Below w6.heap.size w6 w' → w'.cell? ⟨w.heap.size, 0, none⟩ = some (.int .i64 p.id)) :=
              fun w' h => by rw [← HID.out]; exact (HEB6.out.below h).facts.1
            (refine wpS_take 1 (v := ?_) (by kernel_rfl) rfl rfl (by exact HSD.out) (fun w' hS => ?_) ?_; rotate_left; (focus (clear hS; go_simp; try with_reducible rfl; done)); (try simp only [Act.put, List.setIfInBounds_toArray, List.set_cons_zero, List.set_cons_succ]))
            (refine wpS_take 3 (v := ?_) (by kernel_rfl) rfl rfl (by exact HSD.out) (fun w' hS => ?_) ?_; rotate_left; (focus (clear hS; go_simp; try with_reducible rfl; done)); (try simp only [Act.put, List.setIfInBounds_toArray, List.set_cons_zero, List.set_cons_succ]))
            (refine wpS_take 4 (v := ?_) (by kernel_rfl) rfl rfl (by exact HSD.out) (fun w' hS => ?_) ?_; rotate_left; (focus ((try obtain s0 := HS.out _ hS); clear hS; go_simp; try with_reducible rfl; done)); (try simp only [Act.put, List.setIfInBounds_toArray, List.set_cons_zero, List.set_cons_succ]))
            (refine wpS_take 5 (v := ?_) (by kernel_rfl) rfl rfl (by exact HSD.out) (fun w' hS => ?_) ?_; rotate_left; (focus (clear hS; go_simp; try with_reducible rfl; done)); (try simp only [Act.put, List.setIfInBounds_toArray, List.set_cons_zero, List.set_cons_succ]))
            (refine wpS_take 6 (v := ?_) (by kernel_rfl) rfl rfl (by exact HSD.out) (fun w' hS => ?_) ?_; rotate_left; (focus (clear hS; go_simp; try with_reducible rfl; done)); (try simp only [Act.put, List.setIfInBounds_toArray, List.set_cons_zero, List.set_cons_succ]))
            clear HS
            refine wpS_br [0, 7] (by kernel_rfl) ?_
            refine AllS.cons rfl rfl (fun K hK => ?_) (AllS.cons rfl rfl (fun K hK => ?_) AllS.nil)
            · skip
              go_simp
              refine hK.out _ _ (HSD.out.alloc HSD.out.size _) ?_
              clear hK K
              (try simp only [Act.put, List.setIfInBounds_toArray, List.set_cons_zero, List.set_cons_succ])
              have HXY1 : Hid (Below D.heap.size D (D.alloc (.cells #[] 65))) := al_below _ _
              have HEY1 : Hid (OwnPt (D.alloc (.cells #[] 65)) w6.heap.size (.slice (some ⟨D.heap.size, 0, none⟩) 0 0) []) := own_newP D _ _ rfl (by have := HSD.out.size; omega)
              have HZY1 : Hid ((D.alloc (.cells #[] 65)).heap.size = D.heap.size + 1) := World.size_alloc _ _
              generalize World.alloc D _ = Y1 at HXY1 HEY1 HZY1 ⊢
              have HSY1 := Lib.hid (bchain HSD.out HXY1.out)
              refine wpS_br [2, 7] (by kernel_rfl) ?_
              refine AllS.cons rfl rfl (fun K hK => ?_) (AllS.cons rfl rfl (fun K hK => ?_) AllS.nil)
              · skip
                refine wp_app_pts (.tmp 62) (.tmp 63) rfl w6.heap.size (.slice (some ⟨D.heap.size, 0, none⟩) 0 0) [] rfl HEY1.out (.slice Ap np cp) parts rfl (OwnPt.rd (own_below HP6.out HSY1.out)) HLA.out (by have := HSY1.out.size; omega) ?_
                intro vY2 Y2 ho hg
                have HOY2 : Hid (OwnPt Y2 w6.heap.size vY2 parts) := ho
                have HSY2 : Hid (Below w6.heap.size w6 Y2) := HSY1.out.grown hg HSY1.out.size (fun k hk => (World.ownsRow.lt (HEY1.out) k hk).1)
                obtain ⟨AY2, cY2, hY2⟩ := own_sliceN HOY2.out HNP.out
                subst hY2
                refine hK.out _ _ HSY2.out ?_
                clear hK K ho
                (try simp only [Act.put, List.setIfInBounds_toArray, List.set_cons_zero, List.set_cons_succ])
                refine wpS_br [7] (by kernel_rfl) ?_
                refine AllS.cons rfl rfl (fun K hK => ?_) AllS.nil
                go_simp
                refine hK.out _ _ (HSY2.out.alloc HSY2.out.size _) ?_
                clear hK K
                (try simp only [Act.put, List.setIfInBounds_toArray, List.set_cons_zero, List.set_cons_succ])
                have HXY3 : Hid (Below Y2.heap.size Y2 (Y2.alloc (.cells #[.int .i64 p.id, .int .i64 (j : Int), .int .i64 0] 65))) := al_below _ _
                have HNY3 : Hid (RdPt (Y2.alloc (.cells #[.int .i64 p.id, .int .i64 (j : Int), .int .i64 0] 65)) (.slice (some ⟨Y2.heap.size, 0, none⟩) 1 1) [⟨p.id, (j : Int), 0⟩]) := rd_newP Y2 ⟨p.id, (j : Int), 0⟩
                have HZY3 : Hid ((Y2.alloc (.cells #[.int .i64 p.id, .int .i64 (j : Int), .int .i64 0] 65)).heap.size = Y2.heap.size + 1) := World.size_alloc _ _
                generalize World.alloc Y2 _ = Y3 at HXY3 HNY3 HZY3 ⊢
                have HSY3 := Lib.hid (bchain HSY2.out HXY3.out)
                refine wpS_br [8] (by kernel_rfl) ?_
                refine AllS.cons rfl rfl (fun K hK => ?_) AllS.nil
                refine wp_app_pts (.tmp 64) (.tmp 69) rfl w6.heap.size (.slice AY2 np cY2) parts rfl (own_below HOY2.out HXY3.out) (.slice (some ⟨Y2.heap.size, 0, none⟩) 1 1) [⟨p.id, (j : Int), 0⟩] rfl HNY3.out HLB.out (by have := HSY3.out.size; omega) ?_
                intro vY4 Y4 ho hg
                have HOY4 : Hid (OwnPt Y4 w6.heap.size vY4 (parts ++ [⟨p.id, (j : Int), 0⟩])) := ho
                have HSY4 : Hid (Below w6.heap.size w6 Y4) := HSY3.out.grown hg HSY3.out.size (fun k hk => (World.ownsRow.lt ((own_below HOY2.out HXY3.out)) k hk).1)
                obtain ⟨AY4, cY4, hY4⟩ := own_sliceN HOY4.out HNP1.out
                subst hY4
                refine hK.out _ _ HSY4.out ?_
                clear hK K ho hg
                (try simp only [Act.put, List.setIfInBounds_toArray, List.set_cons_zero, List.set_cons_succ])
                (refine wpS_take 9 (v := ?_) (by kernel_rfl) rfl rfl (by exact HSY4.out) (fun w' hS => ?_) ?_; rotate_left; (focus (clear hS; go_simp; try with_reducible rfl; done)); (try simp only [Act.put, List.setIfInBounds_toArray, List.set_cons_zero, List.set_cons_succ]))
                refine wpS_nil (by kernel_rfl) ?_
                refine NoPanic.normal ?_
                go_wp2_with fail
                go_meet
                exact ⟨_, _, rfl, own_base HOY4.out hn6, HSY4.out⟩
              · skip
                go_simp
                refine hK.out _ _ (HSY1.out.alloc HSY1.out.size _) ?_
                clear hK K
                (try simp only [Act.put, List.setIfInBounds_toArray, List.set_cons_zero, List.set_cons_succ])
                have HXY2 : Hid (Below Y1.heap.size Y1 (Y1.alloc (.cells #[.int .i64 p.id, .int .i64 (j : Int), .int .i64 0] 65))) := al_below _ _
                have HNY2 : Hid (RdPt (Y1.alloc (.cells #[.int .i64 p.id, .int .i64 (j : Int), .int .i64 0] 65)) (.slice (some ⟨Y1.heap.size, 0, none⟩) 1 1) [⟨p.id, (j : Int), 0⟩]) := rd_newP Y1 ⟨p.id, (j : Int), 0⟩
                have HZY2 : Hid ((Y1.alloc (.cells #[.int .i64 p.id, .int .i64 (j : Int), .int .i64 0] 65)).heap.size = Y1.heap.size + 1) := World.size_alloc _ _
                generalize World.alloc Y1 _ = Y2 at HXY2 HNY2 HZY2 ⊢
                have HSY2 := Lib.hid (bchain HSY1.out HXY2.out)
                refine wpS_br [2] (by kernel_rfl) ?_
                refine AllS.cons rfl rfl (fun K hK => ?_) AllS.nil
                have HEY2 : Hid (OwnPt Y2 w6.heap.size (.slice (some ⟨D.heap.size, 0, none⟩) 0 0) []) := own_below HEY1.out HXY2.out
                refine wp_app_pts (.tmp 62) (.tmp 63) rfl w6.heap.size (.slice (some ⟨D.heap.size, 0, none⟩) 0 0) [] rfl HEY2.out (.slice Ap np cp) parts rfl (OwnPt.rd (own_below HP6.out HSY2.out)) HLA.out (by have := HSY2.out.size; omega) ?_
                intro vY3 Y3 ho hg
                have HOY3 : Hid (OwnPt Y3 w6.heap.size vY3 parts) := ho
                have HSY3 : Hid (Below w6.heap.size w6 Y3) := HSY2.out.grown hg HSY2.out.size (fun k hk => (World.ownsRow.lt (HEY2.out) k hk).1)
                obtain ⟨AY3, cY3, hY3⟩ := own_sliceN HOY3.out HNP.out
                subst hY3
                refine hK.out _ _ HSY3.out ?_
                clear hK K ho
                (try simp only [Act.put, List.setIfInBounds_toArray, List.set_cons_zero, List.set_cons_succ])
                have HNY3 := Lib.hid (rdP_one HNY2.out hg (ne_own (by rw [HZY1.out]; exact Nat.succ_ne_self _)))
                refine wpS_br [8] (by kernel_rfl) ?_
                refine AllS.cons rfl rfl (fun K hK => ?_) AllS.nil
                refine wp_app_pts (.tmp 64) (.tmp 69) rfl w6.heap.size (.slice AY3 np cY3) parts rfl HOY3.out (.slice (some ⟨Y1.heap.size, 0, none⟩) 1 1) [⟨p.id, (j : Int), 0⟩] rfl HNY3.out HLB.out (by have := HSY3.out.size; omega) ?_
                intro vY4 Y4 ho hg
                have HOY4 : Hid (OwnPt Y4 w6.heap.size vY4 (parts ++ [⟨p.id, (j : Int), 0⟩])) := ho
                have HSY4 : Hid (Below w6.heap.size w6 Y4) := HSY3.out.grown hg HSY3.out.size (fun k hk => (World.ownsRow.lt (HOY3.out) k hk).1)
                obtain ⟨AY4, cY4, hY4⟩ := own_sliceN HOY4.out HNP1.out
                subst hY4
                refine hK.out _ _ HSY4.out ?_
                clear hK K ho hg
                (try simp only [Act.put, List.setIfInBounds_toArray, List.set_cons_zero, List.set_cons_succ])
                (refine wpS_take 9 (v := ?_) (by kernel_rfl) rfl rfl (by exact HSY4.out) (fun w' hS => ?_) ?_; rotate_left; (focus (clear hS; go_simp; try with_reducible rfl; done)); (try simp only [Act.put, List.setIfInBounds_toArray, List.set_cons_zero, List.set_cons_succ]))
                refine wpS_nil (by kernel_rfl) ?_
                refine NoPanic.normal ?_
                go_wp2_with fail
                go_meet
                exact ⟨_, _, rfl, own_base HOY4.out hn6, HSY4.out⟩
            · skip
              go_simp
              refine hK.out _ _ (HSD.out.alloc HSD.out.size _) ?_
              clear hK K
              (try simp only [Act.put, List.setIfInBounds_toArray, List.set_cons_zero, List.set_cons_succ])
              have HXY1 : Hid (Below D.heap.size D (D.alloc (.cells #[.int .i64 p.id, .int .i64 (j : Int), .int .i64 0] 65))) := al_below _ _
              have HNY1 : Hid (RdPt (D.alloc (.cells #[.int .i64 p.id, .int .i64 (j : Int), .int .i64 0] 65)) (.slice (some ⟨D.heap.size, 0, none⟩) 1 1) [⟨p.id, (j : Int), 0⟩]) := rd_newP D ⟨p.id, (j : Int), 0⟩
              have HZY1 : Hid ((D.alloc (.cells #[.int .i64 p.id, .int .i64 (j : Int), .int .i64 0] 65)).heap.size = D.heap.size + 1) := World.size_alloc _ _
              generalize World.alloc D _ = Y1 at HXY1 HNY1 HZY1 ⊢
              have HSY1 := Lib.hid (bchain HSD.out HXY1.out)
              refine wpS_br [0] (by kernel_rfl) ?_
              refine AllS.cons rfl rfl (fun K hK => ?_) AllS.nil
              go_simp
              refine hK.out _ _ (HSY1.out.alloc HSY1.out.size _) ?_
              clear hK K
              (try simp only [Act.put, List.setIfInBounds_toArray, List.set_cons_zero, List.set_cons_succ])
              have HXY2 : Hid (Below Y1.heap.size Y1 (Y1.alloc (.cells #[] 65))) := al_below _ _
              have HEY2 : Hid (OwnPt (Y1.alloc (.cells #[] 65)) w6.heap.size (.slice (some ⟨Y1.heap.size, 0, none⟩) 0 0) []) := own_newP Y1 _ _ rfl (by have := HSY1.out.size; omega)
              have HZY2 : Hid ((Y1.alloc (.cells #[] 65)).heap.size = Y1.heap.size + 1) := World.size_alloc _ _
              generalize World.alloc Y1 _ = Y2 at HXY2 HEY2 HZY2 ⊢
              have HSY2 := Lib.hid (bchain HSY1.out HXY2.out)
              refine wpS_br [2] (by kernel_rfl) ?_
              refine AllS.cons rfl rfl (fun K hK => ?_) AllS.nil
              refine wp_app_pts (.tmp 62) (.tmp 63) rfl w6.heap.size (.slice (some ⟨Y1.heap.size, 0, none⟩) 0 0) [] rfl HEY2.out (.slice Ap np cp) parts rfl (OwnPt.rd (own_below HP6.out HSY2.out)) HLA.out (by have := HSY2.out.size; omega) ?_
              intro vY3 Y3 ho hg
              have HOY3 : Hid (OwnPt Y3 w6.heap.size vY3 parts) := ho
              have HSY3 : Hid (Below w6.heap.size w6 Y3) := HSY2.out.grown hg HSY2.out.size (fun k hk => (World.ownsRow.lt (HEY2.out) k hk).1)
              obtain ⟨AY3, cY3, hY3⟩ := own_sliceN HOY3.out HNP.out
              subst hY3
              refine hK.out _ _ HSY3.out ?_
              clear hK K ho
              (try simp only [Act.put, List.setIfInBounds_toArray, List.set_cons_zero, List.set_cons_succ])
              have HNY2 := Lib.hid (HNY1.out.below HXY2.out)
              have HNY3 := Lib.hid (rdP_one HNY2.out hg (ne_own (by rw [HZY1.out]; exact (Nat.succ_ne_self _).symm)))
              refine wpS_br [8] (by kernel_rfl) ?_
              refine AllS.cons rfl rfl (fun K hK => ?_) AllS.nil
              refine wp_app_pts (.tmp 64) (.tmp 69) rfl w6.heap.size (.slice AY3 np cY3) parts rfl HOY3.out (.slice (some ⟨D.heap.size, 0, none⟩) 1 1) [⟨p.id, (j : Int), 0⟩] rfl HNY3.out HLB.out (by have := HSY3.out.size; omega) ?_
              intro vY4 Y4 ho hg
              have HOY4 : Hid (OwnPt Y4 w6.heap.size vY4 (parts ++ [⟨p.id, (j : Int), 0⟩])) := ho
              have HSY4 : Hid (Below w6.heap.size w6 Y4) := HSY3.out.grown hg HSY3.out.size (fun k hk => (World.ownsRow.lt (HOY3.out) k hk).1)
              obtain ⟨AY4, cY4, hY4⟩ := own_sliceN HOY4.out HNP1.out
              subst hY4
              refine hK.out _ _ HSY4.out ?_
              clear hK K ho hg
              (try simp only [Act.put, List.setIfInBounds_toArray, List.set_cons_zero, List.set_cons_succ])
              (refine wpS_take 9 (v := ?_) (by kernel_rfl) rfl rfl (by exact HSY4.out) (fun w' hS => ?_) ?_; rotate_left; (focus (clear hS; go_simp; try with_reducible rfl; done)); (try simp only [Act.put, List.setIfInBounds_toArray, List.set_cons_zero, List.set_cons_succ]))
              refine wpS_nil (by kernel_rfl) ?_
              refine NoPanic.normal ?_
              go_wp2_with fail
              go_meet
              exact ⟨_, _, rfl, own_base HOY4.out hn6, HSY4.out⟩
          case rest =>
            obtain ⟨Aq, cq, rfl, HOQ, HBQ⟩ := hcut
            obtain ⟨r1, hr1⟩ : ∃ r1, foldE addF s2 (hits G wl k (parts ++ [⟨p.id, (j : Int), 0⟩]) nx (base ++ f)) = r1 := ⟨_, rfl⟩
            have hlp : (parts ++ [(⟨p.id, (j : Int), 0⟩ : PPt)]).length = np + 1 := by rw [List.length_append, HNP.out]; rfl
            have hlb : (base ++ f).length = base.length + f.length := List.length_append
            have hcall := HIH.out (.slice Aq (np + 1) cq) (.slice A6 (base.length + f.length) c6) (parts ++ [⟨p.id, (j : Int), 0⟩]) nx (base ++ f) s2 wc
              (by rw [hlp]; have := HPK.out; omega) HNX.out HOQ.out (by rw [← hlb]; exact own_below HBO6.out HBQ.out) (by rw [hlp]; exact basesL_app HBM.out HPM.out HFM.out)
              (fun y hy => by rcases List.mem_append.1 hy with h | h; exact HBS.out y h; exact HE.out.ok.formB HPM.out HFM.out y h)
              (by rw [hlb, HNB.out, HM.out]; exact HNT.out) (HWE6.out.below HBQ.out) (HWS6.out.below HBQ.out)
            rw [foldE_append, hr1] at HFJ3
            rw [hr1] at hcall
            have HC := Lib.hid hcall
            clear hcall hr1 hlp hlb
            obtain ⟨s3, b3⟩ := r1
            simp only at HFJ3 HC
            go_wp2_with fail
            refine HC.out.mono ?_
            rintro e w7 ⟨rfl, hs7, hg7⟩
            have HS7 := Lib.hid hs7
            have HG7 : Hid (Gw w0.heap.size w2 w7) := HG6.out.trans ((Gs.of_below HBQ.out hn6).toGw.trans hg7)
            clear hs7 hg7 HC
            cases b3
            · have HRF : Hid (r = (s3, false)) := by
                have h := HFJ3.out
                simp at h
                exact h.symm
              go_wp2_with fail
              go_ret
              exact ⟨by rw [HRF.out]; rfl, by rw [HRF.out]; exact HS7.out, HG2.out.trans HG7.out⟩
            · have HF7 : Hid (foldE addF s3 (formL (hits G wl k) G wl p.id parts nx base (j + 1) ((formsP p).drop (j + 1))) = r) := by
                have h := HFJ3.out
                simp at h
                exact h
              go_wp2_with fail
              go_roundw
              case rel => exact ⟨j + 1, s3, by omega, by go_num, HF7.out, HS7.out, HG7.out⟩
              case measure => simp [intOf]; omega
        · have HFJ3 : Hid (foldE addF s2 (formL (hits G wl k) G wl p.id parts nx base (j + 1) ((formsP p).drop (j + 1))) = r) := HFJ2.out
          clear HFJ2 htb
          go_wp2_with fail
          go_roundw
          case rel => exact ⟨j + 1, s2, by omega, by go_num, HFJ3.out, HWSJ.out, HGJ.out⟩
          case measure => simp [intOf]; omega
    · have HRF : Hid (r = (s2, true)) := by
        have h := HFJ.out
        rw [List.drop_of_length_le (by rw [HNF.out]; omega)] at h
        exact h.symm
      go_wp2_with fail
      go_ret
      exact ⟨by rw [HRF.out]; rfl, by rw [HRF.out]; exact HWSJ.out, HG2.out.trans HGJ.out⟩
end Go.Proofs.YtiopgbbggeimaaaGreat
