/-
  analyze: walk of the search.
-/
import Derived.Test.YtiopgbbggeimaaaGreatK20
namespace Go.Proofs.YtiopgbbggeimaaaGreat
open Go.ChangeShapes Go.WideShapes Go.ChangeAt Go.RowKit
theorem lexL_cons (rec : Rec) (G : PLang) (ws : List Int) (parts : List PPt) (now : Nat) (base : List Int) (p : PE) (l : List PE) : lexL rec G ws parts now base (p :: l) = (if afterF G.net.steps now p.cls = 0 then [] else stepF rec G ws p parts (afterF G.net.steps now p.cls) base) ++ lexL rec G ws parts now base l := rfl
theorem hits_succ (G : PLang) (ws : List Int) (k : Nat) (parts : List PPt) (now : Nat) (base : List Int) : hits G ws (k + 1) parts now base = hereL G ws parts now base ++ lexL (hits G ws k) G ws parts now base G.lex := rfl
set_option maxHeartbeats 32000000 in
set_option maxRecDepth 100000 in
theorem walk_step (w0 : World) (s : Sch) (G : PLang) (wl : List Int) (B bo bf S k : Nat) (hE : SE w0 s G wl) (hS : G.net.states = (S : Int)) (ih : ∀ k', k = k' + 1 → StepC w0 s G wl B bo bf S k') : RecC w0 s G wl B bo bf S k := by
  intro pv bv parts now base st w hpk hnow hpo hbo hbm hbs hbl hwe hws
  have HE := Lib.hid hE
  have HIH := Lib.hid ih
  have HSS := Lib.hid hS
  have HPK := Lib.hid hpk
  have HNW := Lib.hid hnow
  have HPO := Lib.hid hpo
  have HBO := Lib.hid hbo
  have HBM := Lib.hid hbm
  have HBS := Lib.hid hbs
  have HBL := Lib.hid hbl
  have HWE := Lib.hid hwe
  have HWS := Lib.hid hws
  obtain ⟨Ap, cp, rfl⟩ := own_sliceP hpo
  obtain ⟨_, Ab, cb, rfl⟩ := own_slice hbo
  obtain ⟨np, hnp⟩ : ∃ n, parts.length = n := ⟨_, rfl⟩
  obtain ⟨nb, hnb⟩ : ∃ n, base.length = n := ⟨_, rfl⟩
  have HNP := Lib.hid hnp
  have HNB := Lib.hid hnb
  have hnp4 : np ≤ 4 := by omega
  have hnb24 : nb ≤ 24 := by omega
  have hS24 : S ≤ 24 := by have := hE.ok.net.s2; omega
  have hn32 : now < 4294967296 := lt32 hS24 hnow
  have hf32 : s.fin < 4294967296 := by rw [hE.fin]; exact lt32 hS24 (finalG_lt hE.ok.net hS)
  have hba := bits_and now s.fin hn32 hf32
  obtain ⟨an, han⟩ : ∃ an, now &&& s.fin = an := ⟨_, rfl⟩
  rw [han] at hba
  obtain ⟨⟨st1, b1⟩, hr1⟩ : ∃ r1, foldE addF st (hereL G wl parts now base) = r1 := ⟨_, rfl⟩
  obtain ⟨hh, hhh⟩ : ∃ hh, hereB G wl parts now base = hh := ⟨_, rfl⟩
  have HHB : Hid ((decide (0 < np) && (an != 0) && decide (s.ws.n ≤ nb) && fitsF G wl base) = hh) := by
    rw [Hid, ← hhh, hereB, hnp, hnb, ← hE.fin, han, hE.nw]
  have HNO : Hid (hh = false → st1 = st ∧ b1 = true) := by
    intro h
    rw [hereL, hhh, h] at hr1
    simp only [Bool.false_eq_true, if_false, foldE] at hr1
    cases hr1
    exact ⟨rfl, rfl⟩
  have HYS : Hid (hh = true → foldE addF st (spreadL G.lex parts.length 0 parts) = (st1, b1)) := by
    intro h
    rw [hereL, hhh, h] at hr1
    simpa using hr1
  have HR1 := Lib.hid hr1
  rw [hnp] at HPO HBM HPK ⊢
  rw [hnb] at HBO ⊢
  obtain ⟨r, hr⟩ : ∃ r, foldE addF st (hits G wl k parts now base) = r := ⟨_, rfl⟩
  have HR := Lib.hid hr
  rw [hr]
  have hn0 : w0.heap.size ≤ w.heap.size := hws.b.size
  clear hE ih hS hpk hnow hpo hbo hbm hbs hbl hwe hws hnp hnb hr hr1 hhh han hn32 hf32
  go_enter Tryz.func94, Tryz.ntmps94
  go_upto_region 1 with (fail)
  go_cut [48] (fun s48 wx => s48 = .bool (!b1) ∧ Hid (WS w0 G wl s.bm bo bf st1 wx) ∧ Hid (Gw w0.heap.size w wx))
  case first =>
    obtain ⟨z0, z4, z6, z8, z9, z10, z11, z12, z13, zl⟩ := HWE.out.sr.facts
    by_cases h1 : 0 < np
    · have d1 : decide ((0 : Int) < (np : Int)) = true := by simp; omega
      have d1' : decide (0 < np) = true := by simp; omega
      by_cases h2 : an = 0
      · have d2 : ((an : Int) != 0) = false := by simp [h2]
        have d2' : (an != 0) = false := by simp [h2]
        have d2'' : (an == 0) = true := by simp [h2]
        have HN := Lib.hid (HNO.out (by rw [← HHB.out]; simp [h2]))
        clear h1 h2
        go_wp2_with fail
        go_meet
        exact ⟨by rw [HN.out.2]; rfl, by rw [HN.out.1]; exact HWS.out, Gw.refl _ _⟩
      · have d2 : ((an : Int) != 0) = true := by simp; omega
        have d2' : (an != 0) = true := by simp; omega
        have d2'' : (an == 0) = false := by simp; omega
        by_cases h3 : s.ws.n ≤ nb
        · have d3 : decide ((s.ws.n : Int) ≤ (nb : Int)) = true := by simp; omega
          have d3' : decide (s.ws.n ≤ nb) = true := by simp; omega
          have HF3 : Hid (fitsF G wl base = hh) := by rw [Hid, ← HHB.out]; simp [h1, h2, h3]
          clear h1 h2 h3
          go_wp2_with fail
          refine (sfits_any w0 s G wl B _ base w HE.out HWS.out.b HWE.out.sr HWS.out.tr HBO.out.rd (basesL_le hnp4 HBM.out) HBS.out HBL.out).mono ?_
          rintro e w1 ⟨rfl, hfj⟩
          have HWS1 := Lib.hid (hfj.ws HWS.out HE.out.bm)
          have HG1 := Lib.hid (hfj.gw HWS.out.tr HE.out.bm hn0)
          have HWE1 := Lib.hid (HWE.out.gw HG1.out)
          rw [HF3.out]
          clear hfj z0 z4 z6 z8 z9 z10 z11 z12 z13 zl
          obtain ⟨z0, z4, z6, z8, z9, z10, z11, z12, z13, zl⟩ := HWE1.out.sr.facts
          cases hh
          · have HN := Lib.hid (HNO.out rfl)
            go_wp2_with fail
            go_meet
            exact ⟨by rw [HN.out.2]; rfl, by rw [HN.out.1]; exact HWS1.out, HG1.out⟩
          · have HY := Lib.hid (HYS.out rfl)
            have hc := found_any w0 s G wl bo bf (.slice Ap np cp) (.slice Ab nb cb) parts st w1 HE.out HWS1.out.b HWE1.out.lg HWE1.out.ad HWS1.out.st (HG1.out.ownPt HPO.out) (by rw [HNP.out]; exact hnp4)
            rw [HY.out] at hc
            have HC := Lib.hid hc
            clear hc
            go_wp2_with fail
            refine HC.out.mono ?_
            rintro e w2 ⟨rfl, hs2, hg2⟩
            have HWS2 := Lib.hid (hg2.ws HWS1.out hs2)
            have HG2 : Hid (Gw w0.heap.size w w2) := HG1.out.trans hg2.toGw
            clear hs2 hg2 HC
            go_wp2_with fail
            go_meet
            exact ⟨rfl, HWS2.out, HG2.out⟩
        · have d3 : decide ((s.ws.n : Int) ≤ (nb : Int)) = false := by simp; omega
          have d3' : decide (s.ws.n ≤ nb) = false := by simp; omega
          have HN := Lib.hid (HNO.out (by rw [← HHB.out]; simp [h3]))
          clear h1 h2 h3
          go_wp2_with fail
          go_meet
          exact ⟨by rw [HN.out.2]; rfl, by rw [HN.out.1]; exact HWS.out, Gw.refl _ _⟩
    · have d1 : decide ((0 : Int) < (np : Int)) = false := by simp; omega
      have d1' : decide (0 < np) = false := by simp; omega
      have HN := Lib.hid (HNO.out (by rw [← HHB.out]; simp [h1]))
      clear h1
      go_wp2_with fail
      go_meet
      exact ⟨by rw [HN.out.2]; rfl, by rw [HN.out.1]; exact HWS.out, Gw.refl _ _⟩
  case rest =>
    obtain ⟨rfl, HWS1, HG1⟩ := hcut
    have HHK : Hid (foldE addF st (hits G wl k parts now base) = r) := HR.out
    cases b1
    · have HRF : Hid (r = (st1, false)) := by
        rw [Hid, ← HHK.out]
        cases k with
        | zero => exact HR1.out
        | succ k => rw [hits_succ, foldE_append, HR1.out]; rfl
      go_wp2_with fail
      go_ret
      exact ⟨by rw [HRF.out]; rfl, by rw [HRF.out]; exact HWS1.out, HG1.out⟩
    · by_cases hk0 : k = 0
      · have hnp4' : np = 4 := by have := HPK.out; omega
        have HRF : Hid (r = (st1, true)) := by
          rw [Hid, ← HHK.out, hk0]
          exact HR1.out
        subst hnp4'
        clear hk0
        go_wp2_with fail
        go_ret
        exact ⟨by rw [HRF.out]; rfl, by rw [HRF.out]; exact HWS1.out, HG1.out⟩
      · obtain ⟨k', hk'⟩ : ∃ k', k = k' + 1 := ⟨k - 1, by omega⟩
        have HK := Lib.hid hk'
        have d1 : ((np : Int) == 4) = false := by have := HPK.out; simp; omega
        have d1' : (np == 4) = false := by have := HPK.out; simp; omega
        have HR2 : Hid (foldE addF st1 (lexL (hits G wl k') G wl parts now base G.lex) = r) := by
          have h := HHK.out
          rw [hk', hits_succ, foldE_append, HR1.out] at h
          exact h
        have HRC : Hid (StepC w0 s G wl B bo bf S k') := HIH.out k' hk'
        clear hk' hk0
        have HWE1 := Lib.hid (HWE.out.gw HG1.out)
        have HPO1 := Lib.hid (HG1.out.ownPt HPO.out)
        have HBO1 := Lib.hid (HG1.out.ownI HBO.out)
        obtain ⟨Ax, nx, cx, hex, hx1, hx2, HNX, HPA⟩ := HE.out.g.x.op
        obtain ⟨z0, z4, z6, z8, z9, z10, z11, z12, z13, zl⟩ := HWE1.out.sr.facts
        rw [hex] at z8
        clear hex
        go_wp2_with fail
        clear z0 z4 z6 z8 z9 z10 z11 z12 z13 zl d1 d1'
        go_loopw [58] (fun v58 wr => ∃ (i : Nat) (s2 : Fnd), i ≤ nx ∧ v58 = .int .i64 i ∧ Hid (foldE addF s2 (lexL (hits G wl k') G wl parts now base (G.lex.drop i)) = r) ∧ Hid (WS w0 G wl s.bm bo bf s2 wr) ∧ Hid (Gw w0.heap.size wc wr)) (fun v58 _ => nx - (intOf v58).toNat)
        case atStart => exact ⟨0, st1, Nat.zero_le _, rfl, HR2.out, HWS1.out, Gw.refl _ _⟩
        case round =>
          obtain ⟨i, s2, hi, rfl, HFJ, HWSJ, HGJ⟩ := hrel
          by_cases hlt : i < nx
          · obtain ⟨b, off, e, q, hA, hb, hd, hde, hc⟩ := (HPA.out i hlt)
            subst hA
            have HDE := Lib.hid hde.out
            obtain ⟨c0, c1, c2, c3, c4, c5, c6, c7⟩ := hc.below HWSJ.out.b hb
            have HQM : Hid (q ∈ G.lex) := List.mem_of_mem_drop (by rw [hd.out]; exact List.mem_cons_self)
            have HFJ2 : Hid (foldE addF s2 ((if afterF G.net.steps now q.cls = 0 then [] else stepF (hits G wl k') G wl q parts (afterF G.net.steps now q.cls) base) ++ lexL (hits G wl k') G wl parts now base (G.lex.drop (i + 1))) = r) := by
              have h := HFJ.out
              rw [hd.out, lexL_cons] at h
              exact h
            have hi0 : (0 : Int) ≤ (i : Int) := by omega
            have hnj : w0.heap.size ≤ wr.heap.size := HWSJ.out.b.size
            clear hb hd hde hc HFJ
            go_upto_region 8 with (fail)
            generalize hX : World.alloc wr _ = X
            have HXB : Hid (Below wr.heap.size wr X) := by rw [← hX]; exact al_below _ _
            have HEX : Hid (EBlk X wr.heap.size e) := by rw [← hX]; exact heap_alloc_new wr _
            clear hX c0 c1 c2 c3 c4 c5 c6 c7
            have HGX : Hid (Gw w0.heap.size wc X) := HGJ.out.trans (Gs.of_below HXB.out hnj).toGw
            have HWSX := Lib.hid (HWSJ.out.below HXB.out)
            have HWEX := Lib.hid (HWE1.out.gw HGX.out)
            have hnX : w0.heap.size ≤ X.heap.size := HWSX.out.b.size
            generalize wr.heap.size = gx at HEX ⊢
            obtain ⟨y0, y1, y2, y3, y4, y5, y6, y7, yl⟩ := HEX.out.facts
            go_wp2_with fail
            refine (safter_any w0 s G wl B S now e.cls X HE.out HSS.out HWSX.out.b HWEX.out.sr HNW.out).mono ?_
            rintro e9 w3 ⟨rfl, hb3⟩
            have HB3 := Lib.hid hb3
            rw [HDE.out.cls]
            obtain ⟨a, ha⟩ : ∃ a, afterF G.net.steps now q.cls = a := ⟨_, rfl⟩
            have HA : Hid (a < 2 ^ S) := by rw [Hid, ← ha]; exact after_lt HE.out.ok.net HSS.out now q.cls
            rw [ha] at HFJ2 ⊢
            have HEX3 := Lib.hid (HEX.out.below hb3)
            have HG3 : Hid (Gw w0.heap.size wc w3) := HGX.out.trans (Gs.of_below hb3 hnX).toGw
            have HWS3 := Lib.hid (HWSX.out.below hb3)
            clear hb3 ha y0 y1 y2 y3 y4 y5 y6 y7 yl HEX HGX HWSX HWEX HWSJ HGJ
            obtain ⟨y0, y1, y2, y3, y4, y5, y6, y7, yl⟩ := HEX3.out.facts
            by_cases ha0 : a = 0
            · have d1 : ((a : Int) != 0) = false := by simp [ha0]
              have d1' : (a != 0) = false := by simp [ha0]
              have d1'' : (a == 0) = true := by simp [ha0]
              have HF3 : Hid (foldE addF s2 (lexL (hits G wl k') G wl parts now base (G.lex.drop (i + 1))) = r) := by
                have h := HFJ2.out
                rw [if_pos ha0, List.nil_append] at h
                exact h
              clear ha0
              go_wp2_with fail
              go_roundw
              case rel => exact ⟨i + 1, s2, by omega, by go_num, HF3.out, HWS3.out, HG3.out⟩
              case measure => simp [intOf]; omega
            · have d1 : ((a : Int) != 0) = true := by simp; omega
              have d1' : (a != 0) = true := by simp; omega
              have d1'' : (a == 0) = false := by simp; omega
              have hcall := HRC.out e q (.slice Ap np cp) (.slice Ab nb cb) parts a base s2 w3 HQM.out HDE.out (by rw [HNP.out]; have := HPK.out; have := HK.out; omega) HA.out (HG3.out.ownPt HPO1.out) (HG3.out.ownI HBO1.out) (by rw [HNP.out]; exact HBM.out) HBS.out HBL.out (HWE1.out.gw HG3.out) HWS3.out
              obtain ⟨⟨s3, b3⟩, hr3⟩ : ∃ r3, foldE addF s2 (stepF (hits G wl k') G wl q parts a base) = r3 := ⟨_, rfl⟩
              have h := HFJ2.out
              rw [if_neg ha0, foldE_append, hr3] at h
              rw [hr3] at hcall
              have HC := Lib.hid hcall
              have HF3 := Lib.hid h
              clear hcall h hr3 ha0 HFJ2
              go_wp2_with fail
              refine HC.out.mono ?_
              rintro e9 w7 ⟨rfl, hs7, hg7⟩
              have HS7 := Lib.hid hs7
              have HG7 : Hid (Gw w0.heap.size wc w7) := HG3.out.trans hg7
              clear hs7 hg7 HC
              cases b3
              · have HRF : Hid (r = (s3, false)) := by
                  have h := HF3.out
                  simp at h
                  exact h.symm
                go_wp2_with fail
                go_ret
                exact ⟨by rw [HRF.out]; rfl, by rw [HRF.out]; exact HS7.out, HG1.out.trans HG7.out⟩
              · have HF7 : Hid (foldE addF s3 (lexL (hits G wl k') G wl parts now base (G.lex.drop (i + 1))) = r) := by
                  have h := HF3.out
                  simp at h
                  exact h
                go_wp2_with fail
                go_roundw
                case rel => exact ⟨i + 1, s3, by omega, by go_num, HF7.out, HS7.out, HG7.out⟩
                case measure => simp [intOf]; omega
          · have HRF : Hid (r = (s2, true)) := by
              have h := HFJ.out
              rw [List.drop_of_length_le (by rw [HNX.out]; omega)] at h
              exact h.symm
            go_wp2_with fail
            go_ret
            exact ⟨by rw [HRF.out]; rfl, by rw [HRF.out]; exact HWSJ.out, HG1.out.trans HGJ.out⟩
theorem walk_any (w0 : World) (s : Sch) (G : PLang) (wl : List Int) (B bo bf S : Nat) (hE : SE w0 s G wl) (hS : G.net.states = (S : Int)) : ∀ k, RecC w0 s G wl B bo bf S k
  | 0 => walk_step w0 s G wl B bo bf S 0 hE hS (fun k' h => by omega)
  | k + 1 => walk_step w0 s G wl B bo bf S (k + 1) hE hS (fun k' h => by
      have h : k = k' := by omega
      rw [← h]
      exact step_any w0 s G wl B bo bf S k hE (walk_any w0 s G wl B bo bf S hE hS k))
end Go.Proofs.YtiopgbbggeimaaaGreat
