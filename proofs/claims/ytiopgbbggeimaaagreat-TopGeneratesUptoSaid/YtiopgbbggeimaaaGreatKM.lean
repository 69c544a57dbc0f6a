/-
  Check and Light of the reference of surface forms.
-/
import Derived.Test.YtiopgbbggeimaaaGreatKL
namespace Go.Proofs.YtiopgbbggeimaaaGreat
open Go.ChangeShapes Go.WideShapes Go.ChangeAt Go.RowKit
structure GCk (G : PLang) : Prop where
  units : GoodO G.ort.units
  rules : ∀ R ∈ G.rules, RGood G.inv R
  net : GoodN G.net
  lex : LexOk G.inv G.lex
def GQ (G : PLang) (x : Int) : Prop := x = 0 → GCk G
theorem GQ.no {G : PLang} {x : Int} (h : x ≠ 0) : GQ G x := fun h' => absurd h' h
set_option maxHeartbeats 8000000 in
set_option maxRecDepth 100000 in
theorem gcheck_any (g : GV) (G : PLang) (w : World) (hg : DpG w g G) (hs : SmG G) :
    Calls Tryz.prog 16 #[.agg #[.slice g.i.A g.i.n g.i.c, .string g.on, .slice g.u.A g.u.n g.u.c, .slice g.l.A g.l.n g.l.c, .slice g.r.A g.r.n g.r.c, .int .i64 g.q, .slice g.s.A g.s.n g.s.c, .slice g.f.A g.f.n g.f.c, .slice g.x.A g.x.n g.x.c]] w fun e' w' => RetE (GQ G) e' ∧ Below w.heap.size w w' := by
  have HG := Lib.hid hg
  have HSM := Lib.hid hs
  clear hg hs
  go_enter Tryz.func16, Tryz.ntmps16
  go_upto_region 1 with (fail)
  generalize hW : World.alloc w _ = W
  have HBW : Hid (Below w.heap.size w W) := by rw [← hW]; exact al_below _ _
  have HQ : Hid (LgBlk W w.heap.size g) := by rw [← hW]; exact heap_alloc_new w _
  clear hW
  obtain ⟨z0, z1, z2, z3, z4, z5, z6, z7, z8, zl⟩ := HQ.out.facts
  go_wp2_with fail
  refine (check16_any _ G.inv _ (HG.out.i.below HBW.out) (by have := HSM.out.inv; omega) HSM.out.name).mono ?_
  rintro e' w1 ⟨⟨x, rfl, hx⟩, hb⟩
  have HBw1 := Lib.hid (bchain (HBW).out hb)
  have HXw1 := Lib.hid hx
  have HQw1 := Lib.hid ((HQ).out.below hb)
  clear hb hx z0 z1 z2 z3 z4 z5 z6 z7 z8 zl
  obtain ⟨z0, z1, z2, z3, z4, z5, z6, z7, z8, zl⟩ := HQw1.out.facts
  by_cases hx0 : x = 0
  rotate_left
  · have d : (x != 0) = true := by simp [hx0]
    go_wp2_with fail
    go_ret
    exact ⟨RetE.mk (GQ.no hx0), HBw1.out⟩
  subst hx0
  go_wp2_with fail
  refine (check17_any _ _ G.inv G.ort _ (HG.out.i.below HBw1.out) (HG.out.ort.below HBw1.out) HSM.out.ort).mono ?_
  rintro e' w2 ⟨⟨x, rfl, hx⟩, hb⟩
  have HBw2 := Lib.hid (bchain (HBw1).out hb)
  have HXw2 := Lib.hid hx
  have HQw2 := Lib.hid ((HQw1).out.below hb)
  clear hb hx z0 z1 z2 z3 z4 z5 z6 z7 z8 zl
  obtain ⟨z0, z1, z2, z3, z4, z5, z6, z7, z8, zl⟩ := HQw2.out.facts
  by_cases hx0 : x = 0
  rotate_left
  · have d : (x != 0) = true := by simp [hx0]
    go_wp2_with fail
    go_ret
    exact ⟨RetE.mk (GQ.no hx0), HBw2.out⟩
  subst hx0
  go_wp2_with fail
  refine (rules_any g G _ (HG.out.below HBw2.out) HSM.out.inv).mono ?_
  rintro e' w3 ⟨⟨x, rfl, hx⟩, hb⟩
  have HBw3 := Lib.hid (bchain (HBw2).out hb)
  have HXw3 := Lib.hid hx
  have HQw3 := Lib.hid ((HQw2).out.below hb)
  clear hb hx z0 z1 z2 z3 z4 z5 z6 z7 z8 zl
  obtain ⟨z0, z1, z2, z3, z4, z5, z6, z7, z8, zl⟩ := HQw3.out.facts
  by_cases hx0 : x = 0
  rotate_left
  · have d : (x != 0) = true := by simp [hx0]
    go_wp2_with fail
    go_ret
    exact ⟨RetE.mk (GQ.no hx0), HBw3.out⟩
  subst hx0
  go_wp2_with fail
  refine (rcheck_any _ G.net _ (HG.out.net.below HBw3.out)).mono ?_
  rintro e' w4 ⟨rfl, hb⟩
  obtain ⟨x, hx⟩ : ∃ x, chkN G.net = x := ⟨_, rfl⟩
  rw [hx]
  have HBw4 := Lib.hid (bchain HBw3.out hb)
  have HXw4 := Lib.hid hx
  have HQw4 := Lib.hid (HQw3.out.below hb)
  clear hb hx z0 z1 z2 z3 z4 z5 z6 z7 z8 zl
  obtain ⟨z0, z1, z2, z3, z4, z5, z6, z7, z8, zl⟩ := HQw4.out.facts
  by_cases hx0 : x = 0
  rotate_left
  · have d : (x != 0) = true := by simp [hx0]
    go_wp2_with fail
    go_ret
    exact ⟨RetE.mk (GQ.no hx0), HBw4.out⟩
  have HNET : Hid (GoodN G.net) := chk_good (by rw [HXw4.out, hx0]; rfl)
  clear HXw4
  subst hx0
  go_wp2_with fail
  refine (rlex_any _ _ G.inv G.lex _ (HG.out.inv.below HBw4.out) (HG.out.x.below HBw4.out) HSM.out.lex).mono ?_
  rintro e' w5 ⟨⟨x, rfl, hx⟩, hb⟩
  have HBw5 := Lib.hid (bchain (HBw4).out hb)
  have HXw5 := Lib.hid hx
  have HQw5 := Lib.hid ((HQw4).out.below hb)
  clear hb hx z0 z1 z2 z3 z4 z5 z6 z7 z8 zl
  obtain ⟨z0, z1, z2, z3, z4, z5, z6, z7, z8, zl⟩ := HQw5.out.facts
  by_cases hx0 : x = 0
  rotate_left
  · have d : (x != 0) = true := by simp [hx0]
    go_wp2_with fail
    go_ret
    exact ⟨RetE.mk (GQ.no hx0), HBw5.out⟩
  subst hx0
  go_wp2_with fail
  refine (relate_any _ G.lex _ (HG.out.x.below HBw5.out) (HXw5.out rfl).len).mono ?_
  rintro e' w6 ⟨⟨x, rfl, hx⟩, hb⟩
  have HBw6 := Lib.hid (bchain (HBw5).out hb)
  have HXw6 := Lib.hid hx
  have HQw6 := Lib.hid ((HQw5).out.below hb)
  clear hb hx z0 z1 z2 z3 z4 z5 z6 z7 z8 zl
  obtain ⟨z0, z1, z2, z3, z4, z5, z6, z7, z8, zl⟩ := HQw6.out.facts
  by_cases hx0 : x = 0
  rotate_left
  · have d : (x != 0) = true := by simp [hx0]
    go_wp2_with fail
    go_ret
    exact ⟨RetE.mk (GQ.no hx0), HBw6.out⟩
  subst hx0
  go_wp2_with fail
  obtain ⟨L, hL, hLP⟩ := HG.out.x.below HBw6.out
  refine (rcheck_anyV _ L _ hL (by rw [hLP.length]; have := (HXw5.out rfl).len; omega)).mono ?_
  rintro e' w7 ⟨rfl, hb⟩
  have HB7 := Lib.hid (bchain HBw6.out hb)
  clear hb hL hLP
  go_wp2_with fail
  go_ret
  exact ⟨RetE.mk fun _ => ⟨HXw2.out rfl, HXw3.out rfl, HNET.out, HXw5.out rfl⟩, HB7.out⟩
def LightQ (G : PLang) (b : Bool) : Prop := b = true → LightOk G
theorem LightQ.no {G : PLang} : LightQ G false := fun h => absurd h (by decide)
structure Lt1 (G : PLang) : Prop where
  segs : G.inv.length ≤ 8
  rlen : G.rules.length ≤ 2
  five : G.lex.length ≤ 5
  alts : ∀ p ∈ G.lex, p.alts.length ≤ 1
set_option maxHeartbeats 8000000 in
set_option maxRecDepth 100000 in
theorem light_any (g : GV) (G : PLang) (w : World) (hg : DpG w g G) (hs : SmG G) :
    Calls Tryz.prog 4 #[.agg #[.slice g.i.A g.i.n g.i.c, .string g.on, .slice g.u.A g.u.n g.u.c, .slice g.l.A g.l.n g.l.c, .slice g.r.A g.r.n g.r.c, .int .i64 g.q, .slice g.s.A g.s.n g.s.c, .slice g.f.A g.f.n g.f.c, .slice g.x.A g.x.n g.x.c]] w fun e' w' => RetB (LightQ G) e' ∧ Below w.heap.size w w' := by
  have HG := Lib.hid hg
  have HSM := Lib.hid hs
  obtain ⟨_, _, _, h0, h1, h2, HN, HR⟩ := hg.r
  cases h0
  clear hg hs
  go_enter Tryz.func4, Tryz.ntmps4
  go_upto_region 1 with (fail)
  generalize hW : World.alloc w _ = W
  have HBW : Hid (Below w.heap.size w W) := by rw [← hW]; exact al_below _ _
  have HQ : Hid (LgBlk W w.heap.size g) := by rw [← hW]; exact heap_alloc_new w _
  clear hW
  obtain ⟨z0, z1, z2, z3, z4, z5, z6, z7, z8, zl⟩ := HQ.out.facts
  go_cut [47] (fun s47 wx => ∃ b : Bool, s47 = .bool b ∧ Hid (b = false → Lt1 G) ∧ Below W.heap.size W wx)
  case first =>
    by_cases c1 : 8 < g.i.n
    · have d1 : decide ((8 : Int) < (g.i.n : Int)) = true := by simp; omega
      go_wp2_with fail
      go_meet
      exact ⟨true, rfl, fun h => absurd h (by decide), Below.refl _ _⟩
    have d1 : decide ((8 : Int) < (g.i.n : Int)) = false := by simp; omega
    by_cases c2 : 10 < g.u.n
    · have d2 : decide ((10 : Int) < (g.u.n : Int)) = true := by simp; omega
      go_wp2_with fail
      go_meet
      exact ⟨true, rfl, fun h => absurd h (by decide), Below.refl _ _⟩
    have d2 : decide ((10 : Int) < (g.u.n : Int)) = false := by simp; omega
    by_cases c3 : 2 < g.r.n
    · have d3 : decide ((2 : Int) < (g.r.n : Int)) = true := by simp; omega
      go_wp2_with fail
      go_meet
      exact ⟨true, rfl, fun h => absurd h (by decide), Below.refl _ _⟩
    have d3 : decide ((2 : Int) < (g.r.n : Int)) = false := by simp; omega
    by_cases c4 : 3 < g.q
    · have d4 : decide ((3 : Int) < g.q) = true := by simp; omega
      go_wp2_with fail
      go_meet
      exact ⟨true, rfl, fun h => absurd h (by decide), Below.refl _ _⟩
    have d4 : decide ((3 : Int) < g.q) = false := by simp; omega
    by_cases c5 : 6 < g.s.n
    · have d5 : decide ((6 : Int) < (g.s.n : Int)) = true := by simp; omega
      go_wp2_with fail
      go_meet
      exact ⟨true, rfl, fun h => absurd h (by decide), Below.refl _ _⟩
    have d5 : decide ((6 : Int) < (g.s.n : Int)) = false := by simp; omega
    by_cases c6 : 3 < g.f.n
    · have d6 : decide ((3 : Int) < (g.f.n : Int)) = true := by simp; omega
      go_wp2_with fail
      go_meet
      exact ⟨true, rfl, fun h => absurd h (by decide), Below.refl _ _⟩
    have d6 : decide ((3 : Int) < (g.f.n : Int)) = false := by simp; omega
    have H8 : Hid (G.inv.length ≤ 8) := by rw [Hid, ← HG.out.ni]; omega
    have H2 : Hid (G.rules.length ≤ 2) := by rw [Hid, ← HG.out.nr]; omega
    clear c1 c2 c3 c4 c5 c6
    go_wp2_with fail
    refine (small_any _ G.lex _ (HG.out.x.below HBW.out)).mono ?_
    rintro e' w1 ⟨⟨b, rfl, hx⟩, hb⟩
    have HX := Lib.hid hx
    have HB := Lib.hid hb
    clear hx hb
    cases b
    · go_wp2_with fail
      go_meet
      exact ⟨true, rfl, fun h => absurd h (by decide), HB.out⟩
    · go_wp2_with fail
      go_meet
      exact ⟨false, rfl, fun _ => ⟨H8.out, H2.out, (HX.out rfl).1, (HX.out rfl).2⟩, HB.out⟩
  case rest =>
    obtain ⟨b, rfl, HF, hb⟩ := hcut
    have HB1 := Lib.hid (bchain HBW.out hb)
    have HQ1 := Lib.hid (HQ.out.below hb)
    clear hb z0 z1 z2 z3 z4 z5 z6 z7 z8 zl
    cases b
    rotate_left
    · go_wp2_with fail
      go_ret
      exact ⟨RetB.mk LightQ.no, HB1.out⟩
    have HLT := Lib.hid (HF.out rfl)
    clear HF
    go_wp2_with fail
    go_loopw [3] (fun v3 wr => ∃ k : Nat, k ≤ g.r.n ∧ v3 = .int .i64 k ∧ Hid (Below wc.heap.size wc wr)) (fun v3 _ => g.r.n - (intOf v3).toNat)
    case atStart => exact ⟨0, Nat.zero_le _, rfl, Below.refl _ _⟩
    case round =>
      obtain ⟨k, hk, rfl, HBR⟩ := hrel
      have HBX := Lib.hid (bchain HB1.out HBR.out)
      obtain ⟨z0, z1, z2, z3, z4, z5, z6, z7, z8, zl⟩ := (HQ1.out.below HBR.out).facts
      by_cases hlt : k < g.r.n
      · obtain ⟨b, off, vf, vt, vl, vr, R, hA, hb, hd, hcell, HRR⟩ := (HR.out k hlt).below HBX.out
        obtain ⟨A1, n1, c1, A2, n2, c2, A3, n3, c3, A4, n4, c4, rfl, rfl, rfl, rfl⟩ := rdR_form HRR.out
        obtain ⟨c0, -, -, -, -, -⟩ := hcell
        have hk0 : (0 : Int) ≤ (k : Int) := by omega
        have HZA := Lib.hid hA
        rw [hA] at z4
        clear hA
        by_cases h8 : 8 < n1
        · have d1 : decide ((8 : Int) < (n1 : Int)) = true := by simp; omega
          go_wp2_with fail
          go_ret
          exact ⟨RetB.mk LightQ.no, HBX.out⟩
        · have d1 : decide ((8 : Int) < (n1 : Int)) = false := by simp; omega
          go_wp2_with fail
          go_roundw
          case rel => exact ⟨k + 1, by omega, by go_num, HBR.out⟩
          case measure => simp [intOf]; omega
      · go_wp2_with fail
        refine (gcheck_any g G _ (HG.out.below HBX.out) HSM.out).mono ?_
        rintro e' w2 ⟨⟨x, rfl, hx⟩, hb⟩
        have HX := Lib.hid hx
        have HB2 := Lib.hid (bchain HBX.out hb)
        clear hb hx
        by_cases hx0 : x = 0
        · have HC := Lib.hid (HX.out hx0)
          subst hx0
          go_wp2_with fail
          go_ret
          exact ⟨RetB.mk fun _ => ⟨HLT.out.segs, HC.out.units, HC.out.rules, HLT.out.rlen, HC.out.net, HC.out.lex, HLT.out.five, HLT.out.alts⟩, HB2.out⟩
        · have d : (x == 0) = false := by simp [hx0]
          go_wp2_with fail
          go_ret
          exact ⟨RetB.mk LightQ.no, HB2.out⟩
end Go.Proofs.YtiopgbbggeimaaaGreat
