/-
  The statements' walks: RewriteCompiles.
-/
import Derived.Test.YtdijlakeonionaaQ35
namespace Go.Proofs.Ytdijlakeonionaa
open Go.ChangeShapes Go.WideShapes Go.ChangeAt Go.RowKit
theorem arcsErr_ok (n : Int) (l : List PArc) : arcsErr n l = 0 ↔ ∀ a, a ∈ l → ArcOk n a := by
  induction l with
  | nil => simp [arcsErr]
  | cons a l ih =>
    simp only [arcsErr, List.forall_mem_cons, ← ih]
    unfold ArcOk stateB symbolB
    by_cases h1 : (0 ≤ a.fr ∧ a.fr < n) <;> by_cases h2 : (0 ≤ a.tgt ∧ a.tgt < n) <;> by_cases h3 : (0 ≤ a.inp ∧ a.inp ≤ 1099511627776) <;> by_cases h4 : (0 ≤ a.out ∧ a.out ≤ 1099511627776) <;> simp [h1, h2, h3, h4]
theorem orderErr_ok (l : List Int) : orderErr l = 0 ↔ l.Pairwise (· < ·) := by
  induction l with
  | nil => simp [orderErr]
  | cons x l ih =>
    cases l with
    | nil => simp [orderErr]
    | cons y l =>
      rw [orderErr, List.pairwise_cons]
      by_cases h : y ≤ x
      · rw [if_pos h]
        refine ⟨fun h => by omega, fun h' => ?_⟩
        have := h'.1 y (by simp)
        omega
      · rw [if_neg h, ih]
        refine ⟨fun h' => ⟨?_, h'⟩, fun h' => h'.2⟩
        intro z hz
        rcases List.mem_cons.1 hz with rfl | hz
        · omega
        · have := (List.pairwise_cons.1 h').1 z hz; omega
theorem finalErr_ok (n : Int) (l : List Int) : finalErr n l = 0 ↔ ∀ q, q ∈ l → 0 ≤ q ∧ q < n := by
  induction l with
  | nil => simp [finalErr]
  | cons a l ih =>
    simp only [finalErr, List.forall_mem_cons, ← ih, stateB]
    by_cases h1 : (0 ≤ a ∧ a < n) <;> simp [h1]
theorem orderErr_cases (l : List Int) : orderErr l = 0 ∨ orderErr l = 10 := by
  induction l with
  | nil => simp [orderErr]
  | cons x l ih =>
    cases l with
    | nil => simp [orderErr]
    | cons y l => rw [orderErr]; split
                  · exact .inr rfl
                  · exact ih
theorem chk_ok (F : PFst) : chk F = 0 ↔ Good F := by
  unfold chk
  by_cases h1 : F.states < 1 ∨ 4096 < F.states
  · rw [if_pos h1]
    refine ⟨fun h => by omega, fun h => ?_⟩
    have := h.s1; have := h.s2; omega
  rw [if_neg h1]
  by_cases h2 : 262144 < F.arcs.length
  · rw [if_pos h2]
    refine ⟨fun h => by omega, fun h => ?_⟩
    have := h.len; omega
  rw [if_neg h2]
  by_cases h3 : arcsErr F.states F.arcs ≠ 0
  · rw [if_pos h3]
    exact ⟨fun h => absurd h h3, fun h => absurd ((arcsErr_ok _ _).2 h.arc) h3⟩
  rw [if_neg h3]
  have h3' : arcsErr F.states F.arcs = 0 := by simpa using h3
  by_cases h4 : orderErr F.final ≠ 0
  · rw [if_pos h4]
    exact ⟨fun h => by omega, fun h => absurd ((orderErr_ok _).2 h.ord) h4⟩
  rw [if_neg h4]
  have h4' : orderErr F.final = 0 := by simpa using h4
  exact ⟨fun h => ⟨by omega, by omega, by omega, (arcsErr_ok _ _).1 h3', (orderErr_ok _).1 h4', (finalErr_ok _ _).1 h⟩, fun h => (finalErr_ok _ _).2 h.fin⟩
theorem isB_plain {I : List PPh} {R : PRule} (hR : RGood I R) {l : List Int} (h : listB I l = true) (L : List St) (hc : CompOk I R L) (hI : I.length ≤ 60) (ys : List Int) : accB (trimF (compF I R L)) l ys = sameB ys (applyF I R l) := by
  rw [trim_acc (comp_good hc hI hR), Bool.eq_iff_iff, sameB_iff]
  exact comp_acc hc hR (listB_iff.1 h).1
theorem rdF_form {w : World} {v : Value} {F : PFst} (h : RdF w v F) : ∃ (A : Option Addr) (n c : Nat) (B : Option Addr) (k d : Nat), v = .agg #[.int .i64 F.states, .slice A n c, .slice B k d] := by
  obtain ⟨va, vf, rfl, h1, h2⟩ := h
  obtain ⟨A, n, c, rfl, _⟩ := h1.op
  obtain ⟨B, k, d, rfl, _⟩ := h2.op
  exact ⟨A, n, c, B, k, d, rfl⟩
theorem applyF_len2 (I : List PPh) (R : PRule) {l : List Int} {n : Nat} (h : l.length ≤ n) : (applyF I R l).length ≤ n := Nat.le_trans (applyF_len I R l) h
set_option maxHeartbeats 16000000 in
set_option maxRecDepth 100000 in
theorem compiles_walk (v vr vx vy : Value) (I : List PPh) (R : PRule) (xs ys : List Int) (w : World) (hv : RdV w v I) (hr : RdR w vr R) (hx : RdI w vx xs) (hy : RdI w vy ys) :
    Calls Try.prog 6 #[v, vr, .agg #[vx, vy]] w fun e w' => e = .returned (.bool true) ∧ Below w.heap.size w w' := by
  have HVX := Lib.hid hx
  have HVY := Lib.hid hy
  obtain ⟨Ax, nx, cx, rfl, _, _, HNX, _⟩ := hx.op
  obtain ⟨Ay, ny, cy, rfl, _, _, HNY, _⟩ := hy.op
  clear hx hy
  obtain ⟨u, rfl, hp⟩ := id hv
  obtain ⟨A0, n0, c0, rfl, _, _, _, _⟩ := hp.op
  obtain ⟨vf, vt, vl, vg, rfl, hf, ht, hl, hg⟩ := id hr
  obtain ⟨A1, n1, c1, rfl, _, _, HN1, HR1⟩ := hf.op
  obtain ⟨A2, n2, c2, rfl, _, _, HN2, HR2⟩ := ht.op
  obtain ⟨A3, n3, c3, rfl, _, _, HN3, _⟩ := hl.op
  obtain ⟨A4, n4, c4, rfl, _, _, HN4, _⟩ := hg.op
  have HV := Lib.hid hv
  have HRR := Lib.hid hr
  have HF := Lib.hid hf
  have HT := Lib.hid ht
  clear hp hf ht hl hg hv hr
  obtain ⟨beg, hbeg⟩ : ∃ x, R.beg = x := ⟨_, rfl⟩
  obtain ⟨fin, hfin⟩ : ∃ x, R.fin = x := ⟨_, rfl⟩
  rw [hbeg, hfin] at HRR ⊢
  clear hbeg hfin
  go_enter Try.func6, Try.ntmps6
  go_upto_region 1 with (fail)
  generalize hW : World.alloc (World.alloc (World.alloc w _) _) _ = W
  have HBW : Hid (Below w.heap.size w W) := by rw [← hW]; exact bchain (bchain (al_below _ _) (al_below _ _)) (al_below _ _)
  have HP : Hid (VBlk W w.heap.size (.slice A0 n0 c0)) := by rw [← hW]; exact VBlk.below (VBlk.below (heap_alloc_new w _) (al_below _ _)) (al_below _ _)
  have HQ : Hid (RBlk W (w.heap.size + 1) (.slice A1 n1 c1) (.slice A2 n2 c2) (.slice A3 n3 c3) (.slice A4 n4 c4) beg fin) := by
    have h := heap_alloc_new (w.alloc (.cells #[.slice A0 n0 c0] 24)) (.cells #[.slice A1 n1 c1, .slice A2 n2 c2, .slice A3 n3 c3, .slice A4 n4 c4, .bool beg, .bool fin] 28)
    rw [World.size_alloc] at h
    rw [← hW]; exact RBlk.below h (al_below _ _)
  have HZ3 : Hid (W.heap[w.heap.size + 1 + 1]? = some (.cells #[.slice Ax nx cx, .slice Ay ny cy] 45 (0, 0))) := by
    have h := heap_alloc_new ((w.alloc (.cells #[.slice A0 n0 c0] 24)).alloc (.cells #[.slice A1 n1 c1, .slice A2 n2 c2, .slice A3 n3 c3, .slice A4 n4 c4, .bool beg, .bool fin] 28)) (.cells #[.slice Ax nx cx, .slice Ay ny cy] 45)
    rw [World.size_alloc, World.size_alloc] at h
    rw [← hW]; exact h
  clear hW
  have y0 := HP.out.cell
  have y1 := HP.out.lt
  go_wp2_with fail
  clear y0 y1
  refine (sound_any _ I _ (HV.out.below HBW.out)).mono ?_
  rintro e w1 ⟨⟨b, rfl, hb60⟩, hb1⟩
  have HB1 := Lib.hid (bchain HBW.out hb1)
  have HP1 := Lib.hid (HP.out.below hb1)
  have HQ1 := Lib.hid (HQ.out.below hb1)
  have HT1 := Lib.hid (two_below HZ3.out hb1)
  clear hb1 HP HQ HBW HZ3
  cases b
  · skip
    go_wp2_with fail
    refine (awake_any _).mono ?_
    rintro e wz ⟨rfl, hbz⟩
    have HBZ := Lib.hid (bchain (HB1).out hbz)
    clear hbz
    go_wp2_with fail
    go_ret
    exact ⟨rfl, HBZ.out⟩
  have H60 := Lib.hid (hb60 rfl)
  clear hb60
  obtain ⟨z0, z1, z2, z3, z4, z5⟩ := HQ1.out.cells
  have zl := HQ1.out.lt
  obtain ⟨t0, t1⟩ := two_cells HT1.out
  have tl := (Array.getElem?_eq_some_iff.1 HT1.out).1
  by_cases h1 : 100 < n1
  · have d1 : decide ((100 : Int) < (n1 : Int)) = true := by simp; omega
    have d1' : decide (100 < n1) = true := by simp; omega
    go_wp2_with fail
    refine (awake_any _).mono ?_
    rintro e wz ⟨rfl, hbz⟩
    have HBZ := Lib.hid (bchain (HB1).out hbz)
    clear hbz
    go_wp2_with fail
    go_ret
    exact ⟨rfl, HBZ.out⟩
  have d1 : decide ((100 : Int) < (n1 : Int)) = false := by simp; omega
  have d1' : decide (100 < n1) = false := by simp; omega
  by_cases h2 : 100 < n2
  · have d2 : decide ((100 : Int) < (n2 : Int)) = true := by simp; omega
    have d2' : decide (100 < n2) = true := by simp; omega
    go_wp2_with fail
    refine (awake_any _).mono ?_
    rintro e wz ⟨rfl, hbz⟩
    have HBZ := Lib.hid (bchain (HB1).out hbz)
    clear hbz
    go_wp2_with fail
    go_ret
    exact ⟨rfl, HBZ.out⟩
  have d2 : decide ((100 : Int) < (n2 : Int)) = false := by simp; omega
  have d2' : decide (100 < n2) = false := by simp; omega
  by_cases h3 : 100 < n3
  · have d3 : decide ((100 : Int) < (n3 : Int)) = true := by simp; omega
    have d3' : decide (100 < n3) = true := by simp; omega
    go_wp2_with fail
    refine (awake_any _).mono ?_
    rintro e wz ⟨rfl, hbz⟩
    have HBZ := Lib.hid (bchain (HB1).out hbz)
    clear hbz
    go_wp2_with fail
    go_ret
    exact ⟨rfl, HBZ.out⟩
  have d3 : decide ((100 : Int) < (n3 : Int)) = false := by simp; omega
  have d3' : decide (100 < n3) = false := by simp; omega
  by_cases h4 : 100 < n4
  · have d4 : decide ((100 : Int) < (n4 : Int)) = true := by simp; omega
    have d4' : decide (100 < n4) = true := by simp; omega
    go_wp2_with fail
    refine (awake_any _).mono ?_
    rintro e wz ⟨rfl, hbz⟩
    have HBZ := Lib.hid (bchain (HB1).out hbz)
    clear hbz
    go_wp2_with fail
    go_ret
    exact ⟨rfl, HBZ.out⟩
  have d4 : decide ((100 : Int) < (n4 : Int)) = false := by simp; omega
  have d4' : decide (100 < n4) = false := by simp; omega
  by_cases h5 : 8 < nx
  · have d5 : decide ((8 : Int) < (nx : Int)) = true := by simp; omega
    have d5' : decide (8 < nx) = true := by simp; omega
    go_wp2_with fail
    refine (awake_any _).mono ?_
    rintro e wz ⟨rfl, hbz⟩
    have HBZ := Lib.hid (bchain (HB1).out hbz)
    clear hbz
    go_wp2_with fail
    go_ret
    exact ⟨rfl, HBZ.out⟩
  have d5 : decide ((8 : Int) < (nx : Int)) = false := by simp; omega
  have d5' : decide (8 < nx) = false := by simp; omega
  by_cases h6 : 8 < ny
  · have d6 : decide ((8 : Int) < (ny : Int)) = true := by simp; omega
    have d6' : decide (8 < ny) = true := by simp; omega
    go_wp2_with fail
    refine (awake_any _).mono ?_
    rintro e wz ⟨rfl, hbz⟩
    have HBZ := Lib.hid (bchain (HB1).out hbz)
    clear hbz
    go_wp2_with fail
    go_ret
    exact ⟨rfl, HBZ.out⟩
  have d6 : decide ((8 : Int) < (ny : Int)) = false := by simp; omega
  have d6' : decide (8 < ny) = false := by simp; omega
  have HFL : Hid (R.fr.length ≤ 100000) := by rw [Hid, HN1.out]; omega
  have HX8 : Hid (xs.length ≤ 8) := by rw [Hid, HNX.out]; omega
  have HY8 : Hid (ys.length ≤ 8) := by rw [Hid, HNY.out]; omega
  clear h1 h2 h3 h4 h5 h6
  have y0 := HP1.out.cell
  have y1 := HP1.out.lt
  go_wp2_with fail
  clear y0 y1 z0 z1 z2 z3 z4 z5 zl t0 t1 tl d1 d2 d3 d4 d5 d6 d1' d2' d3' d4' d5' d6'
  refine (compile_any _ _ I R w1 (HV.out.below HB1.out) (HRR.out.below HB1.out) H60.out HFL.out).mono ?_
  rintro e w2 ⟨hq, hb2⟩
  have HX12 := Lib.hid hb2
  have HB2 := Lib.hid (bchain HB1.out hb2)
  clear hb2
  obtain ⟨ck, hck⟩ : ∃ ck, chkR I R = ck := ⟨_, rfl⟩
  have HCK := Lib.hid hck
  rw [hck] at hq
  clear hck
  have dck : (ck != ck) = false := by simp
  rcases hq with ⟨hc, rfl⟩ | ⟨rfl, vF, L, rfl, hrf, hco⟩
  · have dc0 : (ck != 0) = true := by simpa using hc
    clear hc
    go_upto_region 4 with (fail)
    obtain ⟨b7, hb7⟩ : ∃ b7, w2.heap.size = b7 := ⟨_, rfl⟩
    generalize hW3 : World.alloc w2 _ = w3
    have hb3 : Below w2.heap.size w2 w3 := by rw [← hW3]; exact al_below _ _
    have HF3 : Hid (FBlk w3 b7 (.int .i64 0) (.slice none 0 0) (.slice none 0 0)) := by rw [← hW3, ← hb7]; exact heap_alloc_new w2 _
    have HX3 := Lib.hid (bchain HX12.out hb3)
    have HX23 := Lib.hid hb3
    have HB3 := Lib.hid (bchain HB2.out hb3)
    rw [hb7]
    clear hW3 hb7 hb3
    have y0 := (HP1.out.below HX3.out).cell
    have y1 := (HP1.out.below HX3.out).lt
    obtain ⟨z0, z1, z2, z3, z4, z5⟩ := (HQ1.out.below HX3.out).cells
    have zl := (HQ1.out.below HX3.out).lt
    go_wp2_with fail
    clear y0 y1 z0 z1 z2 z3 z4 z5 zl
    refine (rchkR_any _ _ I R _ (HV.out.below HB3.out) (HRR.out.below HB3.out) (Nat.le_trans H60.out (by decide))).mono ?_
    rintro e w4 ⟨rfl, hb4⟩
    rw [HCK.out]
    have HB4 := Lib.hid (bchain HB3.out hb4)
    obtain ⟨f0, f1, f2, _, _, _⟩ := (HF3.out.below hb4).facts
    have fl := (HF3.out.below hb4).lt
    clear hb4
    go_wp2_with fail
    refine (awake_any _).mono ?_
    rintro e wz ⟨rfl, hbz⟩
    have HBZ := Lib.hid (bchain (HB4).out hbz)
    clear hbz
    go_wp2_with fail
    go_ret
    exact ⟨rfl, HBZ.out⟩
  · have HRG : Hid (RGood I R) := rgood_of HCK.out
    obtain ⟨Aa, na, ca, Af, nf, cf, rfl⟩ := rdF_form hrf
    have HRF2 := Lib.hid hrf
    obtain ⟨Fs, hFs⟩ : ∃ Fs, (trimF (compF I R L)).states = Fs := ⟨_, rfl⟩
    rw [hFs] at HRF2 ⊢
    have HGT : Hid (Good (trimF (compF I R L))) := trim_good (comp_good hco H60.out HRG.out)
    have HCO := Lib.hid hco
    clear hrf hFs hco
    go_upto_region 4 with (fail)
    obtain ⟨b7, hb7⟩ : ∃ b7, w2.heap.size = b7 := ⟨_, rfl⟩
    generalize hW3 : World.alloc w2 _ = w3
    have hb3 : Below w2.heap.size w2 w3 := by rw [← hW3]; exact al_below _ _
    have HF3 : Hid (FBlk w3 b7 (.int .i64 Fs) (.slice Aa na ca) (.slice Af nf cf)) := by rw [← hW3, ← hb7]; exact heap_alloc_new w2 _
    have HX3 := Lib.hid (bchain HX12.out hb3)
    have HX23 := Lib.hid hb3
    have HB3 := Lib.hid (bchain HB2.out hb3)
    rw [hb7]
    clear hW3 hb7 hb3
    have y0 := (HP1.out.below HX3.out).cell
    have y1 := (HP1.out.below HX3.out).lt
    obtain ⟨z0, z1, z2, z3, z4, z5⟩ := (HQ1.out.below HX3.out).cells
    have zl := (HQ1.out.below HX3.out).lt
    go_wp2_with fail
    clear y0 y1 z0 z1 z2 z3 z4 z5 zl
    refine (rchkR_any _ _ I R _ (HV.out.below HB3.out) (HRR.out.below HB3.out) (Nat.le_trans H60.out (by decide))).mono ?_
    rintro e w4 ⟨rfl, hb4⟩
    rw [HCK.out]
    have HB4 := Lib.hid (bchain HB3.out hb4)
    have HX4 := Lib.hid (bchain HX3.out hb4)
    have HX24 := Lib.hid (bchain HX23.out hb4)
    have HF4 := Lib.hid (HF3.out.below hb4)
    obtain ⟨f0, f1, f2, _, _, _⟩ := HF4.out.facts
    have fl := HF4.out.lt
    clear hb4 dck
    go_wp2_with fail
    clear f0 f1 f2 fl
    refine (check_any _ (trimF (compF I R L)) w4 (HRF2.out.below HX24.out)).mono ?_
    rintro e w5 ⟨rfl, hb5⟩
    rw [(chk_ok _).2 HGT.out]
    have HB5 := Lib.hid (bchain HB4.out hb5)
    have HX5 := Lib.hid (bchain HX4.out hb5)
    have HX25 := Lib.hid (bchain HX24.out hb5)
    have HF5 := Lib.hid (HF4.out.below hb5)
    clear hb5 HF4 HF3
    have y0 := (HP1.out.below HX5.out).cell
    have y1 := (HP1.out.below HX5.out).lt
    obtain ⟨t0, t1⟩ := two_cells (two_below HT1.out HX5.out)
    have tl := (Array.getElem?_eq_some_iff.1 (two_below HT1.out HX5.out)).1
    go_wp2_with fail
    clear y0 y1 t0 t1 tl
    refine (rlist_any _ _ I xs w5 (HV.out.below HB5.out) (HVX.out.below HB5.out)).mono ?_
    rintro e w6 ⟨rfl, hb6⟩
    have HB6 := Lib.hid (bchain HB5.out hb6)
    have HX6 := Lib.hid (bchain HX5.out hb6)
    have HX26 := Lib.hid (bchain HX25.out hb6)
    have HF6 := Lib.hid (HF5.out.below hb6)
    clear hb6 HF5
    cases hlb : listB I xs
    · clear hlb
      go_wp2_with fail
      refine (awake_any _).mono ?_
      rintro e wz ⟨rfl, hbz⟩
      have HBZ := Lib.hid (bchain (HB6).out hbz)
      clear hbz
      go_wp2_with fail
      go_ret
      exact ⟨rfl, HBZ.out⟩
    have HLB := Lib.hid hlb
    have HLN := Lib.hid (list_len hlb)
    have HNZ := Lib.hid (list_nz hlb)
    clear hlb
    have y0 := (HP1.out.below HX6.out).cell
    have y1 := (HP1.out.below HX6.out).lt
    obtain ⟨z0, z1, z2, z3, z4, z5⟩ := (HQ1.out.below HX6.out).cells
    have zl := (HQ1.out.below HX6.out).lt
    obtain ⟨t0, t1⟩ := two_cells (two_below HT1.out HX6.out)
    have tl := (Array.getElem?_eq_some_iff.1 (two_below HT1.out HX6.out)).1
    go_wp2_with fail
    clear y0 y1 z0 z1 z2 z3 z4 z5 zl t0 t1 tl
    refine (rapply_any _ _ _ I R xs w6 (HV.out.below HB6.out) (HRR.out.below HB6.out) (HVX.out.below HB6.out) HRG.out.ok HLN.out HNZ.out HRG.out.nd).mono ?_
    rintro e w7 ⟨⟨v9, rfl, ho⟩, hb7⟩
    obtain ⟨A9, n9, c9, rfl⟩ := own_sliceN ho
    have HO7 := Lib.hid ho.rd
    have HB7 := Lib.hid (bchain HB6.out hb7)
    have HX7 := Lib.hid (bchain HX6.out hb7)
    have HX27 := Lib.hid (bchain HX26.out hb7)
    have HF7 := Lib.hid (HF6.out.below hb7)
    clear ho hb7 HF6
    have HACC := Lib.hid (fun ys => isB_plain (ys := ys) HRG.out HLB.out L HCO.out H60.out)
    have HW8 : Hid ((applyF I R xs).length ≤ 1000) := Nat.le_trans (applyF_len I R xs) (Nat.le_trans HX8.out (by decide))
    have HX81 : Hid (xs.length ≤ 1000) := Nat.le_trans HX8.out (by decide)
    have HY81 : Hid (ys.length ≤ 1000) := Nat.le_trans HY8.out (by decide)
    obtain ⟨bb, hbb⟩ : ∃ bb, sameB ys (applyF I R xs) = bb := ⟨_, rfl⟩
    have HBB := Lib.hid hbb
    clear hbb
    go_upto_region 13 with (fail)
    refine wp_region_mix 15 [0, 1, 2, 3, 4, 5, 6, 7, 8, 9, 10, 11, 12, 13, 14] [] [(true, 0), (true, 1), (true, 2), (true, 3), (false, 4), (true, 5), (true, 6), (true, 7), (true, 8), (true, 9), (true, 10), (true, 12), (true, 13), (true, 14), (false, 11), (false, 15), (false, 16), (false, 17), (false, 18), (false, 19), (false, 20), (false, 21)] (fun w' => Below w7.heap.size w7 w') (by kernel_rfl) (by kernel_rfl) ?_
    rintro D hD
    have HSD : Hid (Below w7.heap.size w7 D) := by rw [hD]; exact (Below.refl _ _).drew
    clear hD
    refine ⟨HSD.out, ?_⟩
    have HS := Lib.hid (fun (w' : World) (h : Below w7.heap.size w7 w') => And.intro (HF7.out.below h).facts (two_cells (two_below HT1.out (bchain HX7.out h))))
    iterate 4 (refine wpMix_q (v := ?_) rfl rfl (fun w' hS => ?_) ?_; rotate_left; (focus ((try obtain ⟨⟨f0, f1, f2, _⟩, t0, t1⟩ := HS.out _ (hS rfl)); clear hS; go_simp; try with_reducible rfl; done)); (try simp only [Act.put, List.setIfInBounds_toArray, List.set_cons_zero, List.set_cons_succ]))
    refine wpMix_e rfl rfl (fun K hK => ?_)
    go_simp
    refine (accepts_any _ _ _ (trimF (compF I R L)) xs (applyF I R xs) _ (HRF2.out.below (bchain HX27.out HSD.out)) (HVX.out.below (bchain HB7.out HSD.out)) (HO7.out.below HSD.out) HGT.out.right HGT.out.s2 HX81.out HW8.out).mono ?_
    rintro e Y1 ⟨rfl, hb⟩
    refine hK.out _ _ (fun _ => bchain HSD.out hb) ?_
    clear hK K
    (try simp only [Act.put, List.setIfInBounds_toArray, List.set_cons_zero, List.set_cons_succ])
    have HSY1 := Lib.hid (bchain HSD.out hb)
    clear hb
    rw [HACC.out, sameB_self]
    iterate 9 (refine wpMix_q (v := ?_) rfl rfl (fun w' hS => ?_) ?_; rotate_left; (focus ((try obtain ⟨⟨f0, f1, f2, _⟩, t0, t1⟩ := HS.out _ (hS rfl)); clear hS; go_simp; try with_reducible rfl; done)); (try simp only [Act.put, List.setIfInBounds_toArray, List.set_cons_zero, List.set_cons_succ]))
    clear HS
    refine wpMix_e rfl rfl (fun K hK => ?_)
    go_simp
    refine (accepts_any _ _ _ (trimF (compF I R L)) xs ys _ (HRF2.out.below (bchain HX27.out HSY1.out)) (HVX.out.below (bchain HB7.out HSY1.out)) (HVY.out.below (bchain HB7.out HSY1.out)) HGT.out.right HGT.out.s2 HX81.out HY81.out).mono ?_
    rintro e Y2 ⟨rfl, hb⟩
    refine hK.out _ _ (fun _ => bchain HSY1.out hb) ?_
    clear hK K
    (try simp only [Act.put, List.setIfInBounds_toArray, List.set_cons_zero, List.set_cons_succ])
    have HSY2 := Lib.hid (bchain HSY1.out hb)
    clear hb
    rw [HACC.out, HBB.out]
    refine wpMix_e rfl rfl (fun K hK => ?_)
    go_simp
    refine (rsame_b _ _ ys (applyF I R xs) _ (HVY.out.below (bchain HB7.out HSY2.out)) (HO7.out.below HSY2.out)).mono ?_
    rintro e Y3 ⟨rfl, hb⟩
    refine hK.out _ _ (fun _ => bchain HSY2.out hb) ?_
    clear hK K
    (try simp only [Act.put, List.setIfInBounds_toArray, List.set_cons_zero, List.set_cons_succ])
    have HSY3 := Lib.hid (bchain HSY2.out hb)
    clear hb
    rw [HBB.out]
    have dbb : (bb == bb) = true := by simp
    iterate 3 (refine wpMix_e rfl rfl (fun K hK => ?_); go_simp; refine hK.out _ _ (fun h => absurd h (by decide)) ?_; clear hK K; (try simp only [Act.put, List.setIfInBounds_toArray, List.set_cons_zero, List.set_cons_succ]))
    clear dbb
    refine wpMix_e rfl rfl (fun K hK => ?_)
    go_simp
    refine (awake_any _).mono ?_
    rintro e Y4 ⟨rfl, hb⟩
    refine hK.out _ _ (fun _ => bchain HSY3.out hb) ?_
    clear hK K
    (try simp only [Act.put, List.setIfInBounds_toArray, List.set_cons_zero, List.set_cons_succ])
    have HSY4 := Lib.hid (bchain HSY3.out hb)
    clear hb
    iterate 2 (refine wpMix_e rfl rfl (fun K hK => ?_); go_simp; refine hK.out _ _ (fun h => absurd h (by decide)) ?_; clear hK K; (try simp only [Act.put, List.setIfInBounds_toArray, List.set_cons_zero, List.set_cons_succ]))
    refine wpMix_nil ?_
    refine NoPanic.normal ?_
    go_wp2_with fail
    go_ret
    exact ⟨rfl, bchain HB7.out HSY4.out⟩
end Go.Proofs.Ytdijlakeonionaa
