/-
  Compile.
-/
import Derived.Test.YtdijlakeonionaaQ23
import Derived.Test.YtdijlakeonionaaQ21
namespace Go.Proofs.Ytdijlakeonionaa
open Go.ChangeShapes Go.WideShapes Go.ChangeAt Go.RowKit
theorem own_newSt (w : World) (s : St) (g : Nat) (hg : w.heap.size = g) : OwnSt (w.alloc (.cells (stC s).toArray 85)) g (.slice (some ⟨g, 0, none⟩) 1 1) [s] := by
  subst hg
  exact ⟨rfl, .inr ⟨w.heap.size, 1, _, rfl, Nat.le_refl _, heap_alloc_new w _, Nat.le_refl _, by simp [maxLen], rfl, rfl⟩⟩
theorem RdMv.at_ {w : World} {A : Option Addr} {n c : Nat} {l : List (Int × St)} (h : RdMv w (.slice A n c) l) {k : Nat} (hk : k < n) : MvAt w A l k := by
  obtain ⟨A', n', c', he, _, _, _, hr⟩ := h.op
  cases he
  exact hr.out k hk
theorem RdMv.n {w : World} {A : Option Addr} {n c : Nat} {l : List (Int × St)} (h : RdMv w (.slice A n c) l) : l.length = n := by
  obtain ⟨A', n', c', he, _, _, hn, _⟩ := h.op
  cases he
  exact hn.out
theorem OwnSt.at_ {w : World} {base : Nat} {A : Option Addr} {n c : Nat} {l : List St} (h : OwnSt w base (.slice A n c) l) {k : Nat} (hk : k < n) : StAt6 w A l k := by
  obtain ⟨A', n', c', he, _, _, _, hr⟩ := h.rd.op
  cases he
  exact hr.out k hk
theorem own_n {w : World} {base size n : Nat} {e : TypeId} {A : Option Addr} {m c : Nat} {xs : List Value} (h : w.ownsRow base e size (.slice A m c) n xs) : m = n := by
  rcases h.2 with ⟨h1, h2⟩ | ⟨g, cap, cur, h1, _⟩
  · cases h1; exact h2.symm
  · cases h1; rfl
theorem fnum_yes {L : List St} {s : St} (h : s ∈ L) : fnum L s = some (posF L s : Int) := if_pos h
theorem fnum_no {L : List St} {s : St} (h : s ∉ L) : fnum L s = none := if_neg h
theorem posF_lt {L : List St} {s : St} (h : s ∈ L) : posF L s < L.length := (List.getElem?_eq_some_iff.1 (posF_at h)).1
theorem allSt_small : allSt.length < maxLen := by rw [allSt_len]; simp [maxLen]
theorem getD_drop {L : List St} {i : Nat} {s : St} {r : List St} (h : L.drop i = s :: r) : L.getD i St.zero = s := by
  rw [List.getD_eq_getElem?_getD, ← List.head?_drop, h]; rfl
/-- what Compile returns -/
def CmpQ (I : List PPh) (R : PRule) (ck : Int) (w : World) (e : Ending) : Prop :=
  (ck ≠ 0 ∧ e = .returned (.tuple #[.agg #[.int .i64 0, .slice none 0 0, .slice none 0 0], .int .i64 ck])) ∨ (ck = 0 ∧ ∃ v L, e = .returned (.tuple #[v, .int .i64 0]) ∧ RdF w v (trimF (compF I R L)) ∧ CompOk I R L)
set_option maxHeartbeats 16000000 in
set_option maxRecDepth 100000 in
theorem compile_any (v vr : Value) (I : List PPh) (R : PRule) (w : World) (hv : RdV w v I) (hr : RdR w vr R) (hI : I.length ≤ 60) (hfl : R.fr.length ≤ 100000) :
    Calls Try.prog 25 #[v, vr] w fun e w' => CmpQ I R (chkR I R) w' e ∧ Below w.heap.size w w' := by
  have HII := Lib.hid hI
  have HFLL := Lib.hid hfl
  clear hI hfl
  obtain ⟨u, rfl, hp⟩ := id hv
  obtain ⟨A0, n0, c0, rfl, _, _, _, _⟩ := hp.op
  obtain ⟨vf, vt, vl, vg, rfl, hf, ht, hl, hg⟩ := id hr
  obtain ⟨A1, n1, c1, rfl, _, _, HN1, HR1⟩ := hf.op
  obtain ⟨A2, n2, c2, rfl, _, _, HN2, HR2⟩ := ht.op
  obtain ⟨A3, n3, c3, rfl, _, _, HN3, _⟩ := hl.op
  obtain ⟨A4, n4, c4, rfl, _, _, HN4, _⟩ := hg.op
  have HV := Lib.hid hv
  have HRR := Lib.hid hr
  have HF := Lib.hid hf
  have HT := Lib.hid ht
  clear hp hf ht hl hg hv hr
  obtain ⟨beg, hbeg⟩ : ∃ x, R.beg = x := ⟨_, rfl⟩
  obtain ⟨fin, hfin⟩ : ∃ x, R.fin = x := ⟨_, rfl⟩
  rw [hbeg, hfin] at HRR ⊢
  clear hbeg hfin
  have HIN : Hid (I.length = n0) := by
    obtain ⟨u, he, hp⟩ := HV.out
    cases he
    obtain ⟨A, c, he2, _⟩ := hp
    cases he2
    rfl
  obtain ⟨ck, hck⟩ : ∃ ck, chkR I R = ck := ⟨_, rfl⟩
  have HCK := Lib.hid hck
  rw [hck]
  clear hck
  have HBF : Hid (R.beg = beg ∧ R.fin = fin) := by
    obtain ⟨vf, vt, vl, vg, he, _⟩ := HRR.out
    injection he with he
    simp only [Array.mk.injEq, List.cons.injEq, Value.bool.injEq] at he
    exact ⟨he.2.2.2.2.1.symm, he.2.2.2.2.2.1.symm⟩
  go_enter Try.func25, Try.ntmps25
  go_upto_region 1 with (fail)
  generalize hW0 : World.alloc (World.alloc w _) _ = W0
  have HB0 : Hid (Below w.heap.size w W0) := by rw [← hW0]; exact bchain (al_below _ _) (al_below _ _)
  have HP0 : Hid (VBlk W0 w.heap.size (.slice A0 n0 c0)) := by rw [← hW0]; exact VBlk.below (heap_alloc_new w _) (al_below _ _)
  have HQ0 : Hid (RBlk W0 (w.heap.size + 1) (.slice A1 n1 c1) (.slice A2 n2 c2) (.slice A3 n3 c3) (.slice A4 n4 c4) beg fin) := by
    have h := heap_alloc_new (w.alloc (.cells #[.slice A0 n0 c0] 24)) (.cells #[.slice A1 n1 c1, .slice A2 n2 c2, .slice A3 n3 c3, .slice A4 n4 c4, .bool beg, .bool fin] 28)
    rw [World.size_alloc] at h
    rw [← hW0]; exact h
  have hs0 : W0.heap.size = w.heap.size + 1 + 1 := by rw [← hW0, World.size_alloc, World.size_alloc]
  obtain ⟨br, hbr⟩ : ∃ br, w.heap.size + 1 + 1 = br := ⟨_, rfl⟩
  rw [hbr] at hs0 ⊢
  generalize hW : World.alloc W0 _ = W
  have HX0 : Hid (Below W0.heap.size W0 W) := by rw [← hW]; exact al_below _ _
  have HBW : Hid (Below w.heap.size w W) := bchain HB0.out HX0.out
  have HP : Hid (VBlk W w.heap.size (.slice A0 n0 c0)) := HP0.out.below HX0.out
  have HQ : Hid (RBlk W (w.heap.size + 1) (.slice A1 n1 c1) (.slice A2 n2 c2) (.slice A3 n3 c3) (.slice A4 n4 c4) beg fin) := HQ0.out.below HX0.out
  have HZ : Hid (FBlk W br (.int .i64 0) (.slice none 0 0) (.slice none 0 0)) := by rw [← hW, ← hs0]; exact heap_alloc_new W0 _
  have HBR0 : Hid (w.heap.size ≤ br) := by rw [Hid, ← hbr]; omega
  clear hW0 hs0 hbr hW HX0 HB0 HP0 HQ0
  have y0 := HP.out.cell
  have y1 := HP.out.lt
  obtain ⟨z0, z1, z2, z3, z4, z5⟩ := HQ.out.cells
  have zl := HQ.out.lt
  go_wp2_with fail
  clear y0 y1 z0 z1 z2 z3 z4 z5 zl
  refine (pchkR_any _ _ I R _ (HV.out.below HBW.out) (HRR.out.below HBW.out) HFLL.out).mono ?_
  rintro e w1 ⟨rfl, hb1⟩
  rw [HCK.out]
  have HB1 := Lib.hid (bchain HBW.out hb1)
  have HP1 := Lib.hid (HP.out.below hb1)
  have HQ1 := Lib.hid (HQ.out.below hb1)
  have HZ1 := Lib.hid (HZ.out.below hb1)
  clear hb1 HP HQ HZ HBW
  by_cases hc0 : ck = 0
  rotate_left
  · have d1 : (ck != 0) = true := by simpa using hc0
    obtain ⟨r0, r1, r2, f0, f1, f2⟩ := HZ1.out.facts
    have hrl := HZ1.out.lt
    go_wp2_with fail
    refine bodyPost_ret (v := .tuple #[.agg #[.int .i64 0, .slice none 0 0, .slice none 0 0], .int .i64 ck]) ?_ rfl ?_
    · simp [results, Try.results25, go_sem, r0, r1, r2]
    exact ⟨.inl ⟨hc0, rfl⟩, ((HB1.out.setCell (by exact HBR0.out) _).setCell (by exact HBR0.out) _).setCell (by exact HBR0.out) _⟩
  subst hc0
  have HRG : Hid (RGood I R) := rgood_of HCK.out
  have y0 := HP1.out.cell
  have y1 := HP1.out.lt
  obtain ⟨z0, z1, z2, z3, z4, z5⟩ := HQ1.out.cells
  have zl := HQ1.out.lt
  go_wp2_with fail
  clear y0 y1 z0 z1 z2 z3 z4 z5 zl
  have hmach := mach_any _ _ I R w1 (HV.out.below HB1.out) (HRR.out.below HB1.out)
  rw [HBF.out.1, HBF.out.2] at hmach
  refine hmach.mono ?_
  clear hmach
  rintro e w2 ⟨⟨m, rfl, hm⟩, hb2⟩
  have HM2 := Lib.hid hm
  have HB2 := Lib.hid (bchain HB1.out hb2)
  have HP2 := Lib.hid (HP1.out.below hb2)
  have HZ2 := Lib.hid (HZ1.out.below hb2)
  clear hm hb2 HP1 HQ1 HZ1 HB1
  simp only [mchV, mchC]
  go_upto_region 5 with (fail)
  obtain ⟨b7, hb7⟩ : ∃ b7, w2.heap.size = b7 := ⟨_, rfl⟩
  generalize hW4 : World.alloc w2 _ = W4
  have HX4 : Hid (Below w2.heap.size w2 W4) := by rw [← hW4]; exact al_below _ _
  have HMB : Hid (MBlk W4 b7 m beg fin) := by rw [← hW4, ← hb7]; exact heap_alloc_new w2 _
  have HB4 : Hid (Below w.heap.size w W4) := bchain HB2.out HX4.out
  have HP4 := Lib.hid (HP2.out.below HX4.out)
  have HZ4 := Lib.hid (HZ2.out.below HX4.out)
  have HM4 := Lib.hid (HM2.out.below HX4.out)
  rw [hb7]
  clear hW4 hb7 HX4 HP2 HZ2 HM2 HB2
  go_upto_region 6 with (fail)
  obtain ⟨bl, hbl⟩ : ∃ bl, W4.heap.size = bl := ⟨_, rfl⟩
  generalize hW5 : World.alloc W4 _ = W5
  have HX5 : Hid (Below W4.heap.size W4 W5) := by rw [← hW5]; exact al_below _ _
  have HL5 : Hid (OwnSt W5 W4.heap.size (.slice (some ⟨bl, 0, none⟩) 1 1) [St.zero]) := by rw [← hW5, ← hbl]; exact own_newSt W4 St.zero _ rfl
  rw [hbl]
  have hmm := @run_makeMap Try.prog
  obtain ⟨bm, hbm⟩ : ∃ bm, W5.heap.size = bm := ⟨_, rfl⟩
  have HM0 : Hid (OwnM NS (W5.alloc (.map #[] 0)) bm allSt (fun _ => none)) := OwnM.made NS W5 allSt bm hbm
  have hzin : St.zero ∈ allSt := mem_allSt StOk.zero
  have hin0 : NS.wfV 0 := inI0
  clear hW5 hbl
  go_upto_region 7 with (refine wpList_putM (S := NS) rfl (.tmp 29) (.tmp 30) (.const (.int .i64 0)) (.inr rfl) bm allSt (fun _ => none) St.zero 0 (by rw [← hbm]; rfl) rfl rfl HM0.out StOk.zero hin0 hzin allSt_small ?_; intro w6 hm6 hg6)
  have hb6 : Below W4.heap.size W4 w6 := (HX5.out.trans (al_below W5 (.map #[] 0) |>.mono HX5.out.size)).grown hg6 (Nat.le_trans HX5.out.size (by simp)) fun j hj => by cases hj; rw [← hbm]; exact HX5.out.size
  have HL6 : Hid (OwnSt w6 W4.heap.size (.slice (some ⟨bl, 0, none⟩) 1 1) [St.zero]) := own_of_map (own_below HL5.out (al_below W5 (.map #[] 0))) HM0.out hg6
  have HM6 : Hid (OwnM NS w6 bm allSt (fnum [St.zero])) := by
    have h := fnum_add (L := []) (s := St.zero) (by simp)
    rw [show fnum [] = fun _ => none from rfl] at h
    rw [Hid, ← List.nil_append [St.zero], ← h]
    exact hm6
  have HBM : Hid (W4.heap.size ≤ bm) := by rw [Hid, ← hbm]; exact HX5.out.size
  have HB6 := Lib.hid hb6
  clear hm6 hg6 hb6 hmm hbm HM0 hzin hin0 HX5 HL5
  go_upto_region 8 with (fail)
  obtain ⟨bt, hbt⟩ : ∃ bt, w6.heap.size = bt := ⟨_, rfl⟩
  generalize hW8 : World.alloc w6 _ = W8
  have HX8 : Below w6.heap.size w6 W8 := by rw [← hW8]; exact al_below _ _
  have hf8 : FBlk W8 bt (.int .i64 0) (.slice none 0 0) (.slice none 0 0) := by rw [← hW8, ← hbt]; exact heap_alloc_new w6 _
  have HC8 : Hid (CW W4 W8 bm bt (.slice (some ⟨bl, 0, none⟩) 1 1) (.slice none 0 0) (.slice none 0 0) [St.zero] [] []) :=
    ⟨own_below HL6.out HX8, HM6.out.below HX8, hf8, World.ownsRow_nil _ _ _ _, World.ownsRow_nil _ _ _ _, HB6.out.trans (HX8.mono HB6.out.size), ⟨HBM.out, by rw [← hbt]; exact HB6.out.size⟩, CI.start⟩
  rw [hbt]
  clear hW8 hbt HX8 hf8 HL6 HM6 HB6 HBM
  go_wp2_with fail
  go_loopw [8, 11] (fun v8 v11 wr => ∃ (i : Nat) (L : List St) (A : Option Addr) (n c : Nat) (va vf : Value), i ≤ n ∧ n ≤ 864 ∧ v11 = .int .i64 (i : Int) ∧ v8 = .slice A n c ∧ Hid (L.length = n) ∧ Hid (CW W4 wr bm bt (.slice A n c) va vf L (tripT I R L i) (finT R L i))) (fun _ v11 _ => 865 - (intOf v11).toNat)
  case atStart => exact ⟨0, [St.zero], _, _, _, _, _, Nat.zero_le _, by omega, rfl, rfl, rfl, (show CW W4 W8 bm bt _ _ _ [St.zero] (tripT I R [St.zero] 0) (finT R [St.zero] 0) from HC8.out)⟩
  case round =>
    obtain ⟨i, L, A, n, c, va, vf, hi, hn8, rfl, rfl, HLN, HC⟩ := hrel
    clear HC8
    have HBX : Hid (Below w.heap.size w wr) := HB4.out.trans (HC.out.b.mono HB4.out.size)
    have hi0 : (0 : Int) ≤ (i : Int) := by omega
    by_cases hlt : i < n
    rotate_left
    · obtain rfl : n = i := by omega
      have HCO : Hid (CompOk I R L) := by have h := HC.out.c; rw [← HLN.out] at h; exact h
      have HCF : Hid (compF I R L = ⟨(n : Int), (tripT I R L n).map (arcT L), finT R L n⟩) := by rw [Hid, compF, HLN.out]
      obtain ⟨Aa, na, ca, rfl⟩ := own_sliceN HC.out.a
      obtain ⟨Af, nf, cf, rfl⟩ := own_sliceN HC.out.e
      obtain ⟨t0, t1, t2, tf0, tf1, tf2⟩ := HC.out.f.facts
      have htl := HC.out.f.lt
      go_wp2_with fail
      clear t0 t1 t2 tf0 tf1 tf2 htl
      generalize hX : World.setCell wr _ _ = X
      have HBXX : Hid (Below w.heap.size w X) := by rw [← hX]; exact HBX.out.setCell (Nat.le_trans HB4.out.size HC.out.s.2) _
      have HRF : Hid (RdF X (.agg #[.int .i64 (n : Int), .slice Aa na ca, .slice Af nf cf]) (compF I R L)) := by
        rw [HCF.out, ← hX]
        exact ⟨_, _, rfl, Rd.own (own_setCell HC.out.a (row_ne_fblk HC.out.a HC.out.f (by decide)) _ _), Rd.own (own_setCell HC.out.e (row_ne_fblk HC.out.e HC.out.f (by decide)) _ _)⟩
      have HZX : Hid (FBlk X br (.int .i64 0) (.slice none 0 0) (.slice none 0 0)) := by
        have h1 : br < W4.heap.size := HZ4.out.lt
        rw [← hX]
        exact (Below.heap_setCell wr ⟨bt, 0, none⟩ _ br (by have := HC.out.s.2; simp only; omega)).trans ((HC.out.b.block br h1).trans HZ4.out)
      have HFL : Hid ((compF I R L).final.length ≤ 1000000) := Nat.le_trans (finT_len R L L.length) (by rw [HLN.out]; omega)
      have HFIN : Hid (FinOk (compF I R L)) := good_fin (comp_good HCO.out HII.out HRG.out)
      clear hX HC HCF
      refine (ftrim_any _ (compF I R L) X HRF.out HFIN.out HFL.out).mono ?_
      rintro e w9 ⟨⟨v9, rfl, va9, vf9, rfl, hoa, hof⟩, hb9⟩
      obtain ⟨A9, m9, c9, rfl⟩ := own_sliceN hoa
      obtain ⟨B9, k9, d9, rfl⟩ := own_sliceN hof
      have HOA := Lib.hid hoa
      have HOF := Lib.hid hof
      have HB9 := Lib.hid (bchain HBXX.out hb9)
      have HZ9 := Lib.hid (HZX.out.below hb9)
      obtain ⟨r0, r1, r2, rf0, rf1, rf2⟩ := HZ9.out.facts
      have hrl := HZ9.out.lt
      clear hoa hof hb9
      go_wp2_with fail
      refine bodyPost_ret (v := .tuple #[.agg #[.int .i64 (trimF (compF I R L)).states, .slice A9 m9 c9, .slice B9 k9 d9], .int .i64 0]) ?_ rfl ?_
      · simp [results, Try.results25, go_sem, r0, r1, r2]
      have hne1 := row_ne_fblk HOA.out HZ9.out (by decide)
      have hne2 := row_ne_fblk HOF.out HZ9.out (by decide)
      exact ⟨.inr ⟨rfl, _, L, rfl, OwnF.rd (base := X.heap.size) ⟨_, _, rfl, own_setCell (own_setCell (own_setCell HOA.out hne1 _ _) hne1 _ _) hne1 _ _, own_setCell (own_setCell (own_setCell HOF.out hne2 _ _) hne2 _ _) hne2 _ _⟩, HCO.out⟩,
        ((HB9.out.setCell (by exact HBR0.out) _).setCell (by exact HBR0.out) _).setCell (by exact HBR0.out) _⟩
    · have d1 : decide ((i : Int) < (n : Int)) = true := by simp; exact hlt
      go_wp2_with fail
      clear d1
      go_loopw [8, 12] (fun v8 v12 wx => ∃ (g : Nat) (Lg : List St) (Ag : Option Addr) (ng cg : Nat) (vag vfg : Value), g ≤ n0 ∧ ng ≤ 864 ∧ i < ng ∧ v12 = .int .i64 ((g : Int) + 1) ∧ v8 = .slice Ag ng cg ∧ Hid (Lg.length = ng) ∧ Hid (CW W4 wx bm bt (.slice Ag ng cg) vag vfg Lg (tripT I R Lg i ++ rowT I R Lg i g) (finT R Lg i))) (fun _ v12 _ => n0 + 1 - (intOf v12).toNat)
      case atStart => exact ⟨0, L, _, _, _, _, _, Nat.zero_le _, hn8, hlt, rfl, rfl, HLN.out, by rw [Hid, show rowT I R L i 0 = [] from rfl, List.append_nil]; exact HC.out⟩
      case round =>
        clear HC HLN HBX hi hn8 hlt
        obtain ⟨g, Lg, Ag, ng, cg, vag, vfg, hg, hn8, hlt, rfl, rfl, HLN, HC⟩ := hrel
        have HBX : Hid (Below w.heap.size w wr) := HB4.out.trans (HC.out.b.mono HB4.out.size)
        have y0 := (HP4.out.below HC.out.b).cell
        have y1 := (HP4.out.below HC.out.b).lt
        have hgg0 : (0 : Int) ≤ (g : Int) := by omega
        have HMW := Lib.hid (HM4.out.below HC.out.b)
        have HMBW := Lib.hid (HMB.out.below HC.out.b)
        obtain ⟨b, off, s, rfl, hsb, hsd, s0, s1, s2, s3, s4, s5⟩ := HC.out.l.at_ hlt
        have HSD0 := Lib.hid hsd.out
        have HSO : Hid (StOk s) := HC.out.c.ok s (List.mem_of_mem_drop (by rw [hsd.out]; exact List.mem_cons_self))
        have HS : Hid (∀ w' : World, Below wr.heap.size wr w' → (w'.cell? ⟨b7, 0, none⟩ = some (.slice m.i.A m.i.n m.i.c) ∧ w'.cell? ⟨b7, 1, none⟩ = some (.slice m.f.A m.f.n m.f.c) ∧ w'.cell? ⟨b7, 2, none⟩ = some (.slice m.t.A m.t.n m.t.c) ∧ w'.cell? ⟨b7, 3, none⟩ = some (.slice m.l.A m.l.n m.l.c) ∧ w'.cell? ⟨b7, 4, none⟩ = some (.slice m.r.A m.r.n m.r.c) ∧ w'.cell? ⟨b7, 5, none⟩ = some (.bool beg) ∧ w'.cell? ⟨b7, 6, none⟩ = some (.bool fin) ∧ w'.cell? ⟨b7, 7, none⟩ = some (.slice m.i.A m.i.n m.i.c) ∧ w'.cell? ⟨b7, 8, none⟩ = some (.slice m.l.A m.l.n m.l.c) ∧ w'.cell? ⟨b7, 9, none⟩ = some (.slice m.i.A m.i.n m.i.c) ∧ w'.cell? ⟨b7, 10, none⟩ = some (.slice m.r.A m.r.n m.r.c)) ∧
            w'.cell? ⟨b, off + i * 6, none⟩ = some (.int .i64 s.cnt) ∧ w'.cell? ⟨b, off + i * 6 + 1, none⟩ = some (.int .u8 s.near) ∧ w'.cell? ⟨b, off + i * 6 + 2, none⟩ = some (.int .u8 s.far) ∧ w'.cell? ⟨b, off + i * 6 + 3, none⟩ = some (.int .i8 s.o0) ∧ w'.cell? ⟨b, off + i * 6 + 4, none⟩ = some (.int .i8 s.o1) ∧ w'.cell? ⟨b, off + i * 6 + 5, none⟩ = some (.int .i8 s.o2)) := by
          intro w' h
          exact ⟨(HMBW.out.below h).cells, cell_keep hsb s0 h, cell_keep hsb s1 h, cell_keep hsb s2 h, cell_keep hsb s3 h, cell_keep hsb s4 h, cell_keep hsb s5 h⟩
        clear s0 s1 s2 s3 s4 s5 hsd hsb
        by_cases hgl : g < n0
        rotate_left
        · obtain rfl : n0 = g := by omega
          have d2 : decide ((n0 : Int) + 1 ≤ (n0 : Int)) = false := by simp; omega
          have d2' : decide (n0 + 1 ≤ n0) = false := by simp
          have d2'' : decide (n0 < n0) = false := by simp
          have HC2 : Hid (CW W4 wr bm bt (.slice (some ⟨b, off, none⟩) ng cg) vag vfg Lg (tripT I R Lg (i + 1)) (finT R Lg i)) := by rw [Hid, tripT_succ, HIN.out]; exact HC.out
          clear HC
          go_upto_region 24 with (fail)
          clear y0 y1 d2 d2' d2''
          refine wp_region_ord 5 [0, 1, 2, 3, 4] [] [0, 1, 2, 3, 4] [5] (fun w' => Below wr.heap.size wr w') (by kernel_rfl) (by kernel_rfl) ?_
          rintro Z hZ
          have HSZ : Hid (Below wr.heap.size wr Z) := by rw [hZ]; exact (Below.refl _ _).drew
          clear hZ
          refine ⟨HSZ.out, ?_⟩
          iterate 5 (refine wpHead_cons (v := ?_) rfl rfl (fun w' hS => ?_) ?_; rotate_left; (focus ((try obtain ⟨⟨p0, p1, p2, p3, p4, p5, p6, p7, p8, p9, p10⟩, q0, q1, q2, q3, q4, q5⟩ := HS.out _ (hS rfl)); clear hS; go_simp; try with_reducible rfl; done)); (try simp only [Act.put, List.setIfInBounds_toArray, List.set_cons_zero, List.set_cons_succ]))
          refine wpHead_nil ?_
          refine wpTail_cons rfl rfl (fun K hK => ?_)
          go_simp
          have hend := end_any m I R s Z (HMW.out.below HSZ.out)
          rw [HBF.out.1, HBF.out.2] at hend
          refine hend.mono ?_
          rintro e w1 ⟨rfl, hb1⟩
          refine hK.out _ _ (fun h => absurd h (by decide)) ?_
          clear hend hK K HS
          (try simp only [Act.put, List.setIfInBounds_toArray, List.set_cons_zero, List.set_cons_succ])
          refine wpTail_nil ?_
          refine NoPanic.normal ?_
          have HC3 : Hid (CW W4 w1 bm bt (.slice (some ⟨b, off, none⟩) ng cg) vag vfg Lg (tripT I R Lg (i + 1)) (finT R Lg i)) := (HC2.out.below HSZ.out).below hb1
          have HFS : Hid (finT R Lg (i + 1) = finT R Lg i ++ if endM R s then [(i : Int)] else []) := by rw [Hid, finT_succ, getD_drop HSD0.out]
          clear hb1 HC2 HSZ
          cases hen : endM R s
          · have HFS2 : Hid (finT R Lg (i + 1) = finT R Lg i) := by rw [Hid, HFS.out, hen]; simp
            clear hen
            go_wp2_with fail
            go_roundw
            case rel => exact ⟨i + 1, Lg, _, _, _, vag, vfg, by omega, hn8, by go_num, rfl, HLN.out, by rw [Hid, HFS2.out]; exact HC3.out⟩
            case measure => simp [intOf]; omega
          · have HFS2 : Hid (finT R Lg (i + 1) = finT R Lg i ++ [(i : Int)]) := by rw [Hid, HFS.out, hen]; simp
            obtain ⟨Af, nf, cf, rfl⟩ := own_sliceN HC3.out.e
            have HNF : Hid ((finT R Lg i).length = nf) := (own_n HC3.out.e).symm
            have hnf : nf ≤ 1000000 := by have := finT_len R Lg i; rw [HNF.out] at this; omega
            have hbs := HC3.out.b.size
            obtain ⟨t0, t1, t2, _, _, tf2⟩ := HC3.out.f.facts
            have htl := HC3.out.f.lt
            clear hen
            go_wp2_with (at_builtin; refine wpList_app_int rfl (.tmp 96) (.tmp 98) rfl W4.heap.size (.slice Af nf cf) (finT R Lg i) rfl HC3.out.e (i : Int) nf HNF hnf hbs rfl ?_; intro g8 c8 w8 ho8 hgg8 hg8; have HT8 := Lib.hid (HC3.out.fblk HC3.out.e (by decide) hg8); obtain ⟨u0, u1, u2, _, _, uf2⟩ := HT8.out.facts; have hul := HT8.out.lt; have HO8 := Lib.hid ho8; have HG8 := Lib.hid hg8; clear ho8 hg8 hgg8)
            clear t0 t1 t2 tf2 htl u0 u1 u2 uf2 hul
            go_roundw
            case rel => exact ⟨i + 1, Lg, _, _, _, vag, _, by omega, hn8, by go_num, rfl, HLN.out, by rw [Hid, HFS2.out]; exact HC3.out.fin HO8.out HG8.out⟩
            case measure => simp [intOf]; omega
        · have d2 : decide ((g : Int) + 1 ≤ (n0 : Int)) = true := by simp; omega
          have d2' : decide (g + 1 ≤ n0) = true := by simp; omega
          have d2'' : decide (g < n0) = true := by simp; omega
          have hn60 : n0 ≤ 60 := by have := HII.out; rw [HIN.out] at this; exact this
          go_upto_region 14 with (fail)
          clear y0 y1 d2 d2' d2''
          refine wp_region_all 9 (fun w' => Below wr.heap.size wr w') (by kernel_rfl) (by kernel_rfl) ?_
          rintro D hD
          have HSD : Hid (Below wr.heap.size wr D) := by rw [hD]; exact (Below.refl _ _).drew
          clear hD
          (refine wpS_take 0 (v := ?_) (by kernel_rfl) rfl rfl (by exact HSD.out) (fun w' hS => ?_) ?_; rotate_left; (focus ((try obtain ⟨⟨p0, p1, p2, p3, p4, p5, p6, p7, p8, p9, p10⟩, q0, q1, q2, q3, q4, q5⟩ := HS.out _ hS); clear hS; go_simp; try with_reducible rfl; done)); (try simp only [Act.put, List.setIfInBounds_toArray, List.set_cons_zero, List.set_cons_succ]))
          (refine wpS_take 1 (v := ?_) (by kernel_rfl) rfl rfl (by exact HSD.out) (fun w' hS => ?_) ?_; rotate_left; (focus ((try obtain ⟨⟨p0, p1, p2, p3, p4, p5, p6, p7, p8, p9, p10⟩, q0, q1, q2, q3, q4, q5⟩ := HS.out _ hS); clear hS; go_simp; try with_reducible rfl; done)); (try simp only [Act.put, List.setIfInBounds_toArray, List.set_cons_zero, List.set_cons_succ]))
          (refine wpS_take 2 (v := ?_) (by kernel_rfl) rfl rfl (by exact HSD.out) (fun w' hS => ?_) ?_; rotate_left; (focus ((try obtain ⟨⟨p0, p1, p2, p3, p4, p5, p6, p7, p8, p9, p10⟩, q0, q1, q2, q3, q4, q5⟩ := HS.out _ hS); clear hS; go_simp; try with_reducible rfl; done)); (try simp only [Act.put, List.setIfInBounds_toArray, List.set_cons_zero, List.set_cons_succ]))
          (refine wpS_take 3 (v := ?_) (by kernel_rfl) rfl rfl (by exact HSD.out) (fun w' hS => ?_) ?_; rotate_left; (focus ((try obtain ⟨⟨p0, p1, p2, p3, p4, p5, p6, p7, p8, p9, p10⟩, q0, q1, q2, q3, q4, q5⟩ := HS.out _ hS); clear hS; go_simp; try with_reducible rfl; done)); (try simp only [Act.put, List.setIfInBounds_toArray, List.set_cons_zero, List.set_cons_succ]))
          (refine wpS_take 4 (v := ?_) (by kernel_rfl) rfl rfl (by exact HSD.out) (fun w' hS => ?_) ?_; rotate_left; (focus ((try obtain ⟨⟨p0, p1, p2, p3, p4, p5, p6, p7, p8, p9, p10⟩, q0, q1, q2, q3, q4, q5⟩ := HS.out _ hS); clear hS; go_simp; try with_reducible rfl; done)); (try simp only [Act.put, List.setIfInBounds_toArray, List.set_cons_zero, List.set_cons_succ]))
          (refine wpS_take 5 (v := ?_) (by kernel_rfl) rfl rfl (by exact HSD.out) (fun w' hS => ?_) ?_; rotate_left; (focus ((try obtain ⟨⟨p0, p1, p2, p3, p4, p5, p6, p7, p8, p9, p10⟩, q0, q1, q2, q3, q4, q5⟩ := HS.out _ hS); clear hS; go_simp; try with_reducible rfl; done)); (try simp only [Act.put, List.setIfInBounds_toArray, List.set_cons_zero, List.set_cons_succ]))
          (refine wpS_take 8 (v := ?_) (by kernel_rfl) rfl rfl (by exact HSD.out) (fun w' hS => ?_) ?_; rotate_left; (focus ((try obtain ⟨⟨p0, p1, p2, p3, p4, p5, p6, p7, p8, p9, p10⟩, q0, q1, q2, q3, q4, q5⟩ := HS.out _ hS); clear hS; go_simp; try with_reducible rfl; done)); (try simp only [Act.put, List.setIfInBounds_toArray, List.set_cons_zero, List.set_cons_succ]))
          (refine wpS_br [6] (by kernel_rfl) ?_; refine AllS.cons rfl rfl (fun K hK => ?_) AllS.nil)
          go_simp
          have hnext := next_any m I R s ((g : Int) + 1) D (HMW.out.below HSD.out) HSO.out HRG.out.l1 HRG.out.l2 HRG.out.tl
          rw [HBF.out.1, HBF.out.2] at hnext
          refine hnext.mono ?_
          rintro e w1 ⟨⟨v51, rfl, ho1⟩, hb1⟩
          have HSW1 := Lib.hid (bchain HSD.out hb1)
          refine hK.out _ _ HSW1.out ?_
          clear hnext hK K HS
          (try simp only [Act.put, List.setIfInBounds_toArray, List.set_cons_zero, List.set_cons_succ])
          obtain ⟨Am, nm, cm, rfl⟩ := own_sliceN ho1
          have HO1 : Hid (OwnMv w1 W4.heap.size (.slice Am nm cm) (nextM I R s ((g : Int) + 1))) := own_base ho1 (Nat.le_trans HC.out.b.size HSD.out.size)
          have HC1 : Hid (CW W4 w1 bm bt (.slice (some ⟨b, off, none⟩) ng cg) vag vfg Lg (tripT I R Lg i ++ rowT I R Lg i g) (finT R Lg i)) := HC.out.below HSW1.out
          clear ho1 hb1
          (refine wpS_take 7 (v := ?_) (by kernel_rfl) rfl rfl (by exact HSW1.out) (fun w' hS => ?_) ?_; rotate_left; (focus (clear hS; go_simp; try with_reducible rfl; done)); (try simp only [Act.put, List.setIfInBounds_toArray, List.set_cons_zero, List.set_cons_succ]))
          refine wpS_nil (by kernel_rfl) ?_
          refine NoPanic.normal ?_
          obtain ⟨ms, hms⟩ : ∃ ms, nextM I R s ((g : Int) + 1) = ms := ⟨_, rfl⟩
          have HMS : Hid (nextM I R (Lg.getD i St.zero) ((g : Int) + 1) = ms) := by rw [Hid, getD_drop HSD0.out]; exact hms
          have HMO : Hid (∀ p, p ∈ ms → StOk p.2) := fun p hp => next_ok HSO.out HRG.out.l1 (by rw [hms]; exact hp)
          have HML : Hid (ms.length ≤ 2) := by rw [Hid, ← hms]; exact next_len _ _ _ _
          rw [hms] at HO1
          have HMN : Hid (ms.length = nm) := (own_n HO1.out).symm
          have hnm : nm ≤ 2 := by rw [← HMN.out]; exact HML.out
          clear hms HC HSW1 HSD HMW HMBW HSD0 HSO HBX
          go_wp2_with fail
          go_loopw [8, 53] (fun v8 v53 wx => ∃ (k : Nat) (Lk : List St) (Ak : Option Addr) (nk ck : Nat) (vak vfk : Value), k ≤ nm ∧ nk ≤ 864 ∧ i < nk ∧ v53 = .int .i64 (k : Int) ∧ v8 = .slice Ak nk ck ∧ Hid (Lk.length = nk) ∧ Hid (nextM I R (Lk.getD i St.zero) ((g : Int) + 1) = ms) ∧ Hid (CW W4 wx bm bt (.slice Ak nk ck) vak vfk Lk (Tk I R Lk i g ms k) (finT R Lk i)) ∧ Hid (OwnMv wx W4.heap.size (.slice Am nm cm) ms)) (fun _ v53 _ => nm - (intOf v53).toNat)
          case atStart => exact ⟨0, Lg, _, _, _, _, _, Nat.zero_le _, hn8, hlt, rfl, rfl, HLN.out, HMS.out, by rw [Hid, Tk_zero]; exact HC1.out, HO1.out⟩
          case round =>
            clear HC1 HO1 HLN HMS hn8 hlt
            obtain ⟨k, Lk, Ak, nk, ck, vak, vfk, hk, hn8, hlt, rfl, rfl, HLN, HMS, HC, HMO1⟩ := hrel
            have hk0 : (0 : Int) ≤ (k : Int) := by omega
            by_cases hkl : k < nm
            rotate_left
            · obtain rfl : nm = k := by omega
              have HC2 : Hid (CW W4 wr bm bt (.slice Ak nk ck) vak vfk Lk (tripT I R Lk i ++ rowT I R Lk i (g + 1)) (finT R Lk i)) := by
                have h := Tk_full I R Lk i g HMS.out
                rw [HMN.out] at h
                rw [Hid, ← h]; exact HC.out
              go_wp2_with fail
              go_roundw
              case rel => exact ⟨g + 1, Lk, _, _, _, vak, vfk, by omega, hn8, hlt, by go_num, rfl, HLN.out, HC2.out⟩
              case measure => simp [intOf]; omega
            · have d3 : decide ((k : Int) < (nm : Int)) = true := by simp; exact hkl
              obtain ⟨bb, oo, p, rfl, hbb, hpd, e0, e1, e2, e3, e4, e5, e6⟩ := HMO1.out.rd.at_ hkl
              have HPD := Lib.hid hpd.out
              have HSP : Hid (StOk p.2) := HMO.out p (List.mem_of_mem_drop (by rw [hpd.out]; exact List.mem_cons_self))
              have HTS : Hid (Tk I R Lk i g ms (k + 1) = Tk I R Lk i g ms k ++ [(i, (g : Int) + 1, p)]) := Tk_succ I R Lk i g hpd.out
              go_upto_region 17 with (fail)
              clear e0 e1 e2 e3 e4 e5 e6 hbb hpd d3
              obtain ⟨bx, hbx⟩ : ∃ bx, wr.heap.size = bx := ⟨_, rfl⟩
              generalize hX : World.alloc wr _ = X
              have hbX : Below wr.heap.size wr X := by rw [← hX]; exact al_below _ _
              have HVX : Hid (MvBlk X bx p) := by rw [← hX, ← hbx]; exact heap_alloc_new wr _
              have HCX := Lib.hid (HC.out.below hbX)
              have HMX : Hid (OwnMv X W4.heap.size (.slice (some ⟨bb, oo, none⟩) nm cm) ms) := own_below HMO1.out hbX
              rw [hbx]
              clear hX hbx hbX HC HMO1
              obtain ⟨e0, e1, e2, e3, e4, e5, e6⟩ := HVX.out.cells
              have hel := HVX.out.lt
              have hlk : (Instr.lookup 91 (.map (some bm)) (.agg #[.int .i64 p.2.cnt, .int .u8 p.2.near, .int .u8 p.2.far, .int .i8 p.2.o0, .int .i8 p.2.o1, .int .i8 p.2.o2]) true).run Try.prog X = .ok (.tuple #[.int .i64 ((fnum Lk p.2).getD 0), .bool (fnum Lk p.2).isSome]) X := HCX.out.m.look_ok p.2 HSP.out
              by_cases hin : p.2 ∈ Lk
              · obtain ⟨tto, hto⟩ : ∃ tto, posF Lk p.2 = tto := ⟨_, rfl⟩
                have HTO := Lib.hid hto
                have HIN2 := Lib.hid hin
                rw [fnum_yes hin, hto, Option.getD_some, Option.isSome_some] at hlk
                have HLL : Hid (Lk = Lk) := rfl
                clear hto hin
                go_upto_region 22 with (fail)
                clear hlk e0 e1 e2 e3 e4 e5 e6 hel
                have HLNX := HLN
                have HMSX := HMS
                obtain ⟨Aa, na, ca, rfl⟩ := own_sliceN (HCX).out.a
                have HNA : Hid (((Tk I R Lk i g ms k).map (arcT Lk)).length = na) := (own_n (HCX).out.a).symm
                have hna : na ≤ 1000000 := by
                  have h := Tk_len R (L := Lk) (ms := ms) k HII.out (show i ≤ 864 by omega) (show g ≤ 60 by omega) HML.out
                  have h2 := HNA.out
                  rw [List.length_map] at h2
                  omega
                have hbs := (HCX).out.b.size
                obtain ⟨t0, t1, t2, _, tf1, _⟩ := (HCX).out.f.facts
                have htl := (HCX).out.f.lt
                obtain ⟨e0, e1, e2, e3, e4, e5, e6⟩ := (HVX).out.cells
                have hel := (HVX).out.lt
                go_wp2_with (at_builtin; refine wpList_app_arc rfl (.tmp 78) (.tmp 85) rfl W4.heap.size (.slice Aa na ca) ((Tk I R Lk i g ms k).map (arcT Lk)) rfl (HCX).out.a (i : Int) ((g : Int) + 1) p.1 (tto : Int) na HNA hna hbs rfl ?_; intro g9 c9 w9 ho9 hgg9 hg9; have HT9 := Lib.hid ((HCX).out.fblk (HCX).out.a (by decide) hg9); obtain ⟨u0, u1, u2, _, uf1, _⟩ := HT9.out.facts; have hul := HT9.out.lt; have HO9 := Lib.hid ho9; have HG9 := Lib.hid hg9; clear ho9 hg9 hgg9)
                clear t0 t1 t2 tf1 htl u0 u1 u2 uf1 hul e0 e1 e2 e3 e4 e5 e6 hel
                have HO9' : Hid (OwnA w9 W4.heap.size (.slice (some ⟨g9, 0, none⟩) (na + 1) c9) ((Tk I R Lk i g ms k).map (arcT Lk) ++ [arcT Lk (i, (g : Int) + 1, p)])) := by
                  have h := HO9.out
                  rw [← HTO.out] at h
                  exact h
                have HMY : Hid (OwnMv w9 W4.heap.size (.slice (some ⟨bb, oo, none⟩) nm cm) ms) := own_apart (HMX).out (HCX).out.a (by decide) HG9.out
                have HFIN9 := Lib.hid ((HCX).out.arc HIN2.out HO9'.out HG9.out)
                go_roundw
                case rel => exact ⟨k + 1, Lk, _, _, _, _, _, by omega, hn8, hlt, by go_num, rfl, HLNX.out, HMSX.out, by rw [Hid, HTS.out]; exact HFIN9.out, own_setCell HMY.out (row_ne_fblk HMY.out HT9.out (by decide)) _ _⟩
                case measure => simp [intOf]; omega
              · have HNI := Lib.hid hin
                rw [fnum_no hin, Option.getD_none, Option.isSome_none] at hlk
                have HMEM : Hid (p.2 ∈ allSt) := mem_allSt HSP.out
                have HIK : Hid (NS.wfV (nk : Int)) := show InI (nk : Int) by unfold InI; omega
                have hnk1 : nk ≤ 1000000 := by omega
                clear hin
                go_upto_region 22 with (first
                  | (at_mapUpdate; refine wpList_putM (S := NS) rfl (.tmp 68) (.tmp 70) (.tmp 71) (.inl rfl) bm allSt (fnum Lk) p.2 (nk : Int) rfl rfl rfl HCX.out.m HSP.out HIK.out HMEM.out allSt_small ?_; intro w7 hm7 hg7; have HM7 := Lib.hid hm7; have HG7 := Lib.hid hg7; have HV7 : Hid (MvBlk w7 bx p) := blk_of_map HVX.out HCX.out.m hg7; have HL7 : Hid (OwnSt w7 W4.heap.size (.slice Ak nk ck) Lk) := own_of_map HCX.out.l HCX.out.m hg7; have hbs7 : W4.heap.size ≤ w7.heap.size := Nat.le_trans HCX.out.b.size hg7.size; clear hm7 hg7 e0 e1 e2 e3 e4 e5 e6 hel; obtain ⟨e0, e1, e2, e3, e4, e5, e6⟩ := HV7.out.cells; have hel := HV7.out.lt)
                  | (at_builtin; refine wpList_app_row 90 85 6 16 _ stC Try.underlying90 infoSt rfl (by decide) (by decide) stC_len stC_one rfl (.tmp 72) (.tmp 75) rfl W4.heap.size (.slice Ak nk ck) Lk rfl HL7.out p.2 nk HLN hnk1 hbs7 rfl ?_; intro g8 c8 w8 ho8 hga hg8; have HO8 : Hid (OwnSt w8 W4.heap.size (.slice (some ⟨g8, 0, none⟩) (nk + 1) c8) (Lk ++ [p.2])) := ho8; have HG8 := Lib.hid hg8; clear ho8 hga hg8))
                clear hlk e0 e1 e2 e3 e4 e5 e6 hel
                have HM7' := HM7.out
                rw [← HLN.out] at HM7'
                have HC8 := Lib.hid (HCX.out.put HNI.out HSP.out HM7' HG7.out HO8.out HG8.out)
                have HV8 : Hid (MvBlk w8 bx p) := blk_apart HV7.out HL7.out (by decide) HG8.out
                have HM8 : Hid (OwnMv w8 W4.heap.size (.slice (some ⟨bb, oo, none⟩) nm cm) ms) := own_apart (own_of_map HMX.out HCX.out.m HG7.out) HL7.out (by decide) HG8.out
                have hil : i < Lk.length := by rw [HLN.out]; exact hlt
                have HLN8 : Hid ((Lk ++ [p.2]).length = nk + 1) := by rw [Hid, List.length_append, HLN.out]; rfl
                have HMS8 : Hid (nextM I R ((Lk ++ [p.2]).getD i St.zero) ((g : Int) + 1) = ms) := by rw [Hid, getD_app hil]; exact HMS.out
                have HC9 : Hid (CW W4 w8 bm bt (.slice (some ⟨g8, 0, none⟩) (nk + 1) c8) vak vfk (Lk ++ [p.2]) (Tk I R (Lk ++ [p.2]) i g ms k) (finT R (Lk ++ [p.2]) i)) := by rw [Hid, Tk_app I R [p.2] hil, finT_app R [p.2] (Nat.le_of_lt hil)]; exact HC8.out
                have HTS8 : Hid (Tk I R (Lk ++ [p.2]) i g ms (k + 1) = Tk I R (Lk ++ [p.2]) i g ms k ++ [(i, (g : Int) + 1, p)]) := by rw [Hid, Tk_app I R [p.2] hil, Tk_app I R [p.2] hil]; exact HTS.out
                have HTO : Hid (posF (Lk ++ [p.2]) p.2 = nk) := by rw [Hid, posF_new HNI.out, HLN.out]
                have HIN2 : Hid (p.2 ∈ Lk ++ [p.2]) := by simp [Hid]
                have hn8' : nk + 1 ≤ 864 := by have := HC9.out.c.len; rw [HLN8.out] at this; exact this
                have HLL : Hid (nk = nk) := rfl
                clear HC8 HM7' HM7 HG7 HV7 HL7 hbs7 HO8 HG8 hil HCX HVX HMX HMS hnk1 HIK HTS
                have HTS := HTS8
                obtain ⟨tto, htto⟩ : ∃ tto, tto = nk := ⟨_, rfl⟩
                rw [← htto] at HTO
                have hlt8 : i < nk + 1 := by omega
                have hnk9 : (nk : Int) = (tto : Int) := by rw [htto]
                rw [hnk9]
                clear hnk9 htto
                have HLNX := HLN8
                have HMSX := HMS8
                obtain ⟨Aa, na, ca, rfl⟩ := own_sliceN (HC9).out.a
                have HNA : Hid (((Tk I R (Lk ++ [p.2]) i g ms k).map (arcT (Lk ++ [p.2]))).length = na) := (own_n (HC9).out.a).symm
                have hna : na ≤ 1000000 := by
                  have h := Tk_len R (L := (Lk ++ [p.2])) (ms := ms) k HII.out (show i ≤ 864 by omega) (show g ≤ 60 by omega) HML.out
                  have h2 := HNA.out
                  rw [List.length_map] at h2
                  omega
                have hbs := (HC9).out.b.size
                obtain ⟨t0, t1, t2, _, tf1, _⟩ := (HC9).out.f.facts
                have htl := (HC9).out.f.lt
                obtain ⟨e0, e1, e2, e3, e4, e5, e6⟩ := (HV8).out.cells
                have hel := (HV8).out.lt
                go_wp2_with (at_builtin; refine wpList_app_arc rfl (.tmp 78) (.tmp 85) rfl W4.heap.size (.slice Aa na ca) ((Tk I R (Lk ++ [p.2]) i g ms k).map (arcT (Lk ++ [p.2]))) rfl (HC9).out.a (i : Int) ((g : Int) + 1) p.1 (tto : Int) na HNA hna hbs rfl ?_; intro g9 c9 w9 ho9 hgg9 hg9; have HT9 := Lib.hid ((HC9).out.fblk (HC9).out.a (by decide) hg9); obtain ⟨u0, u1, u2, _, uf1, _⟩ := HT9.out.facts; have hul := HT9.out.lt; have HO9 := Lib.hid ho9; have HG9 := Lib.hid hg9; clear ho9 hg9 hgg9)
                clear t0 t1 t2 tf1 htl u0 u1 u2 uf1 hul e0 e1 e2 e3 e4 e5 e6 hel
                have HO9' : Hid (OwnA w9 W4.heap.size (.slice (some ⟨g9, 0, none⟩) (na + 1) c9) ((Tk I R (Lk ++ [p.2]) i g ms k).map (arcT (Lk ++ [p.2])) ++ [arcT (Lk ++ [p.2]) (i, (g : Int) + 1, p)])) := by
                  have h := HO9.out
                  rw [← HTO.out] at h
                  exact h
                have HMY : Hid (OwnMv w9 W4.heap.size (.slice (some ⟨bb, oo, none⟩) nm cm) ms) := own_apart (HM8).out (HC9).out.a (by decide) HG9.out
                have HFIN9 := Lib.hid ((HC9).out.arc HIN2.out HO9'.out HG9.out)
                go_roundw
                case rel => exact ⟨k + 1, (Lk ++ [p.2]), _, _, _, _, _, by omega, hn8', hlt8, by go_num, rfl, HLNX.out, HMSX.out, by rw [Hid, HTS.out]; exact HFIN9.out, own_setCell HMY.out (row_ne_fblk HMY.out HT9.out (by decide)) _ _⟩
                case measure => simp [intOf]; omega
end Go.Proofs.Ytdijlakeonionaa
