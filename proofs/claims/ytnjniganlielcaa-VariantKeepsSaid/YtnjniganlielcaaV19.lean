/-
  Copy of the reference of entries, at one entry.
-/
import Derived.Test.YtnjniganlielcaaV18
namespace Go.Proofs.Ytnjniganlielcaa
open Go.ChangeShapes Go.WideShapes Go.ChangeAt Go.RowKit
theorem evz_box (w : World) : (w.alloc (.cells #[.int .i64 0, .slice none 0 0, .int .i64 0, .slice none 0 0, .int .i64 0, .slice none 0 0, .slice none 0 0, .slice none 0 0] 34)).heap[w.heap.size]? = some (.cells #[.int .i64 0, .slice none 0 0, .int .i64 0, .slice none 0 0, .int .i64 0, .slice none 0 0, .slice none 0 0, .slice none 0 0] 34 (0, 0)) := heap_alloc_new w _
theorem rdI_cells {w : World} {v : Value} {l : List Int} (h : RdI w v l) : Rd w 1 v l.length (l.map (Value.int .i64)) := h
set_option maxHeartbeats 8000000 in
set_option maxRecDepth 100000 in
theorem copy1_any (e : EV) (p : PE) (w : World) (hd : DpE w e p) (hs : SmP p) :
    Calls Try.prog 34 #[.agg #[.int .i64 e.id, .slice e.f.A e.f.n e.f.c, .int .i64 e.cls, .slice e.a.A e.a.n e.a.c, .int .i64 e.main, .slice e.s.A e.s.n e.s.c, .slice e.l.A e.l.n e.l.c, .slice e.r.A e.r.n e.r.c]] w fun e' w' => (∃ x : EV, e' = .returned (.agg #[.int .i64 x.id, .slice x.f.A x.f.n x.f.c, .int .i64 x.cls, .slice x.a.A x.a.n x.a.c, .int .i64 x.main, .slice x.s.A x.s.n x.s.c, .slice x.l.A x.l.n x.l.c, .slice x.r.A x.r.n x.r.c]) ∧ DoE w' w.heap.size x p) ∧ Below w.heap.size w w' := by
  have HD := Lib.hid hd
  have HS := Lib.hid hs
  have nf := hd.nf
  have na := hd.na
  have ns := hd.ns
  have nl := hd.nl
  have nr := hd.nr
  have hn := hs.n
  rw [← nf, ← na, ← ns, ← nl, ← nr] at hn
  have HNF := Lib.hid nf
  have HNA := Lib.hid na
  have HNS := Lib.hid ns
  have HNL := Lib.hid nl
  have HNR := Lib.hid nr
  clear hd hs nf na ns nl nr
  go_enter Try.func34, Try.ntmps34
  go_upto_region 1 with (fail)
  generalize hW : World.alloc (World.alloc w _) _ = W
  have HE1 : Hid (EBlk W w.heap.size e) := by rw [Hid, EBlk, ← hW]; (repeat (first | exact heap_new' _ _ _ (by first | omega | rfl | (simp; done) | (simp; omega)) | refine (Below.heap_alloc _ _ _ (by first | omega | (simp; done) | (simp; omega))).trans ?_))
  have HE2 : Hid (EBlk W (w.heap.size + 1) evz) := by rw [Hid, EBlk, ← hW]; (repeat (first | exact heap_new' _ _ _ (by first | omega | rfl | (simp; done) | (simp; omega)) | refine (Below.heap_alloc _ _ _ (by first | omega | (simp; done) | (simp; omega))).trans ?_))
  have HBW : Hid (Below w.heap.size w W) := by rw [← hW]; repeat (first | assumption | exact Below.refl _ _ | refine Below.alloc ?_ (by first | omega | (simp; done) | (simp; omega)) _ | refine Below.drew ?_ | refine below_drewN ?_ _ | refine Below.setCell ?_ (by first | omega | (simp; done) | (simp; omega)) _)
  have HWZ : Hid (W.heap.size = w.heap.size + 2) := by rw [← hW]; simp [Hid]
  have hwz1 : w.heap.size + 2 ≤ W.heap.size := by rw [HWZ.out]; omega
  clear hW
  obtain ⟨z0, z1, z2, z3, z4, z5, z6, z7, zl⟩ := HE1.out.facts
  have zf := HE1.out.free
  go_wp2_with (at_builtin; refine wpList_app_rd rfl (.tmp 5) (.tmp 7) 28 rfl W.heap.size 3 _ 1 8 Try.underlying28 infoI0 rfl (by decide) (.slice (some ⟨W.heap.size, 0, none⟩) 0 0) 0 [] rfl (own_newR W W.heap.size _ _ 1 rfl (Nat.le_refl _)) (.slice e.f.A e.f.n e.f.c) p.form.length (p.form.map (Value.int .i64)) rfl (Rd.alloc (HD.out.f.below HBW.out) _) (oneCell_ints _) (by have := HNF.out; simp only [maxLen]; omega) (by have := HNF.out; omega) (by simp) ?_; intro v' W1 ho hg _; obtain ⟨A1, c1, hv1, ho1, hb1⟩ := new_row ho hg; subst hv1; have HO1 := Lib.hid ho1; have HB1 := Lib.hid hb1; clear ho hg ho1 z0 z1 z2 z3 z4 z5 z6 z7 zl zf; obtain ⟨z0, z1, z2, z3, z4, z5, z6, z7, zl⟩ := (HE1.out.below hb1).facts; have zf := (HE1.out.below hb1).free; clear hb1)
  have hz1 : W.heap.size ≤ W1.heap.size := HB1.out.size
  generalize hX : World.alloc (World.setCell _ _ _) _ = X
  have HXS : Hid (OwnL X W.heap.size (.slice (some ⟨W1.heap.size, 0, none⟩) 0 0) []) := by
    rw [Hid, ← hX]
    refine ⟨[], own_base (own_newR _ _ _ _ 1 (by simp) (Nat.le_refl W1.heap.size)) hz1, rfl, fun i u l h => by simp at h⟩
  have HXE : Hid (EBlk X w.heap.size { e with f := ⟨A1, p.form.length, c1⟩ }) := by
    rw [Hid, ← hX]
    exact ((HE1.out.below HB1.out).setF _ _ _).below ((Below.refl _ _).alloc (Nat.le_refl _) _)
  have HXZ : Hid (EBlk X (w.heap.size + 1) evz) := by
    rw [Hid, ← hX]
    exact ((HE2.out.below HB1.out).far (by omega) _ _).below ((Below.refl _ _).alloc (Nat.le_refl _) _)
  have HXF : Hid (OwnI X W.heap.size (.slice A1 p.form.length c1) p.form) := by
    rw [Hid, ← hX]
    exact own_below (own_set_lt HO1.out (by omega) _ _) ((Below.refl _ _).alloc (Nat.le_refl _) _)
  have HXB : Hid (Below w.heap.size w X) := by
    rw [Hid, ← hX]
    exact ((bchain HBW.out HB1.out).setCell (p := ⟨w.heap.size, 1, none⟩) (by simp) _).alloc (by simp; omega) _
  clear hX z0 z1 z2 z3 z4 z5 z6 z7 zl zf HO1 HB1 HE1 HE2
  obtain ⟨_, _, _, hae, _, _, HNA2, HRA⟩ := HD.out.a.op
  cases hae
  go_loopw [3, 4] (fun v i wr => ∃ k : Nat, k ≤ e.a.n ∧ i = .int .i64 k ∧ Hid (OwnL wr W.heap.size v (p.alts.take k)) ∧ Hid (EBlk wr w.heap.size { e with f := ⟨A1, p.form.length, c1⟩ }) ∧ Hid (EBlk wr (w.heap.size + 1) evz) ∧ Hid (OwnI wr W.heap.size (.slice A1 p.form.length c1) p.form) ∧ Hid (Below w.heap.size w wr)) (fun _ i _ => e.a.n - (intOf i).toNat)
  case atStart => exact ⟨0, Nat.zero_le _, rfl, HXS.out, HXE.out, HXZ.out, HXF.out, HXB.out⟩
  case round =>
    obtain ⟨k, hk, rfl, HO, HE, HZ, HF, HB⟩ := hrel
    obtain ⟨AO, nO, cO, rfl, _, _, HNO, _⟩ := HO.out.rd.op
    have HTL : Hid ((p.alts.take k).length = k) := by rw [Hid, List.length_take, ← HNA.out]; omega
    obtain rfl : nO = k := HNO.out.symm.trans HTL.out
    obtain ⟨z0, z1, z2, z3, z4, z5, z6, z7, zl⟩ := HE.out.facts
    have zf := HE.out.free
    dsimp only at z0 z1 z2 z3 z4 z5 z6 z7
    by_cases hlt : nO < e.a.n
    · obtain ⟨b, off, B, m, cm, l, hAe, hbl, hdr, e0, HRL⟩ := (HRA.out nO hlt).below HB.out
      have hmem : l ∈ p.alts := List.mem_of_mem_drop (by rw [hdr.out]; exact List.mem_cons_self)
      have hl1 := HS.out.a l hmem
      have HTK : Hid (p.alts.take (nO + 1) = p.alts.take nO ++ [l]) := by
        have hk2 : nO < p.alts.length := by rw [← HNA.out]; exact hlt
        have := hdr.out
        rw [List.drop_eq_getElem_cons hk2] at this
        rw [Hid, List.take_succ_eq_append_getElem hk2, (List.cons.inj this).1]
      have hbz : W.heap.size ≤ wr.heap.size := by have := HF.out; have := HB.out.size; have := World.ownsRow.lt HO.out.row.choose_spec; have := HZ.out.lt; have := HWZ.out; omega
      rw [hAe] at z3
      clear hmem hAe
      go_wp2_with (first | (at_builtin; refine wpList_app_words rfl (.tmp 18) (.tmp 26) rfl W.heap.size (.slice AO nO cO) (p.alts.take nO) rfl (OwnL.below HO.out HB2.out) (.slice A2 l.length c2) l (own_base HO2.out hbz) nO HTL (by omega) (Nat.le_trans hbz hbs2) rfl ?_; intro g' cap w3 ho3 hg3 hgr; have HO3 := Lib.hid ho3; have HGR := Lib.hid hgr; clear ho3 hgr) | (at_builtin; refine wpList_app_rd rfl (.tmp 19) (.tmp 24) 28 rfl wr.heap.size 3 _ 1 8 Try.underlying28 infoI0 rfl (by decide) (.slice (some ⟨wr.heap.size, 0, none⟩) 0 0) 0 [] rfl (own_newR wr wr.heap.size _ _ 1 rfl (Nat.le_refl _)) (.slice B m cm) l.length (l.map (Value.int .i64)) rfl (Rd.alloc HRL.out _) (oneCell_ints _) (by simp only [maxLen]; omega) (by omega) (by simp) ?_; intro v' w2 ho hg _; obtain ⟨A2, c2, hv2, ho2, hb2⟩ := new_row ho hg; subst hv2; have HO2 := Lib.hid ho2; have HB2 := Lib.hid hb2; have hbs2 := hb2.size; clear ho hg ho2 hb2))
      have hne : ∀ g, g < W.heap.size → some g ≠ (Value.slice AO nO cO).ownBlock := fun g hg e' => by
        obtain ⟨us, hus⟩ := (OwnL.below HO.out HB2.out).row
        have := (World.ownsRow.lt hus g e'.symm).1
        omega
      have HE3 : Hid (EBlk w3 w.heap.size { e with f := ⟨A1, p.form.length, c1⟩ }) := (HGR.out.block _ (by omega) (hne _ (by omega))).trans (HE.out.below HB2.out)
      have HZ3 : Hid (EBlk w3 (w.heap.size + 1) evz) := (HGR.out.block _ (by omega) (hne _ (by omega))).trans (HZ.out.below HB2.out)
      have HF3 : Hid (OwnI w3 W.heap.size (.slice A1 p.form.length c1) p.form) := by
        obtain ⟨us, hus⟩ := (OwnL.below HO.out HB2.out).row
        exact ownI_grown (own_below HF.out HB2.out) hus (by decide) HGR.out
      have HB3 : Hid (Below w.heap.size w w3) := by
        obtain ⟨us, hus⟩ := (OwnL.below HO.out HB2.out).row
        exact (bchain HB.out HB2.out).grown HGR.out (bchain HB.out HB2.out).size (fun k e' => by have := (World.ownsRow.lt hus k e').1; omega)
      refine ⟨⟨nO + 1, by omega, by go_num, by rw [HTK.out]; exact HO3.out, HE3.out, HZ3.out, HF3.out, HB3.out⟩, ?_⟩
      simp [intOf]; omega
    · obtain rfl : nO = e.a.n := by omega
      have HOL : Hid (OwnL wr W.heap.size (.slice AO e.a.n cO) p.alts) := by
        have := HO.out
        rwa [List.take_of_length_le (by rw [HNA2.out]; omega)] at this
      have hbz : W.heap.size ≤ wr.heap.size := by have := HB.out.size; have := HZ.out.lt; have := HWZ.out; omega
      clear HO HNO HTL
      clear hlt hk z0 z1 z2 z4 z6 z7
      go_upto_region 8 with (fail)
      generalize hX : World.setCell wr _ _ = Y1
      have HE1 : Hid (EBlk Y1 w.heap.size { e with f := ⟨A1, p.form.length, c1⟩, a := ⟨AO, e.a.n, cO⟩ }) := by rw [Hid, ← hX]; exact HE.out.setA _ _ _
      have HZ1 : Hid (EBlk Y1 (w.heap.size + 1) evz) := by rw [Hid, ← hX]; exact HZ.out.far (by omega) _ _
      have HF1 : Hid (OwnI Y1 W.heap.size (.slice A1 p.form.length c1) p.form) := by rw [Hid, ← hX]; exact own_set_lt HF.out (by omega) _ _
      have HL1 : Hid (OwnL Y1 W.heap.size (.slice AO e.a.n cO) p.alts) := by rw [Hid, ← hX]; exact OwnL.set HOL.out (by omega) _ _
      have HB1 : Hid (Below w.heap.size w Y1) := by rw [Hid, ← hX]; exact HB.out.setCell (p := ⟨w.heap.size, 3, none⟩) (Nat.le_refl _) _
      have hy1 : W.heap.size ≤ Y1.heap.size := by rw [← hX]; simp; omega
      clear hX z3 z5 zl zf HE HZ HF HOL HB
      obtain ⟨z0, z1, z2, z3, z4, z5, z6, z7, zl⟩ := HE1.out.facts
      have zf := HE1.out.free
      dsimp only at z0 z1 z2 z3 z4 z5 z6 z7
      go_upto_region 9 with (at_builtin; refine wpList_app_rd rfl (.tmp 30) (.tmp 32) 30 rfl Y1.heap.size 41 _ 2 32 Try.underlying30 infoS rfl (by decide) (.slice (some ⟨Y1.heap.size, 0, none⟩) 0 0) 0 [] rfl (own_newR Y1 Y1.heap.size _ _ 2 rfl (Nat.le_refl _)) (.slice e.s.A e.s.n e.s.c) p.senses.length (p.senses.flatMap seCells) rfl (Rd.alloc (HD.out.s.below HB1.out) _) (oneCell_se _) (by have := HNS.out; simp only [maxLen]; omega) (by have := HNS.out; omega) (by simp) ?_; intro v' V ho hg _; obtain ⟨A2, c2, hv, ho2, hb2⟩ := new_row ho hg; subst hv; have HO := Lib.hid ho2; have HV := Lib.hid hb2; have HEV := Lib.hid (HE1.out.below hb2); clear ho hg ho2 hb2 z0 z1 z2 z3 z4 z5 z6 z7 zl zf; obtain ⟨z0, z1, z2, z3, z4, z5, z6, z7, zl⟩ := HEV.out.facts; have zf := HEV.out.free; dsimp only at z0 z1 z2 z3 z4 z5 z6 z7)
      have hsz1 : Y1.heap.size ≤ V.heap.size := HV.out.size
      generalize hX : World.setCell V _ _ = Y2
      have HE2 : Hid (EBlk Y2 w.heap.size { e with f := ⟨A1, p.form.length, c1⟩, a := ⟨AO, e.a.n, cO⟩, s := ⟨A2, p.senses.length, c2⟩ }) := by rw [Hid, ← hX]; exact HEV.out.setS _ _ _
      have HZ2 : Hid (EBlk Y2 (w.heap.size + 1) evz) := by rw [Hid, ← hX]; exact (HZ1.out.below HV.out).far (by omega) _ _
      have HF2 : Hid (OwnI Y2 W.heap.size (.slice A1 p.form.length c1) p.form) := by rw [Hid, ← hX]; exact own_set_lt (own_below HF1.out HV.out) (by omega) _ _
      have HL2 : Hid (OwnL Y2 W.heap.size (.slice AO e.a.n cO) p.alts) := by rw [Hid, ← hX]; exact OwnL.set (OwnL.below HL1.out HV.out) (by omega) _ _
      have HR2_2 : Hid (Y2.ownsRow W.heap.size 41 2 (.slice A2 p.senses.length c2) p.senses.length (p.senses.flatMap seCells)) := by rw [Hid, ← hX]; exact own_set_lt (own_base HO.out (by omega)) (by omega) _ _
      have HB2 : Hid (Below w.heap.size w Y2) := by rw [Hid, ← hX]; exact (bchain HB1.out HV.out).setCell (p := ⟨w.heap.size, 5, none⟩) (Nat.le_refl _) _
      have hy2 : W.heap.size ≤ Y2.heap.size := by rw [← hX]; simp; omega
      clear hX HO HV HEV z0 z1 z2 z3 z4 z5 z6 z7 zl zf
      obtain ⟨z0, z1, z2, z3, z4, z5, z6, z7, zl⟩ := HE2.out.facts
      have zf := HE2.out.free
      dsimp only at z0 z1 z2 z3 z4 z5 z6 z7
      go_upto_region 10 with (at_builtin; refine wpList_app_rd rfl (.tmp 35) (.tmp 37) 31 rfl Y2.heap.size 69 _ 2 16 Try.underlying31 infoK0 rfl (by decide) (.slice (some ⟨Y2.heap.size, 0, none⟩) 0 0) 0 [] rfl (own_newR Y2 Y2.heap.size _ _ 2 rfl (Nat.le_refl _)) (.slice e.l.A e.l.n e.l.c) p.links.length (p.links.flatMap p2Cells) rfl (Rd.alloc (HD.out.l.below HB2.out) _) (oneCell_p2 _) (by have := HNL.out; simp only [maxLen]; omega) (by have := HNL.out; omega) (by simp) ?_; intro v' V ho hg _; obtain ⟨A3, c3, hv, ho2, hb2⟩ := new_row ho hg; subst hv; have HO := Lib.hid ho2; have HV := Lib.hid hb2; have HEV := Lib.hid (HE2.out.below hb2); clear ho hg ho2 hb2 z0 z1 z2 z3 z4 z5 z6 z7 zl zf; obtain ⟨z0, z1, z2, z3, z4, z5, z6, z7, zl⟩ := HEV.out.facts; have zf := HEV.out.free; dsimp only at z0 z1 z2 z3 z4 z5 z6 z7)
      have hsz2 : Y2.heap.size ≤ V.heap.size := HV.out.size
      generalize hX : World.setCell V _ _ = Y3
      have HE3 : Hid (EBlk Y3 w.heap.size { e with f := ⟨A1, p.form.length, c1⟩, a := ⟨AO, e.a.n, cO⟩, s := ⟨A2, p.senses.length, c2⟩, l := ⟨A3, p.links.length, c3⟩ }) := by rw [Hid, ← hX]; exact HEV.out.setL _ _ _
      have HZ3 : Hid (EBlk Y3 (w.heap.size + 1) evz) := by rw [Hid, ← hX]; exact (HZ2.out.below HV.out).far (by omega) _ _
      have HF3 : Hid (OwnI Y3 W.heap.size (.slice A1 p.form.length c1) p.form) := by rw [Hid, ← hX]; exact own_set_lt (own_below HF2.out HV.out) (by omega) _ _
      have HL3 : Hid (OwnL Y3 W.heap.size (.slice AO e.a.n cO) p.alts) := by rw [Hid, ← hX]; exact OwnL.set (OwnL.below HL2.out HV.out) (by omega) _ _
      have HR3_3 : Hid (Y3.ownsRow W.heap.size 69 2 (.slice A3 p.links.length c3) p.links.length (p.links.flatMap p2Cells)) := by rw [Hid, ← hX]; exact own_set_lt (own_base HO.out (by omega)) (by omega) _ _
      have HR2_3 : Hid (Y3.ownsRow W.heap.size 41 2 (.slice A2 p.senses.length c2) p.senses.length (p.senses.flatMap seCells)) := by rw [Hid, ← hX]; exact own_set_lt (own_below HR2_2.out HV.out) (by omega) _ _
      have HB3 : Hid (Below w.heap.size w Y3) := by rw [Hid, ← hX]; exact (bchain HB2.out HV.out).setCell (p := ⟨w.heap.size, 6, none⟩) (Nat.le_refl _) _
      have hy3 : W.heap.size ≤ Y3.heap.size := by rw [← hX]; simp; omega
      clear hX HO HV HEV z0 z1 z2 z3 z4 z5 z6 z7 zl zf
      obtain ⟨z0, z1, z2, z3, z4, z5, z6, z7, zl⟩ := HE3.out.facts
      have zf := HE3.out.free
      dsimp only at z0 z1 z2 z3 z4 z5 z6 z7
      go_upto_region 11 with (at_builtin; refine wpList_app_rd rfl (.tmp 40) (.tmp 42) 32 rfl Y3.heap.size 71 _ 2 16 Try.underlying32 infoR0 rfl (by decide) (.slice (some ⟨Y3.heap.size, 0, none⟩) 0 0) 0 [] rfl (own_newR Y3 Y3.heap.size _ _ 2 rfl (Nat.le_refl _)) (.slice e.r.A e.r.n e.r.c) p.refs.length (p.refs.flatMap p2Cells) rfl (Rd.alloc (HD.out.r.below HB3.out) _) (oneCell_p2 _) (by have := HNR.out; simp only [maxLen]; omega) (by have := HNR.out; omega) (by simp) ?_; intro v' V ho hg _; obtain ⟨A4, c4, hv, ho2, hb2⟩ := new_row ho hg; subst hv; have HO := Lib.hid ho2; have HV := Lib.hid hb2; have HEV := Lib.hid (HE3.out.below hb2); clear ho hg ho2 hb2 z0 z1 z2 z3 z4 z5 z6 z7 zl zf; obtain ⟨z0, z1, z2, z3, z4, z5, z6, z7, zl⟩ := HEV.out.facts; have zf := HEV.out.free; dsimp only at z0 z1 z2 z3 z4 z5 z6 z7)
      have hsz3 : Y3.heap.size ≤ V.heap.size := HV.out.size
      generalize hX : World.setCell V _ _ = Y4
      have HE4 : Hid (EBlk Y4 w.heap.size { e with f := ⟨A1, p.form.length, c1⟩, a := ⟨AO, e.a.n, cO⟩, s := ⟨A2, p.senses.length, c2⟩, l := ⟨A3, p.links.length, c3⟩, r := ⟨A4, p.refs.length, c4⟩ }) := by rw [Hid, ← hX]; exact HEV.out.setR _ _ _
      have HZ4 : Hid (EBlk Y4 (w.heap.size + 1) evz) := by rw [Hid, ← hX]; exact (HZ3.out.below HV.out).far (by omega) _ _
      have HF4 : Hid (OwnI Y4 W.heap.size (.slice A1 p.form.length c1) p.form) := by rw [Hid, ← hX]; exact own_set_lt (own_below HF3.out HV.out) (by omega) _ _
      have HL4 : Hid (OwnL Y4 W.heap.size (.slice AO e.a.n cO) p.alts) := by rw [Hid, ← hX]; exact OwnL.set (OwnL.below HL3.out HV.out) (by omega) _ _
      have HR4_4 : Hid (Y4.ownsRow W.heap.size 71 2 (.slice A4 p.refs.length c4) p.refs.length (p.refs.flatMap p2Cells)) := by rw [Hid, ← hX]; exact own_set_lt (own_base HO.out (by omega)) (by omega) _ _
      have HR2_4 : Hid (Y4.ownsRow W.heap.size 41 2 (.slice A2 p.senses.length c2) p.senses.length (p.senses.flatMap seCells)) := by rw [Hid, ← hX]; exact own_set_lt (own_below HR2_3.out HV.out) (by omega) _ _
      have HR3_4 : Hid (Y4.ownsRow W.heap.size 69 2 (.slice A3 p.links.length c3) p.links.length (p.links.flatMap p2Cells)) := by rw [Hid, ← hX]; exact own_set_lt (own_below HR3_3.out HV.out) (by omega) _ _
      have HB4 : Hid (Below w.heap.size w Y4) := by rw [Hid, ← hX]; exact (bchain HB3.out HV.out).setCell (p := ⟨w.heap.size, 7, none⟩) (Nat.le_refl _) _
      have hy4 : W.heap.size ≤ Y4.heap.size := by rw [← hX]; simp; omega
      clear hX HO HV HEV z0 z1 z2 z3 z4 z5 z6 z7 zl zf
      obtain ⟨z0, z1, z2, z3, z4, z5, z6, z7, zl⟩ := HE4.out.facts
      obtain ⟨y0, y1, y2, y3, y4, y5, y6, y7, yl⟩ := HZ4.out.facts
      have yf := HZ4.out.free
      dsimp only at z0 z1 z2 z3 z4 z5 z6 z7
      go_wp2_with fail
      generalize hX : World.setCell _ _ _ = X2
      have hX2 : put8 Y4 (w.heap.size + 1) { e with f := ⟨A1, p.form.length, c1⟩, a := ⟨AO, e.a.n, cO⟩, s := ⟨A2, p.senses.length, c2⟩, l := ⟨A3, p.links.length, c3⟩, r := ⟨A4, p.refs.length, c4⟩ } = X2 := by rw [← hX]; simp only [put8]
      have HXE2 : Hid (EBlk X2 (w.heap.size + 1) { e with f := ⟨A1, p.form.length, c1⟩, a := ⟨AO, e.a.n, cO⟩, s := ⟨A2, p.senses.length, c2⟩, l := ⟨A3, p.links.length, c3⟩, r := ⟨A4, p.refs.length, c4⟩ }) := by rw [Hid, ← hX2]; exact HZ4.out.put _
      have HXB2 : Hid (Below w.heap.size w X2) := by rw [Hid, ← hX2]; exact put8_below HB4.out (by omega) _
      have hlt2 : w.heap.size + 1 < W.heap.size := by omega
      have own8 : ∀ {t : TypeId} {sz n : Nat} {v : Value} {xs : List Value}, Y4.ownsRow W.heap.size t sz v n xs → X2.ownsRow W.heap.size t sz v n xs := fun h => by
        rw [← hX2]
        unfold put8
        iterate 8 refine own_set_lt ?_ hlt2 _ _
        exact h
      have ownL8 : OwnL X2 W.heap.size (.slice AO e.a.n cO) p.alts := by
        rw [← hX2]
        unfold put8
        iterate 8 refine OwnL.set ?_ hlt2 _ _
        exact HL4.out
      have hbw : w.heap.size ≤ W.heap.size := by omega
      have HDX : Hid (DoE X2 w.heap.size { e with f := ⟨A1, p.form.length, c1⟩, a := ⟨AO, e.a.n, cO⟩, s := ⟨A2, p.senses.length, c2⟩, l := ⟨A3, p.links.length, c3⟩, r := ⟨A4, p.refs.length, c4⟩ } p) := ⟨HD.out.id, HD.out.cls, HD.out.main, own_base (own8 HF4.out) hbw, ownL8.base hbw, own_base (own8 HR2_4.out) hbw, own_base (own8 HR3_4.out) hbw, own_base (own8 HR4_4.out) hbw⟩
      clear hX hX2 own8 ownL8 z0 z1 z2 z3 z4 z5 z6 z7 zl y0 y1 y2 y3 y4 y5 y6 y7 yl yf
      obtain ⟨z0, z1, z2, z3, z4, z5, z6, z7, zl⟩ := HXE2.out.facts
      dsimp only at z0 z1 z2 z3 z4 z5 z6 z7
      refine bodyPost_ret (v := .agg #[.int .i64 e.id, .slice A1 p.form.length c1, .int .i64 e.cls, .slice AO e.a.n cO, .int .i64 e.main, .slice A2 p.senses.length c2, .slice A3 p.links.length c3, .slice A4 p.refs.length c4]) ?_ rfl ?_
      · simp [results, Try.results34, go_sem, z0, z1, z2, z3, z4, z5, z6, z7]
      exact ⟨⟨_, rfl, HDX.out⟩, HXB2.out⟩
end Go.Proofs.Ytnjniganlielcaa
