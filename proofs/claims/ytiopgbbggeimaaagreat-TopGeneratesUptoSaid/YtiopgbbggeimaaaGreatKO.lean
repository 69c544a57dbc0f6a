/-
  The form of a part (package surface).
-/
import Derived.Test.YtiopgbbggeimaaaGreatKN
namespace Go.Proofs.YtiopgbbggeimaaaGreat
open Go.ChangeShapes Go.WideShapes Go.ChangeAt Go.RowKit
def pez : PE := ⟨0, [], 0, [], 0, [], [], []⟩
theorem rd_nil (w : World) (size : Nat) : Rd w size (.slice none 0 0) 0 [] := ⟨none, 0, rfl, by simp, by simp, by simp, fun h => absurd h (by simp)⟩
theorem dpz (w : World) : DpE w evz pez := ⟨rfl, rfl, rfl, rd_nil w 1, ⟨[], rd_nil w 1, rfl, fun i u l h => by simp at h⟩, rd_nil w 2, rd_nil w 2, rd_nil w 2⟩
def PtBlk (w : World) (B : Nat) (p : PPt) : Prop := w.heap[B]? = some (.cells #[.int .i64 p.e, .int .i64 p.a, .int .i64 p.s] 65 (0, 0))
section
variable {w w' : World} {B : Nat} {p : PPt}
theorem PtBlk.lt (h : PtBlk w B p) : B < w.heap.size := (Array.getElem?_eq_some_iff.1 h).1
theorem PtBlk.below (h : PtBlk w B p) (hb : Below w.heap.size w w') : PtBlk w' B p := (hb.block B h.lt).trans h
theorem PtBlk.facts (h : PtBlk w B p) : w.cell? ⟨B, 0, none⟩ = some (.int .i64 p.e) ∧ w.cell? ⟨B, 1, none⟩ = some (.int .i64 p.a) ∧ w.cell? ⟨B, 2, none⟩ = some (.int .i64 p.s) ∧ B < w.heap.size := by
  refine ⟨?_, ?_, ?_, h.lt⟩ <;> rw [cell_of_row w B _ _ _ (0, 0) h] <;> rfl
end
/-- what Get returns, both ways -/
theorem get_two {w : World} {v : Value} {P : List PE} (h : RdP w v P) (id : Int) (ha : ∀ p ∈ P, p.alts.length ≤ 1000) : ∃ (L : List EV) (x : EV) (pe : PE) (ok : Bool), RdV w v L ∧ getV L id = .tuple #[.agg #[.int .i64 x.id, .slice x.f.A x.f.n x.f.c, .int .i64 x.cls, .slice x.a.A x.a.n x.a.c, .int .i64 x.main, .slice x.s.A x.s.n x.s.c, .slice x.l.A x.l.n x.l.c, .slice x.r.A x.r.n x.r.c], .bool ok] ∧ DpE w x pe ∧ pe.alts.length ≤ 1000 ∧
    (ok = false ∧ getP P id = none ∨ ok = true ∧ getP P id = some pe) := by
  obtain ⟨L, h1, h2⟩ := h
  rcases get_all h2 id with ⟨g1, g2⟩ | ⟨e, p, g1, g2, g3⟩
  · exact ⟨L, evz, pez, false, h1, by rw [getV, g1]; rfl, dpz w, by simp [pez], .inl ⟨rfl, g2⟩⟩
  · exact ⟨L, e, p, true, h1, by rw [getV, g1]; rfl, g3, ha p (List.mem_of_find?_eq_some g2), .inr ⟨rfl, g2⟩⟩
/-- what form returns -/
def FormRes (lex : List PE) (p : PPt) (e : Ending) (w : World) : Prop :=
  ∃ (x : EV) (A : Option Addr) (n c : Nat) (b : Bool), e = .returned (.tuple #[.agg #[.int .i64 x.id, .slice x.f.A x.f.n x.f.c, .int .i64 x.cls, .slice x.a.A x.a.n x.a.c, .int .i64 x.main, .slice x.s.A x.s.n x.s.c, .slice x.l.A x.l.n x.l.c, .slice x.r.A x.r.n x.r.c], .slice A n c, .bool b]) ∧
    ((b = false ∧ formAt lex p = none) ∨ ∃ q, b = true ∧ formAt lex p = some q ∧ DpE w x q.1 ∧ RdI w (.slice A n c) q.2)
theorem formAt_none {lex : List PE} {p : PPt} (h : getP lex p.e = none) : formAt lex p = none := by rw [formAt, h]
theorem formAt_some {lex : List PE} {p : PPt} {pe : PE} (h : getP lex p.e = some pe) : formAt lex p = if 0 ≤ p.a ∧ p.a < ((formsP pe).length : Int) then some (pe, (formsP pe).getD p.a.toNat []) else none := by rw [formAt, h]
/-- the row of forms, opened -/
theorem FormsR.op {w0 w : World} {base : Nat} {p : PE} {v : Value} (h : FormsR w0 base p v w) : ∃ (g cap : Nat), v = .slice (some ⟨g, 0, none⟩) (formsP p).length cap ∧ (formsP p).length ≤ cap ∧ cap ≤ 9223372036854775807 ∧ base ≤ g ∧ g < w.heap.size ∧
    Hid (∀ k, k < (formsP p).length → ∃ B m cm, w.cell? ⟨g, k, none⟩ = some (.slice B m cm) ∧ RdI w0 (.slice B m cm) ((formsP p).getD k [])) := by
  obtain ⟨us, h1, h2, h3⟩ := h
  have hp : 0 < us.length := by rw [h2]; simp [formsP]
  obtain ⟨g, cap, rfl, h4, h5⟩ := h1.form hp
  obtain ⟨A, c, he, g1, g2, g3, g4⟩ := Rd.own h1
  cases he
  obtain ⟨b, off, hA, hb, hc⟩ := g4 hp
  cases hA
  rw [h2] at g1 ⊢
  refine ⟨g, cap, rfl, g1, g2, h4, hb, fun k hk => ?_⟩
  have hku : k < us.length := by rw [h2]; exact hk
  have hu := List.getElem?_eq_getElem hku
  have hr := h3 k _ ((formsP p).getD k []) hu (by rw [List.getElem?_eq_getElem hk]; simp [List.getD, hk])
  have hcc := hc k _ hu
  obtain ⟨B, m, cm, he, _⟩ := hr.op
  rw [he] at hr hcc
  exact ⟨B, m, cm, by simpa using hcc, hr⟩
set_option maxHeartbeats 8000000 in
set_option maxRecDepth 100000 in
theorem form_any (g : GV) (G : PLang) (p : PPt) (w : World) (hg : DpG w g G) (ha : ∀ p ∈ G.lex, p.alts.length ≤ 1000) :
    Calls Tryz.prog 43 #[.agg #[.slice g.i.A g.i.n g.i.c, .string g.on, .slice g.u.A g.u.n g.u.c, .slice g.l.A g.l.n g.l.c, .slice g.r.A g.r.n g.r.c, .int .i64 g.q, .slice g.s.A g.s.n g.s.c, .slice g.f.A g.f.n g.f.c, .slice g.x.A g.x.n g.x.c], .agg #[.int .i64 p.e, .int .i64 p.a, .int .i64 p.s]] w fun e' w' => FormRes G.lex p e' w' ∧ Below w.heap.size w w' := by
  have HG := Lib.hid hg
  obtain ⟨L, x, pe, ok, hL, hgv, hdp, hal, hok⟩ := get_two hg.x p.e ha
  have HL := Lib.hid hL
  have HGV := Lib.hid hgv
  have HD := Lib.hid hdp
  have HAL := Lib.hid hal
  have HOK := Lib.hid hok
  clear hg hL hgv hdp hal hok ha
  go_enter Tryz.func43, Tryz.ntmps43
  go_upto_region 1 with (fail)
  generalize hW : World.alloc (World.alloc (World.alloc w _) _) _ = W
  have HBW : Hid (Below w.heap.size w W) := by rw [← hW]; exact bchain (al_below _ _) (bchain (al_below _ _) (al_below _ _))
  have HQ : Hid (LgBlk W w.heap.size g) := by rw [← hW]; exact LgBlk.below (LgBlk.below (heap_alloc_new w _) (al_below _ _)) (al_below _ _)
  have HP : Hid (PtBlk W (w.heap.size + 1) p) := by
    have h := heap_alloc_new (w.alloc (.cells #[.slice g.i.A g.i.n g.i.c, .string g.on, .slice g.u.A g.u.n g.u.c, .slice g.l.A g.l.n g.l.c, .slice g.r.A g.r.n g.r.c, .int .i64 g.q, .slice g.s.A g.s.n g.s.c, .slice g.f.A g.f.n g.f.c, .slice g.x.A g.x.n g.x.c] 36)) (.cells #[.int .i64 p.e, .int .i64 p.a, .int .i64 p.s] 65)
    rw [World.size_alloc] at h
    rw [← hW]; exact PtBlk.below h (al_below _ _)
  have HZ : Hid (EBlk W (w.heap.size + 1 + 1) evz) := by
    have h := heap_alloc_new ((w.alloc (.cells #[.slice g.i.A g.i.n g.i.c, .string g.on, .slice g.u.A g.u.n g.u.c, .slice g.l.A g.l.n g.l.c, .slice g.r.A g.r.n g.r.c, .int .i64 g.q, .slice g.s.A g.s.n g.s.c, .slice g.f.A g.f.n g.f.c, .slice g.x.A g.x.n g.x.c] 36)).alloc (.cells #[.int .i64 p.e, .int .i64 p.a, .int .i64 p.s] 65)) (.cells #[.int .i64 evz.id, .slice evz.f.A evz.f.n evz.f.c, .int .i64 evz.cls, .slice evz.a.A evz.a.n evz.a.c, .int .i64 evz.main, .slice evz.s.A evz.s.n evz.s.c, .slice evz.l.A evz.l.n evz.l.c, .slice evz.r.A evz.r.n evz.r.c] 85)
    rw [World.size_alloc, World.size_alloc] at h
    rw [← hW]; exact h
  clear hW
  obtain ⟨z0, z1, z2, z3, z4, z5, z6, z7, z8, zl⟩ := HQ.out.facts
  obtain ⟨p0, p1, p2, pl⟩ := HP.out.facts
  go_wp2_with fail
  refine (get_any _ L p.e _ (HL.out.below HBW.out)).mono ?_
  rintro e' w1 ⟨rfl, hb⟩
  rw [HGV.out]
  have HB1 := Lib.hid hb
  have HP1 := Lib.hid (HP.out.below hb)
  have HZ1 := Lib.hid (HZ.out.below hb)
  clear hb z0 z1 z2 z3 z4 z5 z6 z7 z8 zl p0 p1 p2 pl
  obtain ⟨p0, p1, p2, pl⟩ := HP1.out.facts
  go_upto_region 2 with (fail)
  generalize hX : World.alloc w1 _ = X
  have HXB : Hid (Below w1.heap.size w1 X) := by rw [← hX]; exact al_below _ _
  have HBX : Hid (Below w.heap.size w X) := bchain HBW.out (bchain HB1.out HXB.out)
  have HPX := Lib.hid (HP1.out.below HXB.out)
  have HZX := Lib.hid (HZ1.out.below HXB.out)
  have hgx0 : w.heap.size + 2 < w1.heap.size := HZ1.out.lt
  have HE : Hid (EBlk X w1.heap.size x) := by rw [← hX]; exact heap_alloc_new w1 _
  clear hX p0 p1 p2 pl HXB HP1 HZ1 HP HZ HB1
  have hgx : w.heap.size + 2 < w1.heap.size := hgx0
  generalize w1.heap.size = gx at HE hgx ⊢
  clear hgx0
  obtain ⟨y0, y1, y2, y3, y4, y5, y6, y7, yl⟩ := HE.out.facts
  have hXs : gx < X.heap.size := yl
  go_wp2_with fail
  refine (forms_any w x pe X HD.out HBX.out HAL.out).mono ?_
  rintro e' w2 ⟨⟨vf, rfl, hf⟩, hb⟩
  have HB2 := Lib.hid (bchain HBX.out hb)
  have HE2 := Lib.hid (HE.out.below hb)
  have HP2 := Lib.hid (HPX.out.below hb)
  have HZ2 := Lib.hid (HZX.out.below hb)
  have HBB := Lib.hid hb
  obtain ⟨gf, cf, rfl, hf1, hf2, hf3, hf4, HFR⟩ := hf.op
  obtain ⟨nf, hnf⟩ : ∃ nf, (formsP pe).length = nf := ⟨_, rfl⟩
  have HNF := Lib.hid hnf
  rw [hnf] at hf1 HFR ⊢
  clear hb y0 y1 y2 y3 y4 y5 y6 y7 yl hf hnf
  obtain ⟨y0, y1, y2, y3, y4, y5, y6, y7, yl⟩ := HE2.out.facts
  obtain ⟨p0, p1, p2, pl⟩ := HP2.out.facts
  have hf := HZ2.out.free
  obtain ⟨x0, x1, x2, x3, x4, x5, x6, x7, xl⟩ := HZ2.out.facts
  go_upto_region 3 with (fail)
  go_cut [33] (fun s33 wx => ∃ b : Bool, s33 = .bool b ∧ Hid ((b = true ∧ formAt G.lex p = none) ∨ (b = false ∧ 0 ≤ p.a ∧ p.a < (nf : Int) ∧ ok = true ∧ formAt G.lex p = some (pe, (formsP pe).getD p.a.toNat []))) ∧ w2 = wx)
  case first =>
    rcases HOK.out with ⟨h, hg⟩ | ⟨h, hg⟩
    · subst h
      have HN := Lib.hid (formAt_none hg)
      clear hg
      go_wp2_with fail
      go_meet
      exact ⟨true, rfl, .inl ⟨rfl, HN.out⟩, rfl⟩
    · subst h
      have HN := Lib.hid (formAt_some hg)
      clear hg
      by_cases ha0 : p.a < 0
      · have d0 : decide (p.a < 0) = true := by simp [ha0]
        have HN2 : Hid (formAt G.lex p = none) := by rw [Hid, HN.out, if_neg (by omega)]
        clear ha0
        go_wp2_with fail
        go_meet
        exact ⟨true, rfl, .inl ⟨rfl, HN2.out⟩, rfl⟩
      have d0 : decide (p.a < 0) = false := by simp [ha0]
      by_cases ha1 : (nf : Int) ≤ p.a
      · have d1 : decide ((nf : Int) ≤ p.a) = true := by simp [ha1]
        have HN2 : Hid (formAt G.lex p = none) := by rw [Hid, HN.out, if_neg (by rw [HNF.out]; omega)]
        clear ha0 ha1
        go_wp2_with fail
        go_meet
        exact ⟨true, rfl, .inl ⟨rfl, HN2.out⟩, rfl⟩
      · have d1 : decide ((nf : Int) ≤ p.a) = false := by simp [ha1]
        have HN2 : Hid (0 ≤ p.a ∧ p.a < (nf : Int) ∧ true = true ∧ formAt G.lex p = some (pe, (formsP pe).getD p.a.toNat [])) := ⟨by omega, by omega, rfl, by rw [HN.out, if_pos (by rw [HNF.out]; omega)]⟩
        clear ha0 ha1
        go_wp2_with fail
        go_meet
        exact ⟨false, rfl, .inr ⟨rfl, HN2.out⟩, rfl⟩
  case rest =>
    obtain ⟨b, rfl, HC, rfl⟩ := hcut
    cases b
    rotate_left
    · have HN : Hid (formAt G.lex p = none) := by
        rcases HC.out with h | h
        · exact h.2
        · exact absurd h.1 (by decide)
      clear HC
      go_wp2_with fail
      generalize hX : World.setCell _ _ _ = Y
      have hX' : put8 w2 (w.heap.size + 1 + 1) x = Y := by rw [← hX]; simp only [put8]
      have HX : Hid (EBlk Y (w.heap.size + 1 + 1) x) := by rw [Hid, ← hX']; exact HZ2.out.put x
      have HXB : Hid (Below w.heap.size w Y) := by rw [Hid, ← hX']; exact put8_below HB2.out (by omega) _
      clear hX hX' hf xl x0 x1 x2 x3 x4 x5 x6 x7 y0 y1 y2 y3 y4 y5 y6 y7 yl
      obtain ⟨y0, y1, y2, y3, y4, y5, y6, y7, yl⟩ := HX.out.facts
      refine bodyPost_ret (v := .tuple #[.agg #[.int .i64 x.id, .slice x.f.A x.f.n x.f.c, .int .i64 x.cls, .slice x.a.A x.a.n x.a.c, .int .i64 x.main, .slice x.s.A x.s.n x.s.c, .slice x.l.A x.l.n x.l.c, .slice x.r.A x.r.n x.r.c], .slice none 0 0, .bool false]) ?_ rfl ?_
      · simp [results, Tryz.results43, go_sem, y0, y1, y2, y3, y4, y5, y6, y7]
      exact ⟨⟨x, none, 0, 0, false, rfl, .inl ⟨rfl, HN.out⟩⟩, HXB.out⟩
    · have HN : Hid (0 ≤ p.a ∧ p.a < (nf : Int) ∧ ok = true ∧ formAt G.lex p = some (pe, (formsP pe).getD p.a.toNat [])) := by
        rcases HC.out with h | h
        · exact absurd h.1 (by decide)
        · exact h.2
      obtain ⟨k, hk⟩ : ∃ k : Nat, p.a = (k : Int) := ⟨p.a.toNat, by have := HN.out.1; omega⟩
      have HK := Lib.hid hk
      have hkn : k < nf := by have := HN.out.2.1; omega
      obtain ⟨B, m, cm, hcell, hrd⟩ := HFR.out k hkn
      rw [hk] at p1
      have hk0 : (0 : Int) ≤ (k : Int) := by omega
      have HRD := Lib.hid hrd
      have HCL : Hid (w2.cell? ⟨gf, k, none⟩ = some (.slice B m cm)) := hcell
      clear hk hrd HC hcell p0 p1 p2 pl y0 y1 y2 y3 y4 y5 y6 y7 yl
      go_upto_region 5 with (fail)
      refine wp_region_ord 7 [0, 1, 2, 3, 4, 5, 6] [] [0, 1, 2, 3, 4, 5] [6, 7, 8] (fun w' => Below w.heap.size w w' ∧ (EBlk w' gx x ∧ (PtBlk w' (w.heap.size + 1) p ∧ w'.cell? ⟨gf, k, none⟩ = some (.slice B m cm)))) (by kernel_rfl) (by kernel_rfl) ?_
      rintro Z hZ
      have HZB : Hid (Below w2.heap.size w2 Z) := by rw [hZ]; exact (Below.refl _ _).drew
      have HSZ : Hid (Below w.heap.size w Z ∧ (EBlk Z gx x ∧ (PtBlk Z (w.heap.size + 1) p ∧ Z.cell? ⟨gf, k, none⟩ = some (.slice B m cm)))) := ⟨bchain HB2.out HZB.out, HE2.out.below HZB.out, HP2.out.below HZB.out, (HZB.out.cell (p := ⟨gf, k, none⟩) hf4).trans HCL.out⟩
      have HZZ := Lib.hid (HZ2.out.below HZB.out)
      clear hZ hf xl x0 x1 x2 x3 x4 x5 x6 x7
      refine ⟨HSZ.out, ?_⟩
      have HS : Hid (∀ w' : World, (Below w.heap.size w w' ∧ (EBlk w' gx x ∧ (PtBlk w' (w.heap.size + 1) p ∧ w'.cell? ⟨gf, k, none⟩ = some (.slice B m cm)))) → w'.cell? ⟨w.heap.size + 1, 1, none⟩ = some (.int .i64 (k : Int)) ∧ w'.cell? ⟨gf, k, none⟩ = some (.slice B m cm) ∧
          w'.cell? ⟨gx, 0, none⟩ = some (.int .i64 x.id) ∧ w'.cell? ⟨gx, 1, none⟩ = some (.slice x.f.A x.f.n x.f.c) ∧ w'.cell? ⟨gx, 2, none⟩ = some (.int .i64 x.cls) ∧ w'.cell? ⟨gx, 3, none⟩ = some (.slice x.a.A x.a.n x.a.c) ∧
          w'.cell? ⟨gx, 4, none⟩ = some (.int .i64 x.main) ∧ w'.cell? ⟨gx, 5, none⟩ = some (.slice x.s.A x.s.n x.s.c) ∧ w'.cell? ⟨gx, 6, none⟩ = some (.slice x.l.A x.l.n x.l.c) ∧ w'.cell? ⟨gx, 7, none⟩ = some (.slice x.r.A x.r.n x.r.c)) := by
        intro w' h
        obtain ⟨s0, s1, s2, s3, s4, s5, s6, s7, _⟩ := h.2.1.facts
        exact ⟨by rw [← HK.out]; exact h.2.2.1.facts.2.1, h.2.2.2, s0, s1, s2, s3, s4, s5, s6, s7⟩
      iterate 6 (refine wpHead_cons (v := ?_) rfl rfl (fun w' hS => ?_) ?_; rotate_left; (focus ((try obtain ⟨t0, t1, s0, s1, s2, s3, s4, s5, s6, s7⟩ := HS.out _ (hS rfl)); clear hS; go_simp; try with_reducible rfl; done)); (try simp only [Act.put, List.setIfInBounds_toArray, List.set_cons_zero, List.set_cons_succ]))
      refine wpHead_nil ?_
      have hf := HZZ.out.free
      obtain ⟨x0, x1, x2, x3, x4, x5, x6, x7, xl⟩ := HZZ.out.facts
      have hX' : Hid (∀ Y, put8 Z (w.heap.size + 1 + 1) x = Y → Below w.heap.size w Y ∧ EBlk Y (w.heap.size + 1 + 1) x ∧ EBlk Y gx x ∧ PtBlk Y (w.heap.size + 1) p ∧ Y.cell? ⟨gf, k, none⟩ = some (.slice B m cm)) := by
        intro Y hY
        rw [← hY]
        have hfar : ∀ j, j ≠ w.heap.size + 1 + 1 → (put8 Z (w.heap.size + 1 + 1) x).heap[j]? = Z.heap[j]? := fun j hj => by
          simp only [put8]
          repeat rw [Below.heap_setCell _ ⟨w.heap.size + 1 + 1, _, none⟩ _ j hj]
        refine ⟨put8_below HSZ.out.1 (by omega) _, HZZ.out.put x, (hfar _ (by omega)).trans HSZ.out.2.1, (hfar _ (by omega)).trans HSZ.out.2.2.1, ?_⟩
        rw [World.cell?_of_block (a := ⟨gf, k, none⟩) (hfar gf (by omega))]
        exact HSZ.out.2.2.2
      refine wpTail_cons rfl rfl (fun K hK => ?_)
      go_simp
      generalize hX : World.setCell _ _ _ = Y
      obtain ⟨q1, q2, q3, q4, q5⟩ := hX'.out Y (by rw [← hX]; simp only [put8])
      have HY := Lib.hid q2
      have HYB := Lib.hid q1
      refine hK.out _ _ (fun _ => ⟨q1, q3, q4, q5⟩) ?_
      clear hX hX' hK K HS hf xl x0 x1 x2 x3 x4 x5 x6 x7 q1 q2 q3 q4 q5
      (try simp only [Act.put, List.setIfInBounds_toArray, List.set_cons_zero, List.set_cons_succ])
      refine wpTail_rest 7 rfl ?_
      simp only [List.drop_succ_cons, List.drop_zero]
      go_wp2_with fail
      refine NoPanic.normal ?_
      go_wp2_with fail
      obtain ⟨y0, y1, y2, y3, y4, y5, y6, y7, yl⟩ := HY.out.facts
      refine bodyPost_ret (v := .tuple #[.agg #[.int .i64 x.id, .slice x.f.A x.f.n x.f.c, .int .i64 x.cls, .slice x.a.A x.a.n x.a.c, .int .i64 x.main, .slice x.s.A x.s.n x.s.c, .slice x.l.A x.l.n x.l.c, .slice x.r.A x.r.n x.r.c], .slice B m cm, .bool true]) ?_ rfl ?_
      · simp [results, Tryz.results43, go_sem, y0, y1, y2, y3, y4, y5, y6, y7]
      refine ⟨⟨x, B, m, cm, true, rfl, .inr ⟨_, rfl, HN.out.2.2.2, HD.out.below HYB.out, ?_⟩⟩, HYB.out⟩
      rw [HK.out, Int.toNat_natCast]
      exact HRD.out.below HYB.out
end Go.Proofs.YtiopgbbggeimaaaGreat
