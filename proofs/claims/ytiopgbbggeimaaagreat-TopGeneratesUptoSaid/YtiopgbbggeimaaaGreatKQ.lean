/-
  Classes and Base (package surface).
-/
import Derived.Test.YtiopgbbggeimaaaGreatKO
namespace Go.Proofs.YtiopgbbggeimaaaGreat
open Go.ChangeShapes Go.WideShapes Go.ChangeAt Go.RowKit
def AnBlk (w : World) (B : Nat) (v : Value) : Prop := w.heap[B]? = some (.cells #[v] 39 (0, 0))
section
variable {w w' : World} {B : Nat} {v : Value}
theorem AnBlk.lt (h : AnBlk w B v) : B < w.heap.size := (Array.getElem?_eq_some_iff.1 h).1
theorem AnBlk.below (h : AnBlk w B v) (hb : Below w.heap.size w w') : AnBlk w' B v := (hb.block B h.lt).trans h
theorem AnBlk.cell (h : AnBlk w B v) : w.cell? ⟨B, 0, none⟩ = some v := by rw [cell_of_row w B _ _ _ (0, 0) h]; rfl
end
def formOf (lex : List PE) (p : PPt) : List Int := match formAt lex p with | some x => x.2 | none => []
theorem baseA_eq (lex : List PE) (a : List PPt) : baseA lex a = a.flatMap (formOf lex) := rfl
theorem baseA_snoc (lex : List PE) (a : List PPt) (p : PPt) : baseA lex (a ++ [p]) = baseA lex a ++ formOf lex p := by
  simp only [baseA_eq, List.flatMap_append, List.flatMap_cons, List.flatMap_nil, List.append_nil]
def clsOf (lex : List PE) (p : PPt) : List Int := match formAt lex p with | some x => [x.1.cls] | none => []
theorem formOf_none {lex : List PE} {p : PPt} (h : formAt lex p = none) : formOf lex p = [] := by rw [formOf, h]
theorem clsOf_none {lex : List PE} {p : PPt} (h : formAt lex p = none) : clsOf lex p = [] := by rw [clsOf, h]
theorem formOf_some {lex : List PE} {p : PPt} {q : PE × List Int} (h : formAt lex p = some q) : formOf lex p = q.2 := by rw [formOf, h]
theorem clsOf_some {lex : List PE} {p : PPt} {q : PE × List Int} (h : formAt lex p = some q) : clsOf lex p = [q.1.cls] := by rw [clsOf, h]
theorem clsA_snoc (lex : List PE) (a : List PPt) (p : PPt) : clsA lex (a ++ [p]) = clsA lex a ++ clsOf lex p := by
  simp only [clsA, clsOf, List.filterMap_append, List.filterMap_cons, List.filterMap_nil]
  cases formAt lex p <;> rfl
theorem take_snoc {α : Type} {l : List α} {k : Nat} {x : α} (hd : l.drop k = x :: l.drop (k + 1)) : l.take (k + 1) = l.take k ++ [x] := by rw [List.take_add_one, ← List.head?_drop, hd]; rfl
/-- bounds on a lexicon that hold after Light -/
structure LxB (lex : List PE) : Prop where
  alts : ∀ p ∈ lex, p.alts.length ≤ 1000
  len : lex.length ≤ 100000
  sn : ∀ p ∈ lex, p.senses.length ≤ 100000
  form : ∀ p ∈ lex, ∀ f ∈ formsP p, f.length ≤ 24
theorem formAt_mem {lex : List PE} {p : PPt} {q : PE × List Int} (h : formAt lex p = some q) : getP lex p.e = some q.1 ∧ 0 ≤ p.a ∧ p.a < ((formsP q.1).length : Int) ∧ q.2 = (formsP q.1).getD p.a.toNat [] ∧ q.1 ∈ lex ∧ q.2 ∈ formsP q.1 := by
  unfold formAt at h
  split at h
  · cases h
  rename_i e he
  split at h
  · rename_i h1
    cases h
    refine ⟨he, h1.1, h1.2, rfl, List.mem_of_find?_eq_some he, ?_⟩
    have h2 : p.a.toNat < (formsP e).length := by omega
    simp only [List.getD, List.getElem?_eq_getElem h2, Option.getD_some]
    exact List.getElem_mem h2
  · cases h
theorem baseA_len {lex : List PE} (h : LxB lex) (a : List PPt) : (baseA lex a).length ≤ 24 * a.length := by
  induction a with
  | nil => simp [baseA]
  | cons p l ih =>
    simp only [baseA_eq, List.flatMap_cons, List.length_append, List.length_cons] at ih ⊢
    have : (formOf lex p).length ≤ 24 := by
      cases hf : formAt lex p with
      | none => rw [formOf_none hf]; simp
      | some q =>
        obtain ⟨_, _, _, _, h1, h2⟩ := formAt_mem hf
        rw [formOf_some hf]
        exact h.form _ h1 _ h2
    omega
theorem clsA_len (lex : List PE) (a : List PPt) : (clsA lex a).length ≤ a.length := List.length_filterMap_le _ _
set_option maxHeartbeats 8000000 in
set_option maxRecDepth 100000 in
theorem classes_any (g : GV) (G : PLang) (v : Value) (a : List PPt) (w : World) (hg : DpG w g G) (ha : RdPt w v a) (hn : a.length ≤ 1000) (hlx : LxB G.lex) :
    Calls Tryz.prog 46 #[.agg #[.slice g.i.A g.i.n g.i.c, .string g.on, .slice g.u.A g.u.n g.u.c, .slice g.l.A g.l.n g.l.c, .slice g.r.A g.r.n g.r.c, .int .i64 g.q, .slice g.s.A g.s.n g.s.c, .slice g.f.A g.f.n g.f.c, .slice g.x.A g.x.n g.x.c], .agg #[v]] w fun e' w' => (∃ v', e' = .returned v' ∧ RdI w' v' (clsA G.lex a)) ∧ Below w.heap.size w w' := by
  have HG := Lib.hid hg
  obtain ⟨A, n, c, rfl, _, hc63, HN, HR⟩ := ha.op
  have HAN := Lib.hid hn
  have HA := Lib.hid ha
  have HLX := Lib.hid hlx
  clear hg hn ha hlx
  go_enter Tryz.func46, Tryz.ntmps46
  go_upto_region 1 with (fail)
  generalize hW : World.alloc (World.alloc w _) _ = W
  have HBW : Hid (Below w.heap.size w W) := by rw [← hW]; exact bchain (al_below _ _) (al_below _ _)
  have HQ : Hid (LgBlk W w.heap.size g) := by rw [← hW]; exact LgBlk.below (heap_alloc_new w _) (al_below _ _)
  have HP : Hid (AnBlk W (w.heap.size + 1) (.slice A n c)) := by
    have h := heap_alloc_new (w.alloc (.cells #[.slice g.i.A g.i.n g.i.c, .string g.on, .slice g.u.A g.u.n g.u.c, .slice g.l.A g.l.n g.l.c, .slice g.r.A g.r.n g.r.c, .int .i64 g.q, .slice g.s.A g.s.n g.s.c, .slice g.f.A g.f.n g.f.c, .slice g.x.A g.x.n g.x.c] 36)) (.cells #[.slice A n c] 39)
    rw [World.size_alloc] at h
    rw [← hW]; exact h
  clear hW
  have pc := HP.out.cell
  go_wp2_with fail
  clear pc
  go_loopw [5, 14] (fun v5 v14 wr => ∃ k : Nat, k ≤ n ∧ v14 = .int .i64 k ∧ Hid (OwnI wr W.heap.size v5 (clsA G.lex (a.take k))) ∧ Hid (Below W.heap.size W wr)) (fun _ v14 _ => n - (intOf v14).toNat)
  case atStart => exact ⟨0, Nat.zero_le _, rfl, World.ownsRow_nil _ _ _ _, Below.refl _ _⟩
  case round =>
    obtain ⟨k, hk, rfl, HO, HBR⟩ := hrel
    obtain ⟨Ao, no, co, rfl, _, _, HNO, _⟩ := HO.out.rd.op
    by_cases hlt : k < n
    · obtain ⟨b, off, p, rfl, hb, hd, c0, c1, c2⟩ := (HR.out k hlt).below (bchain HBW.out HBR.out)
      have HTK := Lib.hid (take_snoc hd.out)
      have hk0 : (0 : Int) ≤ (k : Int) := by omega
      have hno : no ≤ 1000000 := by
        have h1 := clsA_len G.lex (a.take k)
        rw [HNO.out, List.length_take] at h1
        have := HAN.out
        have := HN.out
        omega
      obtain ⟨wo, rfl⟩ : ∃ wo : World, wo = wr := ⟨_, rfl⟩
      go_upto_region 5 with (fail)
      generalize hX : World.alloc wo _ = X
      have HXB : Hid (Below W.heap.size W X) := by rw [← hX]; exact bchain HBR.out (al_below _ _)
      have HXP : Hid (PtBlk X wo.heap.size p) := by rw [← hX]; exact heap_alloc_new wo _
      have HXO : Hid (OwnI X W.heap.size (.slice Ao no co) (clsA G.lex (a.take k))) := by rw [← hX]; exact own_below HO.out (al_below _ _)
      clear hX c0 c1 c2
      generalize wo.heap.size = gx at HXP ⊢
      obtain ⟨p0, p1, p2, pl⟩ := HXP.out.facts
      obtain ⟨z0, z1, z2, z3, z4, z5, z6, z7, z8, zl⟩ := (HQ.out.below HXB.out).facts
      go_wp2_with fail
      refine (form_any g G p _ (HG.out.below (bchain HBW.out HXB.out)) HLX.out.alts).mono ?_
      rintro e' w1 ⟨⟨x, Af, nf, cf, bb, rfl, hf⟩, hb1⟩
      have HB1 := Lib.hid (bchain HXB.out hb1)
      have HO1 := Lib.hid (own_below HXO.out hb1)
      have HFF := Lib.hid hf
      clear hb1 hf p0 p1 p2 pl z0 z1 z2 z3 z4 z5 z6 z7 z8 zl
      go_upto_region 6 with (fail)
      generalize hY : World.alloc w1 _ = Y
      have HYB : Hid (Below W.heap.size W Y) := by rw [← hY]; exact bchain HB1.out (al_below _ _)
      have HYO : Hid (OwnI Y W.heap.size (.slice Ao no co) (clsA G.lex (a.take k))) := by rw [← hY]; exact own_below HO1.out (al_below _ _)
      have HYE : Hid (EBlk Y w1.heap.size x) := by rw [← hY]; exact heap_alloc_new w1 _
      have HY1 : Hid (Below w1.heap.size w1 Y) := by rw [← hY]; exact al_below _ _
      have hbs : W.heap.size ≤ Y.heap.size := HYB.out.size
      clear hY
      cases bb
      · have HFN : Hid (formAt G.lex p = none) := by
          rcases HFF.out with h | ⟨q, h, _⟩
          · exact h.2
          · exact absurd h (by decide)
        have HS2 : Hid (clsA G.lex (a.take (k + 1)) = clsA G.lex (a.take k)) := by rw [Hid, HTK.out, clsA_snoc, clsOf_none HFN.out, List.append_nil]
        clear HFF HFN
        generalize w1.heap.size = gy at HYE ⊢
        go_wp2_with fail
        go_roundw
        case rel => exact ⟨k + 1, by omega, by go_num, by rw [Hid, HS2.out]; exact HYO.out, HYB.out⟩
        case measure => simp [intOf]; omega
      · obtain ⟨q, HFS, HDX, HRF⟩ : ∃ q, Hid (formAt G.lex p = some q) ∧ Hid (DpE w1 x q.1) ∧ Hid (RdI w1 (.slice Af nf cf) q.2) := by
          rcases HFF.out with h | ⟨q, _, h1, h2, h3⟩
          · exact absurd h.1 (by decide)
          · exact ⟨q, h1, h2, h3⟩
        have HRY := Lib.hid (HRF.out.below HY1.out)
        have HDY := Lib.hid (HDX.out.below HY1.out)
        have HLQ : Hid ((baseA G.lex (a.take k)).length + q.2.length ≤ 300000000) := by
          have h1 := baseA_len HLX.out (a.take k)
          rw [List.length_take] at h1
          obtain ⟨_, _, _, _, h3, h4⟩ := formAt_mem HFS.out
          have h2 := HLX.out.form _ h3 _ h4
          have := HAN.out
          rw [Hid]
          omega
        clear HFF
        generalize w1.heap.size = gy at HYE HY1 ⊢
        obtain ⟨y0, y1, y2, y3, y4, y5, y6, y7, yl⟩ := HYE.out.facts
        go_wp2_with (at_builtin; refine wpList_app_int rfl (.tmp 26) (.tmp 29) rfl W.heap.size (.slice Ao no co) (clsA G.lex (a.take k)) rfl HYO.out x.cls no HNO hno hbs rfl ?_; intro g' cap' w5 ho hge hg; have HO5 : Hid (OwnI w5 W.heap.size (.slice (some ⟨g', 0, none⟩) (no + 1) cap') (clsA G.lex (a.take k) ++ [q.1.cls])) := (by rw [← HDY.out.cls]; exact ho); have HB5 := Lib.hid (below_grown HYB.out (Nat.le_refl _) HYO.out hg); clear ho hg)
        go_roundw
        case rel => exact ⟨k + 1, by omega, by go_num, by rw [Hid, HTK.out, clsA_snoc, clsOf_some HFS.out]; exact HO5.out, HB5.out⟩
        case measure => simp [intOf]; omega
    · obtain rfl : n = k := by omega
      have HTF : Hid (a.take n = a) := by rw [Hid, ← HN.out, List.take_length]
      go_wp2_with fail
      go_ret
      refine ⟨⟨_, rfl, ?_⟩, bchain HBW.out HBR.out⟩
      have h := HO.out.rd
      rw [HTF.out] at h
      exact h
set_option maxHeartbeats 8000000 in
set_option maxRecDepth 100000 in
theorem base_any (g : GV) (G : PLang) (v : Value) (a : List PPt) (w : World) (hg : DpG w g G) (ha : RdPt w v a) (hn : a.length ≤ 1000) (hlx : LxB G.lex) :
    Calls Tryz.prog 21 #[.agg #[.slice g.i.A g.i.n g.i.c, .string g.on, .slice g.u.A g.u.n g.u.c, .slice g.l.A g.l.n g.l.c, .slice g.r.A g.r.n g.r.c, .int .i64 g.q, .slice g.s.A g.s.n g.s.c, .slice g.f.A g.f.n g.f.c, .slice g.x.A g.x.n g.x.c], .agg #[v]] w fun e' w' => (∃ v', e' = .returned v' ∧ RdI w' v' (baseA G.lex a)) ∧ Below w.heap.size w w' := by
  have HG := Lib.hid hg
  obtain ⟨A, n, c, rfl, _, hc63, HN, HR⟩ := ha.op
  have HAN := Lib.hid hn
  have HA := Lib.hid ha
  have HLX := Lib.hid hlx
  clear hg hn ha hlx
  go_enter Tryz.func21, Tryz.ntmps21
  go_upto_region 1 with (fail)
  generalize hW : World.alloc (World.alloc w _) _ = W
  have HBW : Hid (Below w.heap.size w W) := by rw [← hW]; exact bchain (al_below _ _) (al_below _ _)
  have HQ : Hid (LgBlk W w.heap.size g) := by rw [← hW]; exact LgBlk.below (heap_alloc_new w _) (al_below _ _)
  have HP : Hid (AnBlk W (w.heap.size + 1) (.slice A n c)) := by
    have h := heap_alloc_new (w.alloc (.cells #[.slice g.i.A g.i.n g.i.c, .string g.on, .slice g.u.A g.u.n g.u.c, .slice g.l.A g.l.n g.l.c, .slice g.r.A g.r.n g.r.c, .int .i64 g.q, .slice g.s.A g.s.n g.s.c, .slice g.f.A g.f.n g.f.c, .slice g.x.A g.x.n g.x.c] 36)) (.cells #[.slice A n c] 39)
    rw [World.size_alloc] at h
    rw [← hW]; exact h
  clear hW
  have pc := HP.out.cell
  go_wp2_with fail
  clear pc
  go_loopw [5, 14] (fun v5 v14 wr => ∃ k : Nat, k ≤ n ∧ v14 = .int .i64 k ∧ Hid (OwnI wr W.heap.size v5 (baseA G.lex (a.take k))) ∧ Hid (Below W.heap.size W wr)) (fun _ v14 _ => n - (intOf v14).toNat)
  case atStart => exact ⟨0, Nat.zero_le _, rfl, World.ownsRow_nil _ _ _ _, Below.refl _ _⟩
  case round =>
    obtain ⟨k, hk, rfl, HO, HBR⟩ := hrel
    obtain ⟨Ao, no, co, rfl, _, _, HNO, _⟩ := HO.out.rd.op
    by_cases hlt : k < n
    · obtain ⟨b, off, p, rfl, hb, hd, c0, c1, c2⟩ := (HR.out k hlt).below (bchain HBW.out HBR.out)
      have HTK := Lib.hid (take_snoc hd.out)
      have hk0 : (0 : Int) ≤ (k : Int) := by omega
      have hno : no ≤ 1000000 := by
        have h1 := baseA_len HLX.out (a.take k)
        rw [HNO.out, List.length_take] at h1
        have := HAN.out
        have := HN.out
        omega
      obtain ⟨wo, rfl⟩ : ∃ wo : World, wo = wr := ⟨_, rfl⟩
      go_upto_region 5 with (fail)
      generalize hX : World.alloc wo _ = X
      have HXB : Hid (Below W.heap.size W X) := by rw [← hX]; exact bchain HBR.out (al_below _ _)
      have HXP : Hid (PtBlk X wo.heap.size p) := by rw [← hX]; exact heap_alloc_new wo _
      have HXO : Hid (OwnI X W.heap.size (.slice Ao no co) (baseA G.lex (a.take k))) := by rw [← hX]; exact own_below HO.out (al_below _ _)
      clear hX c0 c1 c2
      generalize wo.heap.size = gx at HXP ⊢
      obtain ⟨p0, p1, p2, pl⟩ := HXP.out.facts
      obtain ⟨z0, z1, z2, z3, z4, z5, z6, z7, z8, zl⟩ := (HQ.out.below HXB.out).facts
      go_wp2_with fail
      refine (form_any g G p _ (HG.out.below (bchain HBW.out HXB.out)) HLX.out.alts).mono ?_
      rintro e' w1 ⟨⟨x, Af, nf, cf, bb, rfl, hf⟩, hb1⟩
      have HB1 := Lib.hid (bchain HXB.out hb1)
      have HO1 := Lib.hid (own_below HXO.out hb1)
      have HFF := Lib.hid hf
      clear hb1 hf p0 p1 p2 pl z0 z1 z2 z3 z4 z5 z6 z7 z8 zl
      go_upto_region 6 with (fail)
      generalize hY : World.alloc w1 _ = Y
      have HYB : Hid (Below W.heap.size W Y) := by rw [← hY]; exact bchain HB1.out (al_below _ _)
      have HYO : Hid (OwnI Y W.heap.size (.slice Ao no co) (baseA G.lex (a.take k))) := by rw [← hY]; exact own_below HO1.out (al_below _ _)
      have HYE : Hid (EBlk Y w1.heap.size x) := by rw [← hY]; exact heap_alloc_new w1 _
      have HY1 : Hid (Below w1.heap.size w1 Y) := by rw [← hY]; exact al_below _ _
      have hbs : W.heap.size ≤ Y.heap.size := HYB.out.size
      clear hY
      cases bb
      · have HFN : Hid (formAt G.lex p = none) := by
          rcases HFF.out with h | ⟨q, h, _⟩
          · exact h.2
          · exact absurd h (by decide)
        have HS2 : Hid (baseA G.lex (a.take (k + 1)) = baseA G.lex (a.take k)) := by rw [Hid, HTK.out, baseA_snoc, formOf_none HFN.out, List.append_nil]
        clear HFF HFN
        generalize w1.heap.size = gy at HYE ⊢
        go_wp2_with fail
        go_roundw
        case rel => exact ⟨k + 1, by omega, by go_num, by rw [Hid, HS2.out]; exact HYO.out, HYB.out⟩
        case measure => simp [intOf]; omega
      · obtain ⟨q, HFS, HDX, HRF⟩ : ∃ q, Hid (formAt G.lex p = some q) ∧ Hid (DpE w1 x q.1) ∧ Hid (RdI w1 (.slice Af nf cf) q.2) := by
          rcases HFF.out with h | ⟨q, _, h1, h2, h3⟩
          · exact absurd h.1 (by decide)
          · exact ⟨q, h1, h2, h3⟩
        have HRY := Lib.hid (HRF.out.below HY1.out)
        have HDY := Lib.hid (HDX.out.below HY1.out)
        have HLQ : Hid ((baseA G.lex (a.take k)).length + q.2.length ≤ 300000000) := by
          have h1 := baseA_len HLX.out (a.take k)
          rw [List.length_take] at h1
          obtain ⟨_, _, _, _, h3, h4⟩ := formAt_mem HFS.out
          have h2 := HLX.out.form _ h3 _ h4
          have := HAN.out
          rw [Hid]
          omega
        clear HFF
        generalize w1.heap.size = gy at HYE HY1 ⊢
        obtain ⟨y0, y1, y2, y3, y4, y5, y6, y7, yl⟩ := HYE.out.facts
        go_wp2_with (at_builtin; refine wpList_app_ints rfl (.tmp 26) (.tmp 27) rfl W.heap.size (.slice Ao no co) (baseA G.lex (a.take k)) rfl HYO.out (.slice Af nf cf) q.2 rfl HRY.out HLQ.out hbs ?_; intro v5 w5 ho hg _; have HO5 : Hid (OwnI w5 W.heap.size v5 (baseA G.lex (a.take k) ++ q.2)) := ho; have HB5 := Lib.hid (below_grown HYB.out (Nat.le_refl _) HYO.out hg); clear ho hg)
        go_roundw
        case rel => exact ⟨k + 1, by omega, by go_num, by rw [Hid, HTK.out, baseA_snoc, formOf_some HFS.out]; exact HO5.out, HB5.out⟩
        case measure => simp [intOf]; omega
    · obtain rfl : n = k := by omega
      have HTF : Hid (a.take n = a) := by rw [Hid, ← HN.out, List.take_length]
      go_wp2_with fail
      go_ret
      refine ⟨⟨_, rfl, ?_⟩, bchain HBW.out HBR.out⟩
      have h := HO.out.rd
      rw [HTF.out] at h
      exact h
end Go.Proofs.YtiopgbbggeimaaaGreat
