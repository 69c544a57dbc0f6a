/-
  Forms of an entry; the form of a part.
-/
import Derived.Test.YtiopgbbggeimaaaGreatKM
namespace Go.Proofs.YtiopgbbggeimaaaGreat
open Go.ChangeShapes Go.WideShapes Go.ChangeAt Go.RowKit
theorem infoL0 : (Tryz.prog.info? 31).map (fun i => (i.zero, i.size, i.bytes)) = some (some (.slice none 0 0), 1, 24) := by kernel_rfl
theorem wpList_app_rows {w : World} {ops : Array Oper} {rest : List Oper} {o : Oper} {a : Act} {Q : Exit → Act → World → Prop} (hgd : o.guard = none) (s x : Operand)
    (ho : o.op = .call { callee := .builtin .append, args := #[s, x], argTypes := #[80, 80] })
    (base : Nat) (v : Value) (us : List Value) (hs : a.eval s = v) (hown : w.ownsRow base 31 1 v us.length us) (vx : Value) (ua : List Value) (hx : a.eval x = vx) (hr : Rd w 1 vx ua.length ua) (h1 : ∀ u ∈ ua, u.oneCell' = true) (hl : us.length + ua.length ≤ 1000000) (hbase : base ≤ w.heap.size)
    (h : ∀ v' w', w'.ownsRow base 31 1 v' (us ++ ua).length (us ++ ua) → w.grownBy w' v.ownBlock → wpList Tryz.prog ops Q rest (a.put o.dst v') w') : wpList Tryz.prog ops Q (o :: rest) a w := by
  obtain ⟨i0, hi, hz0, hz1, hz2⟩ := info_parts infoL0
  refine wpList_plain hgd fun _ hK => wp_append_rd w s x 80 ho base 31 i0 _ 1 24 Tryz.underlying80 hi hz0 hz1 hz2 rfl (by decide) v us.length us hs hown vx ua.length ua hx hr h1 (by simp only [maxLen]; omega) (by omega) hbase ?_
  intro v' w' h2 h3 _
  refine hK _ _ (h v' w' ?_ h3)
  rw [List.length_append]
  exact h2
theorem own_newV (w : World) (base g : Nat) (t : TypeId) (x : Value) (hg : w.heap.size = g) (hb : base ≤ g) : (w.alloc (.cells #[x] t)).ownsRow base t 1 (.slice (some ⟨g, 0, none⟩) 1 1) 1 [x] := by
  subst hg
  exact ⟨rfl, .inr ⟨w.heap.size, 1, #[x], rfl, hb, heap_alloc_new w _, Nat.le_refl _, by simp [maxLen], rfl, rfl⟩⟩
theorem rdI_one {w : World} {v : Value} {l : List Int} (h : RdI w v l) : v.oneCell' = true := by
  obtain ⟨A, n, c, rfl, _⟩ := h.op
  rfl
/-- the forms of an entry, as a row of the call's own; what the slices hold lies in an earlier world -/
def FormsR (w0 : World) (base : Nat) (p : PE) (v : Value) (w : World) : Prop := ∃ us : List Value, w.ownsRow base 31 1 v us.length us ∧ us.length = (formsP p).length ∧ ∀ (i : Nat) (u : Value) (l : List Int), us[i]? = some u → (formsP p)[i]? = some l → RdI w0 u l
theorem rd_len2 {w : World} {size n : Nat} {v : Value} {xs : List Value} (h : Rd w size v n xs) : xs.length = n * size := by
  obtain ⟨_, _, _, _, _, h3, _⟩ := h
  exact h3
set_option maxHeartbeats 4000000 in
set_option maxRecDepth 100000 in
theorem forms_any (w0 : World) (e : EV) (p : PE) (w : World) (he : DpE w0 e p) (hb : Below w0.heap.size w0 w) (hn : p.alts.length ≤ 1000) :
    Calls Tryz.prog 80 #[.agg #[.int .i64 e.id, .slice e.f.A e.f.n e.f.c, .int .i64 e.cls, .slice e.a.A e.a.n e.a.c, .int .i64 e.main, .slice e.s.A e.s.n e.s.c, .slice e.l.A e.l.n e.l.c, .slice e.r.A e.r.n e.r.c]] w fun e' w' => (∃ v', e' = .returned v' ∧ FormsR w0 w.heap.size p v' w') ∧ Below w.heap.size w w' := by
  have HE := Lib.hid he
  have HB0 := Lib.hid hb
  obtain ⟨ua, hua, hul, hur⟩ := he.a
  have HUA := Lib.hid (Rd.below hua hb)
  have HUL := Lib.hid hul
  have HUR := Lib.hid hur
  have hn' := hn
  have HAN := Lib.hid hn
  clear he hb hua hul hur hn hn'
  go_enter Tryz.func80, Tryz.ntmps80
  go_upto_region 1 with (fail)
  generalize hW : World.alloc w _ = W
  have HBW : Hid (Below w.heap.size w W) := by rw [← hW]; exact al_below _ _
  have HQ : Hid (EBlk W w.heap.size e) := by rw [← hW]; exact heap_alloc_new w _
  clear hW
  obtain ⟨z0, z1, z2, z3, z4, z5, z6, z7, zl⟩ := HQ.out.facts
  have HNR : Hid ((W.alloc (.cells #[.slice e.f.A e.f.n e.f.c] 31)).ownsRow w.heap.size 31 1 (.slice (some ⟨W.heap.size, 0, none⟩) 1 1) ([.slice e.f.A e.f.n e.f.c] : List Value).length [.slice e.f.A e.f.n e.f.c]) := own_newV _ _ _ _ _ rfl HBW.out.size
  have HUA2 : Hid (Rd (W.alloc (.cells #[.slice e.f.A e.f.n e.f.c] 31)) 1 (.slice e.a.A e.a.n e.a.c) ua.length ua) := by
    rw [Hid, HUL.out]
    exact Rd.below HUA.out (bchain HBW.out (al_below _ _))
  have HOC : Hid (∀ u ∈ ua, u.oneCell' = true) := by
    intro u hu
    obtain ⟨i, hi⟩ := List.getElem?_of_mem hu
    have hi2 := (List.getElem?_eq_some_iff.1 hi).1
    rw [HUL.out] at hi2
    exact rdI_one (HUR.out i u _ hi (List.getElem?_eq_getElem hi2))
  have HLL : Hid (([.slice e.f.A e.f.n e.f.c] : List Value).length + ua.length ≤ 1000000) := by rw [Hid, HUL.out]; have := HAN.out; simp; omega
  have hbs : w.heap.size ≤ (W.alloc (.cells #[.slice e.f.A e.f.n e.f.c] 31)).heap.size := by have := HBW.out.size; simp; omega
  have HBA : Hid (Below w.heap.size w (W.alloc (.cells #[.slice e.f.A e.f.n e.f.c] 31))) := bchain HBW.out (al_below _ _)
  go_wp2_with (at_builtin; refine wpList_app_rows rfl (.tmp 5) (.tmp 7) rfl w.heap.size (.slice (some ⟨W.heap.size, 0, none⟩) 1 1) _ rfl HNR.out (.slice e.a.A e.a.n e.a.c) ua rfl HUA2.out HOC.out HLL.out hbs ?_; intro v' w5 ho hg; have HO5 := Lib.hid ho; have HB5 := Lib.hid (below_grown HBA.out (Nat.le_refl _) HNR.out hg); clear ho hg)
  go_ret
  refine ⟨⟨_, rfl, _, HO5.out, ?_, ?_⟩, HB5.out⟩
  · simp only [formsP, List.length_append, List.length_cons, List.length_nil, HUL.out]; omega
  · intro i u l hu hl
    cases i with
    | zero =>
      simp [formsP] at hu hl
      rw [← hu, ← hl]
      exact HE.out.f
    | succ i =>
      simp [formsP] at hu hl
      exact HUR.out i u l hu hl
set_option maxHeartbeats 4000000 in
set_option maxRecDepth 100000 in
theorem rforms_any (w0 : World) (e : EV) (p : PE) (w : World) (he : DpE w0 e p) (hb : Below w0.heap.size w0 w) (hn : p.alts.length ≤ 1000) :
    Calls Tryz.prog 64 #[.agg #[.int .i64 e.id, .slice e.f.A e.f.n e.f.c, .int .i64 e.cls, .slice e.a.A e.a.n e.a.c, .int .i64 e.main, .slice e.s.A e.s.n e.s.c, .slice e.l.A e.l.n e.l.c, .slice e.r.A e.r.n e.r.c]] w fun e' w' => (∃ v', e' = .returned v' ∧ FormsR w0 w.heap.size p v' w') ∧ Below w.heap.size w w' := by
  have HE := Lib.hid he
  have HB0 := Lib.hid hb
  obtain ⟨ua, hua, hul, hur⟩ := he.a
  have HUA := Lib.hid (Rd.below hua hb)
  have HUL := Lib.hid hul
  have HUR := Lib.hid hur
  have hn' := hn
  have HAN := Lib.hid hn
  clear he hb hua hul hur hn hn'
  go_enter Tryz.func64, Tryz.ntmps64
  go_upto_region 1 with (fail)
  generalize hW : World.alloc w _ = W
  have HBW : Hid (Below w.heap.size w W) := by rw [← hW]; exact al_below _ _
  have HQ : Hid (EBlk W w.heap.size e) := by rw [← hW]; exact heap_alloc_new w _
  clear hW
  obtain ⟨z0, z1, z2, z3, z4, z5, z6, z7, zl⟩ := HQ.out.facts
  have HNR : Hid ((W.alloc (.cells #[.slice e.f.A e.f.n e.f.c] 31)).ownsRow w.heap.size 31 1 (.slice (some ⟨W.heap.size, 0, none⟩) 1 1) ([.slice e.f.A e.f.n e.f.c] : List Value).length [.slice e.f.A e.f.n e.f.c]) := own_newV _ _ _ _ _ rfl HBW.out.size
  have HUA2 : Hid (Rd (W.alloc (.cells #[.slice e.f.A e.f.n e.f.c] 31)) 1 (.slice e.a.A e.a.n e.a.c) ua.length ua) := by
    rw [Hid, HUL.out]
    exact Rd.below HUA.out (bchain HBW.out (al_below _ _))
  have HOC : Hid (∀ u ∈ ua, u.oneCell' = true) := by
    intro u hu
    obtain ⟨i, hi⟩ := List.getElem?_of_mem hu
    have hi2 := (List.getElem?_eq_some_iff.1 hi).1
    rw [HUL.out] at hi2
    exact rdI_one (HUR.out i u _ hi (List.getElem?_eq_getElem hi2))
  have HLL : Hid (([.slice e.f.A e.f.n e.f.c] : List Value).length + ua.length ≤ 1000000) := by rw [Hid, HUL.out]; have := HAN.out; simp; omega
  have hbs : w.heap.size ≤ (W.alloc (.cells #[.slice e.f.A e.f.n e.f.c] 31)).heap.size := by have := HBW.out.size; simp; omega
  have HBA : Hid (Below w.heap.size w (W.alloc (.cells #[.slice e.f.A e.f.n e.f.c] 31))) := bchain HBW.out (al_below _ _)
  go_wp2_with (at_builtin; refine wpList_app_rows rfl (.tmp 5) (.tmp 7) rfl w.heap.size (.slice (some ⟨W.heap.size, 0, none⟩) 1 1) _ rfl HNR.out (.slice e.a.A e.a.n e.a.c) ua rfl HUA2.out HOC.out HLL.out hbs ?_; intro v' w5 ho hg; have HO5 := Lib.hid ho; have HB5 := Lib.hid (below_grown HBA.out (Nat.le_refl _) HNR.out hg); clear ho hg)
  go_ret
  refine ⟨⟨_, rfl, _, HO5.out, ?_, ?_⟩, HB5.out⟩
  · simp only [formsP, List.length_append, List.length_cons, List.length_nil, HUL.out]; omega
  · intro i u l hu hl
    cases i with
    | zero =>
      simp [formsP] at hu hl
      rw [← hu, ← hl]
      exact HE.out.f
    | succ i =>
      simp [formsP] at hu hl
      exact HUR.out i u l hu hl
end Go.Proofs.YtiopgbbggeimaaaGreat
