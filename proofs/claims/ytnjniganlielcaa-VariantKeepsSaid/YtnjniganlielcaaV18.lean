/-
  Copies of entries: Copy of the reference of entries.
-/
import Derived.Test.YtnjniganlielcaaV17
namespace Go.Proofs.Ytnjniganlielcaa
open Go.ChangeShapes Go.WideShapes Go.ChangeAt Go.RowKit
theorem infoL0 : (Try.prog.info? 28).map (fun i => (i.zero, i.size, i.bytes)) = some (some (.slice none 0 0), 1, 24) := by kernel_rfl
theorem infoK0 : (Try.prog.info? 69).map (fun i => (i.zero, i.size, i.bytes)) = some (some (.agg #[.int .i64 0, .int .i64 0]), 2, 16) := by kernel_rfl
theorem infoR0 : (Try.prog.info? 71).map (fun i => (i.zero, i.size, i.bytes)) = some (some (.agg #[.int .i64 0, .int .i64 0]), 2, 16) := by kernel_rfl
theorem oneCell_p2 (l : List P2) : ∀ u ∈ l.flatMap p2Cells, u.oneCell' = true := by
  intro u hu
  obtain ⟨e, _, he⟩ := List.mem_flatMap.1 hu
  simp only [p2Cells, List.mem_cons, List.not_mem_nil, or_false] at he
  rcases he with rfl | rfl <;> rfl
structure SmP (p : PE) : Prop where
  n : p.form.length + p.alts.length + p.senses.length + p.links.length + p.refs.length ≤ 1000
  a : ∀ x ∈ p.alts, x.length ≤ 1000
/-- append([]T{}, xs...): a row in new memory -/
theorem new_row {W W' : World} {e : TypeId} {size n : Nat} {v' : Value} {xs : List Value} (ho : W'.ownsRow W.heap.size e size v' (0 + n) ([] ++ xs)) (hg : (W.alloc (.cells #[] e)).grownBy W' (some W.heap.size)) :
    ∃ A c, v' = .slice A n c ∧ W'.ownsRow W.heap.size e size (.slice A n c) n xs ∧ Below W.heap.size W W' := by
  rw [Nat.zero_add, List.nil_append] at ho
  have hb : Below W.heap.size W W' := ((Below.refl _ _).alloc (Nat.le_refl _) _).grown hg (by simp) (fun k e => by cases e; exact Nat.le_refl _)
  rcases ho.2 with ⟨rfl, h0⟩ | ⟨g, cap, cur, rfl, _⟩
  · subst h0
    exact ⟨none, 0, rfl, ho, hb⟩
  · exact ⟨_, _, rfl, ho, hb⟩
/-! a row of slices, each a row of the call's own -/
theorem own_slice {w : World} {base : Nat} {v : Value} {l : List Int} (h : OwnI w base v l) : v.oneCell' = true ∧ ∃ A c, v = .slice A l.length c := by
  rcases h.2 with ⟨rfl, h0⟩ | ⟨g, cap, cur, rfl, _⟩
  · exact ⟨rfl, none, 0, by rw [h0]⟩
  · exact ⟨rfl, _, _, rfl⟩
def OwnL (w : World) (base : Nat) (v : Value) (Ls : List (List Int)) : Prop :=
  ∃ us : List Value, w.ownsRow base 28 1 v Ls.length us ∧ us.length = Ls.length ∧ ∀ (i : Nat) (u : Value) (l : List Int), us[i]? = some u → Ls[i]? = some l → OwnI w base u l
theorem OwnL.below {w w' : World} {base : Nat} {v : Value} {Ls : List (List Int)} (h : OwnL w base v Ls) (hb : Below w.heap.size w w') : OwnL w' base v Ls := by
  obtain ⟨us, h1, h2, h3⟩ := h
  exact ⟨us, own_below h1 hb, h2, fun i u l hu hl => own_below (h3 i u l hu hl) hb⟩
theorem OwnL.rd {w : World} {base : Nat} {v : Value} {Ls : List (List Int)} (h : OwnL w base v Ls) : RdL w v Ls := by
  obtain ⟨us, h1, h2, h3⟩ := h
  exact ⟨us, Rd.own h1, h2, fun i u l hu hl => (h3 i u l hu hl).rd⟩
theorem ownI_grown {w w' : World} {base base' size n : Nat} {e : TypeId} {u v : Value} {l : List Int} {us : List Value} (ho : OwnI w base u l) (hv : w.ownsRow base' e size v n us) (he : 3 ≠ e) (hg : w.grownBy w' v.ownBlock) : OwnI w' base u l := by
  refine World.ownsRow.kept ho hg ?_
  rcases ho.2 with ⟨rfl, _⟩ | ⟨g, cap, cur, rfl, _, hh, _⟩
  · exact .inl rfl
  · refine .inr fun e' => ?_
    obtain ⟨cs, hcs⟩ := row_type hv e'.symm
    rw [hh] at hcs
    cases hcs
    exact he rfl
theorem wpList_app_words {ops : Array Oper} {rest : List Oper} {o : Oper} {a : Act} {Q : Exit → Act → World → Prop} {w : World} (hgd : o.guard = none) (s x : Operand)
    (ho : o.op = .call { callee := .builtin .append, args := #[s, x], argTypes := #[29, 29] })
    (base : Nat) (v : Value) (Ls : List (List Int)) (hs : a.eval s = v) (hown : OwnL w base v Ls) (vc : Value) (l : List Int) (hvc : OwnI w base vc l) (m : Nat) (hm : Hid (Ls.length = m)) (hl : m ≤ 1000000) (hbase : base ≤ w.heap.size)
    (hx : a.eval x = .slice (some ⟨w.heap.size, 0, none⟩) 1 1)
    (h : ∀ g' cap w', OwnL w' base (.slice (some ⟨g', 0, none⟩) (m + 1) cap) (Ls ++ [l]) → base ≤ g' → w.grownBy w' v.ownBlock → wpList Try.prog ops Q rest (a.put o.dst (.slice (some ⟨g', 0, none⟩) (m + 1) cap)) w') :
    wpList Try.prog ops Q (o :: rest) a (w.alloc (.cells #[vc] 28)) := by
  obtain rfl := hm.out
  obtain ⟨us, hu1, hu2, hu3⟩ := hown
  obtain ⟨i0, hi, hz0, hz1, hz2⟩ := info_parts infoL0
  refine wpList_append_own _ hgd s x 29 ho base 28 i0 _ 1 24 Try.underlying29 hi hz0 hz1 hz2 rfl (by decide) v Ls.length us hs (World.ownsRow.alloc hu1 _) ⟨w.heap.size, 0, none⟩ 1 1
    [vc] hx rfl ?_ ?_ (by simp only [maxLen]; omega) (by omega) (by simp; omega) ?_
  · intro j u hu
    match j, hu with
    | 0, hu => simp at hu; subst hu; simp [go_sem, Addr.add]
  · intro u hu
    simp at hu
    subst hu
    exact (own_slice hvc).1
  · intro v' w' h1 h2 _
    obtain ⟨g', cap, rfl, hg1, hg2⟩ := h1.form (by omega)
    have hg : w.grownBy w' v.ownBlock := ⟨h2.os, h2.tape, h2.output, Nat.le_trans (by simp) h2.size, fun k hk hne => (h2.block k (by simp; omega) hne).trans (Below.heap_alloc w _ k hk)⟩
    refine h g' cap w' ⟨us ++ [vc], by simpa using h1, by simp [hu2], fun i u l' hu hl' => ?_⟩ hg1 hg
    by_cases hil : i < us.length
    · rw [List.getElem?_append_left hil] at hu
      rw [List.getElem?_append_left (by omega)] at hl'
      exact ownI_grown (hu3 i u l' hu hl') hu1 (by decide) hg
    · have hi0 : i = us.length := by
        have := (List.getElem?_eq_some_iff.1 hu).1
        simp at this
        omega
      subst hi0
      rw [List.getElem?_append_right (Nat.le_refl _)] at hu
      rw [hu2, List.getElem?_append_right (Nat.le_refl _)] at hl'
      simp at hu hl'
      subst hu
      subst hl'
      exact ownI_grown hvc hu1 (by decide) hg
theorem OwnL.row {w : World} {base : Nat} {v : Value} {Ls : List (List Int)} (h : OwnL w base v Ls) : ∃ us : List Value, w.ownsRow base 28 1 v Ls.length us := by obtain ⟨us, h1, _⟩ := h; exact ⟨us, h1⟩
theorem OwnL.set {w : World} {base : Nat} {v : Value} {Ls : List (List Int)} (h : OwnL w base v Ls) {B : Nat} (hB : B < base) (j : Nat) (u : Value) : OwnL (w.setCell ⟨B, j, none⟩ u) base v Ls := by
  obtain ⟨us, h1, h2, h3⟩ := h
  refine ⟨us, own_setCell h1 (fun e => ?_) _ _, h2, fun i x l hx hl => own_setCell (h3 i x l hx hl) (fun e => ?_) _ _⟩
  · have := (World.ownsRow.lt h1 _ e).1; omega
  · have := (World.ownsRow.lt (h3 i x l hx hl) _ e).1; omega
theorem own_set_lt {w : World} {base size n : Nat} {e : TypeId} {v : Value} {xs : List Value} (h : w.ownsRow base e size v n xs) {B : Nat} (hB : B < base) (j : Nat) (u : Value) : (w.setCell ⟨B, j, none⟩ u).ownsRow base e size v n xs :=
  own_setCell h (fun e => by have := (World.ownsRow.lt h _ e).1; omega) _ _
/-! the box of an entry, one slice of it turned -/
section
variable {w : World} {R : Nat} {e : EV}
theorem EBlk.setF (h : EBlk w R e) (A : Option Addr) (n c : Nat) : EBlk (w.setCell ⟨R, 1, none⟩ (.slice A n c)) R { e with f := ⟨A, n, c⟩ } := by unfold EBlk at h ⊢; simp [World.setCell, Array.getElem?_modify, h]
theorem EBlk.setA (h : EBlk w R e) (A : Option Addr) (n c : Nat) : EBlk (w.setCell ⟨R, 3, none⟩ (.slice A n c)) R { e with a := ⟨A, n, c⟩ } := by unfold EBlk at h ⊢; simp [World.setCell, Array.getElem?_modify, h]
theorem EBlk.setS (h : EBlk w R e) (A : Option Addr) (n c : Nat) : EBlk (w.setCell ⟨R, 5, none⟩ (.slice A n c)) R { e with s := ⟨A, n, c⟩ } := by unfold EBlk at h ⊢; simp [World.setCell, Array.getElem?_modify, h]
theorem EBlk.setL (h : EBlk w R e) (A : Option Addr) (n c : Nat) : EBlk (w.setCell ⟨R, 6, none⟩ (.slice A n c)) R { e with l := ⟨A, n, c⟩ } := by unfold EBlk at h ⊢; simp [World.setCell, Array.getElem?_modify, h]
theorem EBlk.setR (h : EBlk w R e) (A : Option Addr) (n c : Nat) : EBlk (w.setCell ⟨R, 7, none⟩ (.slice A n c)) R { e with r := ⟨A, n, c⟩ } := by unfold EBlk at h ⊢; simp [World.setCell, Array.getElem?_modify, h]
theorem EBlk.far (h : EBlk w R e) {B : Nat} (hne : R ≠ B) (j : Nat) (u : Value) : EBlk (w.setCell ⟨B, j, none⟩ u) R e := (Below.heap_setCell w ⟨B, j, none⟩ u R hne).trans h
end
theorem own_grown {w w' : World} {base base' size size' m n : Nat} {t e : TypeId} {u v : Value} {xs us : List Value} (ho : w.ownsRow base t size' u m xs) (hv : w.ownsRow base' e size v n us) (he : t ≠ e) (hg : w.grownBy w' v.ownBlock) : w'.ownsRow base t size' u m xs := by
  refine World.ownsRow.kept ho hg ?_
  rcases ho.2 with ⟨rfl, _⟩ | ⟨g, cap, cur, rfl, _, hh, _⟩
  · exact .inl rfl
  · refine .inr fun e' => ?_
    obtain ⟨cs, hcs⟩ := row_type hv e'.symm
    rw [hh] at hcs
    cases hcs
    exact he rfl
/-- an entry whose rows are the call's own -/
structure DoE (w : World) (base : Nat) (e : EV) (p : PE) : Prop where
  id : e.id = p.id
  cls : e.cls = p.cls
  main : e.main = p.main
  f : w.ownsRow base 3 1 (.slice e.f.A e.f.n e.f.c) p.form.length (p.form.map (Value.int .i64))
  a : OwnL w base (.slice e.a.A e.a.n e.a.c) p.alts
  s : w.ownsRow base 41 2 (.slice e.s.A e.s.n e.s.c) p.senses.length (p.senses.flatMap seCells)
  l : w.ownsRow base 69 2 (.slice e.l.A e.l.n e.l.c) p.links.length (p.links.flatMap p2Cells)
  r : w.ownsRow base 71 2 (.slice e.r.A e.r.n e.r.c) p.refs.length (p.refs.flatMap p2Cells)
theorem OwnL.base {w : World} {base base' : Nat} {v : Value} {Ls : List (List Int)} (h : OwnL w base v Ls) (hb : base' ≤ base) : OwnL w base' v Ls := by
  obtain ⟨us, h1, h2, h3⟩ := h
  exact ⟨us, own_base h1 hb, h2, fun i u l hu hl => own_base (h3 i u l hu hl) hb⟩
section
variable {w w' : World} {b0 b1 : Nat} {e : EV} {p : PE}
theorem DoE.rd (h : DoE w b0 e p) : DpE w e p := ⟨h.id, h.cls, h.main, Rd.own h.f, h.a.rd, Rd.own h.s, Rd.own h.l, Rd.own h.r⟩
theorem DoE.base (h : DoE w b0 e p) (hb : b1 ≤ b0) : DoE w b1 e p := ⟨h.id, h.cls, h.main, own_base h.f hb, h.a.base hb, own_base h.s hb, own_base h.l hb, own_base h.r hb⟩
theorem DoE.below (h : DoE w b0 e p) (hb : Below w.heap.size w w') : DoE w' b0 e p := ⟨h.id, h.cls, h.main, own_below h.f hb, OwnL.below h.a hb, own_below h.s hb, own_below h.l hb, own_below h.r hb⟩
theorem DoE.grown {v : Value} {n : Nat} {us : List Value} (h : DoE w b0 e p) (hv : w.ownsRow b1 34 8 v n us) (hg : w.grownBy w' v.ownBlock) : DoE w' b0 e p := by
  refine ⟨h.id, h.cls, h.main, own_grown h.f hv (by decide) hg, ?_, own_grown h.s hv (by decide) hg, own_grown h.l hv (by decide) hg, own_grown h.r hv (by decide) hg⟩
  obtain ⟨ws, h1, h2, h3⟩ := h.a
  exact ⟨ws, own_grown h1 hv (by decide) hg, h2, fun i u l hu hl => own_grown (h3 i u l hu hl) hv (by decide) hg⟩
end
end Go.Proofs.Ytnjniganlielcaa
