/-
  Rows of steps of the call's own; a row of slices whose elements are read at an earlier world; a step as an argument.
-/
import Derived.Test.YtcmfgblfgldonaaN29
import Derived.Test.YtcmfgblfgldonaaNP9
import Derived.Test.YtcmfgblfgldonaaN23
namespace Go.Proofs.Ytcmfgblfgldonaa
open Go.ChangeShapes Go.WideShapes Go.ChangeAt Go.RowKit Go.Deep Go.Joins
theorem infoS0 : (Try.prog.info? 42).map (fun i => (i.zero, i.size, i.bytes)) = some (some (.agg #[.int .i64 0, .int .i64 0, .int .i64 0]), 3, 24) := by kernel_rfl
def OwnS (w : World) (base : Nat) (v : Value) (l : List PStep) : Prop := w.ownsRow base 42 3 v l.length (stepsCells l)
theorem OwnS.rd {w : World} {base : Nat} {v : Value} {l : List PStep} (h : OwnS w base v l) : RdS w v l := Rd.own h
theorem OwnS.nil (w : World) (base : Nat) : OwnS w base (.slice none 0 0) [] := World.ownsRow_nil _ _ _ _
theorem oneCell_steps (l : List PStep) : ∀ u ∈ stepsCells l, u.oneCell' = true := by
  intro u hu
  unfold stepsCells at hu
  obtain ⟨s, _, h⟩ := List.mem_flatMap.1 hu
  simp [stepCells] at h
  rcases h with rfl | rfl | rfl <;> rfl
theorem stepsCells_append (a b : List PStep) : stepsCells (a ++ b) = stepsCells a ++ stepsCells b := by simp [stepsCells]
theorem wpList_app_steps {w : World} {ops : Array Oper} {rest : List Oper} {o : Oper} {a : Act} {Q : Exit → Act → World → Prop} (hgd : o.guard = none) (s x : Operand)
    (ho : o.op = .call { callee := .builtin .append, args := #[s, x], argTypes := #[22, 22] })
    (base : Nat) (v : Value) (l : List PStep) (hs : a.eval s = v) (hown : OwnS w base v l) (vx : Value) (xs : List PStep) (hx : a.eval x = vx) (hr : RdS w vx xs) (hl : l.length + xs.length ≤ 1000000) (hbase : base ≤ w.heap.size)
    (h : ∀ v' w', OwnS w' base v' (l ++ xs) → w.grownBy w' v.ownBlock → wpList Try.prog ops Q rest (a.put o.dst v') w') : wpList Try.prog ops Q (o :: rest) a w :=
  wpList_plain hgd fun _ hK => by
    obtain ⟨i0, hi, hz0, hz1, hz2⟩ := info_parts infoS0
    refine wp_append_rd w s x 22 ho base 42 i0 _ 3 24 Try.underlying22 hi hz0 hz1 hz2 rfl (by decide) v l.length _ hs hown vx xs.length _ hx hr (oneCell_steps xs) (by simp only [maxLen]; omega) (by omega) hbase ?_
    intro v' w' h1 h2 _
    refine hK _ _ (h v' w' ?_ h2)
    unfold OwnS
    rw [stepsCells_append, List.length_append]
    exact h1
theorem rdS_one (w : World) (g : Nat) (hg : w.heap.size = g) (s : PStep) : RdS (w.alloc (.cells #[.int .i64 s.fr, .int .i64 s.cls, .int .i64 s.tgt] 42)) (.slice (some ⟨g, 0, none⟩) 1 1) [s] := rdS_row w g hg [s] (by simp)
/-- a row of slices of the call's own, whose elements are read at W -/
def OwnM (W w : World) (v : Value) (Ls : List (List Int)) : Prop :=
  ∃ us : List Value, w.ownsRow W.heap.size 23 1 v Ls.length us ∧ us.length = Ls.length ∧ ∀ (i : Nat) (u : Value) (l : List Int), us[i]? = some u → Ls[i]? = some l → RdI W u l
theorem OwnM.nil (W w : World) : OwnM W w (.slice none 0 0) [] := ⟨[], World.ownsRow_nil _ _ _ _, rfl, fun i u l h => by simp at h⟩
theorem OwnM.rd {W w : World} {v : Value} {Ls : List (List Int)} (h : OwnM W w v Ls) (hb : Below W.heap.size W w) : RdL w v Ls := by
  obtain ⟨us, h1, h2, h3⟩ := h
  exact ⟨us, Rd.own h1, h2, fun i u l hu hl => (h3 i u l hu hl).below hb⟩
theorem OwnM.below {W w w' : World} {v : Value} {Ls : List (List Int)} (h : OwnM W w v Ls) (hb : Below w.heap.size w w') : OwnM W w' v Ls := by
  obtain ⟨us, h1, h2, h3⟩ := h
  exact ⟨us, own_below h1 hb, h2, h3⟩
theorem wpList_app_m {ops : Array Oper} {rest : List Oper} {o : Oper} {a : Act} {Q : Exit → Act → World → Prop} {W w : World} (hgd : o.guard = none) (s x : Operand)
    (ho : o.op = .call { callee := .builtin .append, args := #[s, x], argTypes := #[34, 34] })
    (v : Value) (Ls : List (List Int)) (hs : a.eval s = v) (hown : OwnM W w v Ls) (B : Option Addr) (n c : Nat) (l : List Int) (hvc : RdI W (.slice B n c) l) (m : Nat) (hm : Hid (Ls.length = m)) (hl : m ≤ 1000000) (hbase : Below W.heap.size W w)
    (hx : a.eval x = .slice (some ⟨w.heap.size, 0, none⟩) 1 1)
    (h : ∀ g' cap w', OwnM W w' (.slice (some ⟨g', 0, none⟩) (m + 1) cap) (Ls ++ [l]) → Below W.heap.size W w' → wpList Try.prog ops Q rest (a.put o.dst (.slice (some ⟨g', 0, none⟩) (m + 1) cap)) w') :
    wpList Try.prog ops Q (o :: rest) a (w.alloc (.cells #[.slice B n c] 23)) := by
  obtain rfl := hm.out
  obtain ⟨us, hu1, hu2, hu3⟩ := hown
  obtain ⟨i0, hi, hz0, hz1, hz2⟩ := info_parts infoL0
  have hbs := hbase.size
  refine wpList_append_own _ hgd s x 34 ho W.heap.size 23 i0 _ 1 24 Try.underlying34 hi hz0 hz1 hz2 rfl (by decide) v Ls.length us hs (World.ownsRow.alloc hu1 _) ⟨w.heap.size, 0, none⟩ 1 1
    [.slice B n c] hx rfl ?_ ?_ (by simp only [maxLen]; omega) (by omega) (by simp; omega) ?_
  · intro j u hu
    match j, hu with
    | 0, hu => simp at hu; subst hu; simp [go_sem, Addr.add]
  · intro u hu
    simp at hu
    subst hu
    rfl
  · intro v' w' h1 h2 _
    obtain ⟨g', cap, rfl, hg1, hg2⟩ := h1.form (by omega)
    refine h g' cap w' ⟨us ++ [.slice B n c], by simpa using h1, by simp [hu2], fun i u l' hu hl' => ?_⟩ ((hbase.alloc hbs _).grown h2 (by simp; omega) (fun k e => (World.ownsRow.lt hu1 k e).1))
    by_cases hil : i < us.length
    · rw [List.getElem?_append_left hil] at hu
      rw [List.getElem?_append_left (by omega)] at hl'
      exact hu3 i u l' hu hl'
    · have hi0 : i = us.length := by
        have := (List.getElem?_eq_some_iff.1 hu).1
        simp at this
        omega
      subst hi0
      rw [List.getElem?_append_right (Nat.le_refl _)] at hu
      rw [hu2, List.getElem?_append_right (Nat.le_refl _)] at hl'
      simp at hu hl'
      subst hu
      subst hl'
      exact hvc
section
variable {H : Type} {enc : TypeId × Value → H} {w : World} {base : Nat} {spare : Nat → Bool} {held : Bool}
theorem open_St {r : Reach} {b0 : Nat} {v : Value} {d : DataW H} {p : List MemPlace} (hv : Value.okWide Try.prog w r b0 42 v) (h : DataW.Trod enc Try.prog w base spare held 42 v d p) : ∃ s : PStep, v = .agg #[.int .i64 s.fr, .int .i64 s.cls, .int .i64 s.tgt] := by
  obtain ⟨v0, v1, v2, y0, y1, y2, n, rfl, _, _, t0, t1, t2⟩ := open_agg3 Try.underlying42 (by kernel_rfl) (by kernel_rfl) hv h
  obtain ⟨x, rfl⟩ := open_int1 t0
  obtain ⟨y, rfl⟩ := open_int1 t1
  obtain ⟨z, rfl⟩ := open_int1 t2
  exact ⟨⟨x, y, z⟩, rfl⟩
end
end Go.Proofs.Ytcmfgblfgldonaa
