/-
  Lists of lists: rows of the call's own whose elements are rows of the call's own; slices.Clone of ints; the words in plain terms.
-/
import Derived.Test.YtcmfgblfgldonaaSort
import Derived.Test.YtcmfgblfgldonaaNP2
namespace Go.Proofs.Ytcmfgblfgldonaa
open Go.ChangeShapes Go.WideShapes Go.ChangeAt Go.RowKit Go.Shelf
theorem infoL0 : (Try.prog.info? 23).map (fun i => (i.zero, i.size, i.bytes)) = some (some (.slice none 0 0), 1, 24) := by kernel_rfl
theorem own_slice {w : World} {base : Nat} {v : Value} {l : List Int} (h : OwnI w base v l) : v.oneCell' = true ∧ ∃ A c, v = .slice A l.length c := by
  rcases h.2 with ⟨rfl, h0⟩ | ⟨g, cap, cur, rfl, _⟩
  · exact ⟨rfl, none, 0, by rw [h0]⟩
  · exact ⟨rfl, _, _, rfl⟩
theorem clone_any (v : Value) (l : List Int) (w : World) (hv : RdI w v l) (hl : l.length ≤ 1000000) :
    Calls Try.prog 43 #[v] w fun e w' => (∃ v', e = .returned v' ∧ OwnI w' w.heap.size v' l) ∧ Below w.heap.size w w' := by
  obtain ⟨A, c, rfl, hmc, hc, hlen, hcell⟩ := hv
  rcases A with _ | ad
  · refine (slices_Clone_int_nil l.length c w).mono ?_
    rintro e w' ⟨rfl, rfl⟩
    have h0 : l.length = 0 := by
      rcases Nat.eq_zero_or_pos l.length with h0 | h0
      · exact h0
      · obtain ⟨_, _, h, _⟩ := hcell h0
        cases h
    have hn : l = [] := List.eq_nil_of_length_eq_zero h0
    subst hn
    exact ⟨⟨_, rfl, World.ownsRow_nil _ _ _ _⟩, Below.refl _ _⟩
  · rcases Nat.eq_zero_or_pos l.length with h0 | h0
    · have hn : l = [] := List.eq_nil_of_length_eq_zero h0
      subst hn
      refine (slices_Clone_int_zero ad c w).mono ?_
      rintro e w' ⟨v', rfl, ho, _, hb⟩
      exact ⟨⟨_, rfl, ho⟩, hb⟩
    · obtain ⟨b, off, h, _, hcc⟩ := hcell h0
      cases h
      refine (slices_Clone_int b off l.length c l w (Nat.le_refl _) (by omega) (fun j hj => ?_)).mono ?_
      · refine hcc j _ ?_
        simp [List.getElem?_eq_getElem hj, List.getD]
      · rintro e w' ⟨v', rfl, ho, _, hb⟩
        rw [List.take_of_length_le (Nat.le_refl _)] at ho
        exact ⟨⟨_, rfl, ho⟩, hb⟩
/-- a row of slices, each a row of the call's own -/
def OwnL (w : World) (base : Nat) (v : Value) (Ls : List (List Int)) : Prop :=
  ∃ us : List Value, w.ownsRow base 23 1 v Ls.length us ∧ us.length = Ls.length ∧ ∀ (i : Nat) (u : Value) (l : List Int), us[i]? = some u → Ls[i]? = some l → OwnI w base u l
theorem OwnL.nil (w : World) (base : Nat) : OwnL w base (.slice none 0 0) [] := ⟨[], World.ownsRow_nil _ _ _ _, rfl, fun i u l h => by simp at h⟩
theorem OwnL.below {w w' : World} {base : Nat} {v : Value} {Ls : List (List Int)} (h : OwnL w base v Ls) (hb : Below w.heap.size w w') : OwnL w' base v Ls := by
  obtain ⟨us, h1, h2, h3⟩ := h
  exact ⟨us, own_below h1 hb, h2, fun i u l hu hl => own_below (h3 i u l hu hl) hb⟩
theorem OwnL.base {w : World} {base base' : Nat} {v : Value} {Ls : List (List Int)} (h : OwnL w base v Ls) (hb : base' ≤ base) : OwnL w base' v Ls := by
  obtain ⟨us, h1, h2, h3⟩ := h
  exact ⟨us, own_base h1 hb, h2, fun i u l hu hl => own_base (h3 i u l hu hl) hb⟩
/-- cells of other types than lists of lists lie as they lay -/
def Gr (n₀ : Nat) (w w' : World) : Prop := Below n₀ w w' ∧ ∀ (k : Nat) (cs : Array Value) (t : TypeId) (m : Nat × Nat), w.heap[k]? = some (.cells cs t m) → t ≠ 34 → t ≠ 23 → w'.heap[k]? = some (.cells cs t m)
theorem Gr.refl (n₀ : Nat) (w : World) : Gr n₀ w w := ⟨Below.refl _ _, fun _ _ _ _ h _ _ => h⟩
theorem Gr.trans {n₀ : Nat} {a b c : World} (h : Gr n₀ a b) (k : Gr n₀ b c) : Gr n₀ a c := ⟨h.1.trans k.1, fun i cs t m h1 h2 h3 => k.2 i cs t m (h.2 i cs t m h1 h2 h3) h2 h3⟩
theorem Gr.of_below {n₀ : Nat} {w w' : World} (h : Below w.heap.size w w') (hn : n₀ ≤ w.heap.size) : Gr n₀ w w' := ⟨h.mono hn, fun k _ _ _ h1 _ _ => (h.block k (Array.getElem?_eq_some_iff.1 h1).1).trans h1⟩
theorem Gr.boxed {n₀ B : Nat} {w w' : World} {t : TypeId} {v : Value} (h : Gr n₀ w w') (hb : Boxed w B t v) (h1 : t ≠ 34) (h2 : t ≠ 23) : Boxed w' B t v := h.2 B _ _ _ hb h1 h2
theorem Gr.ownI {n₀ base : Nat} {w w' : World} {v : Value} {l : List Int} (h : Gr n₀ w w') (ho : OwnI w base v l) : OwnI w' base v l := by
  refine ⟨ho.1, ?_⟩
  rcases ho.2 with hn | ⟨g, cap, cur, rfl, hb, hg, rest⟩
  · exact .inl hn
  · exact .inr ⟨g, cap, cur, rfl, hb, h.2 g _ _ _ hg (by decide) (by decide), rest⟩
theorem ownI_grown {w w' : World} {base size n : Nat} {e : TypeId} {u v : Value} {l : List Int} {us : List Value} (ho : OwnI w base u l) (hv : w.ownsRow base e size v n us) (he : 3 ≠ e) (hg : w.grownBy w' v.ownBlock) : OwnI w' base u l := by
  refine World.ownsRow.kept ho hg ?_
  rcases ho.2 with ⟨rfl, _⟩ | ⟨g, cap, cur, rfl, _, hh, _⟩
  · exact .inl rfl
  · refine .inr fun e' => ?_
    obtain ⟨cs, hcs⟩ := row_type hv e'.symm
    rw [hh] at hcs
    cases hcs
    exact he rfl
theorem wpList_app_words {ops : Array Oper} {rest : List Oper} {o : Oper} {a : Act} {Q : Exit → Act → World → Prop} {w : World} (hgd : o.guard = none) (s x : Operand)
    (ho : o.op = .call { callee := .builtin .append, args := #[s, x], argTypes := #[34, 34] })
    (base : Nat) (v : Value) (Ls : List (List Int)) (hs : a.eval s = v) (hown : OwnL w base v Ls) (vc : Value) (l : List Int) (hvc : OwnI w base vc l) (m : Nat) (hm : Hid (Ls.length = m)) (hl : m ≤ 1000000) (hbase : base ≤ w.heap.size)
    (hx : a.eval x = .slice (some ⟨w.heap.size, 0, none⟩) 1 1)
    (h : ∀ g' cap w', OwnL w' base (.slice (some ⟨g', 0, none⟩) (m + 1) cap) (Ls ++ [l]) → base ≤ g' → Gr base w w' → (∀ B u, Boxed w B 34 u → Boxed w' B 34 u) → wpList Try.prog ops Q rest (a.put o.dst (.slice (some ⟨g', 0, none⟩) (m + 1) cap)) w') :
    wpList Try.prog ops Q (o :: rest) a (w.alloc (.cells #[vc] 23)) := by
  obtain rfl := hm.out
  obtain ⟨us, hu1, hu2, hu3⟩ := hown
  obtain ⟨i0, hi, hz0, hz1, hz2⟩ := info_parts infoL0
  refine wpList_append_own _ hgd s x 34 ho base 23 i0 _ 1 24 Try.underlying34 hi hz0 hz1 hz2 rfl (by decide) v Ls.length us hs (World.ownsRow.alloc hu1 _) ⟨w.heap.size, 0, none⟩ 1 1
    [vc] hx rfl ?_ ?_ (by simp only [maxLen]; omega) (by omega) (by simp; omega) ?_
  · intro j u hu
    match j, hu with
    | 0, hu => simp at hu; subst hu; simp [go_sem, Addr.add]
  · intro u hu
    simp at hu
    subst hu
    exact (own_slice hvc).1
  · intro v' w' h1 h2 _
    obtain ⟨g', cap, rfl, hg1, hg2⟩ := h1.form (by omega)
    have hg : w.grownBy w' v.ownBlock := ⟨h2.os, h2.tape, h2.output, Nat.le_trans (by simp) h2.size, fun k hk hne => (h2.block k (by simp; omega) hne).trans (Below.heap_alloc w _ k hk)⟩
    have hne : ∀ k cs t mm, w.heap[k]? = some (.cells cs t mm) → t ≠ 23 → some k ≠ v.ownBlock := fun k cs t mm hk ht e => by
      obtain ⟨cs', hc⟩ := row_type hu1 e.symm
      rw [hk] at hc
      cases hc
      exact ht rfl
    refine h g' cap w' ⟨us ++ [vc], by simpa using h1, by simp [hu2], fun i u l' hu hl' => ?_⟩ hg1 ⟨(Below.refl base w).grown hg hbase (fun k e => (World.ownsRow.lt hu1 k e).1), fun k cs t mm hk _ ht => (hg.block k (Array.getElem?_eq_some_iff.1 hk).1 (hne k cs t mm hk ht)).trans hk⟩ (fun B u hb => (hg.block B hb.lt (hne B _ _ _ hb (by decide))).trans hb)
    by_cases hil : i < us.length
    · rw [List.getElem?_append_left hil] at hu
      rw [List.getElem?_append_left (by omega)] at hl'
      exact ownI_grown (hu3 i u l' hu hl') hu1 (by decide) hg
    · have hi0 : i = us.length := by
        have := (List.getElem?_eq_some_iff.1 hu).1
        simp at this
        omega
      subst hi0
      rw [List.getElem?_append_right (Nat.le_refl _)] at hu
      rw [hu2, List.getElem?_append_right (Nat.le_refl _)] at hl'
      simp at hu hl'
      subst hu
      subst hl'
      exact ownI_grown hvc hu1 (by decide) hg
theorem OwnL.setBox {w : World} {base B : Nat} {v u : Value} {Ls : List (List Int)} (h : OwnL w base v Ls) (hb : Boxed w B 34 u) (v2 : Value) : OwnL (w.setCell ⟨B, 0, none⟩ v2) base v Ls := by
  obtain ⟨us, h1, h2, h3⟩ := h
  refine ⟨us, World.ownsRow.kept h1 (grownBy_setCell' w B v2) (.inr (hb.not_row (by decide) h1).symm), h2, fun i u l hu hl => ?_⟩
  have := h3 i u l hu hl
  exact World.ownsRow.kept this (grownBy_setCell' w B v2) (.inr (hb.not_row (by decide) this).symm)
theorem Gr.setBox {w : World} {n₀ B : Nat} {u : Value} (hb : Boxed w B 34 u) (hn : n₀ ≤ B) (v2 : Value) : Gr n₀ w (w.setCell ⟨B, 0, none⟩ v2) :=
  ⟨(Below.refl _ _).setCell (p := ⟨B, 0, none⟩) hn _, fun k cs t m hk h1 _ => (Below.heap_setCell _ _ _ k (fun e => by have e : k = B := e; subst e; rw [show w.heap[k]? = _ from hb] at hk; cases hk; exact h1 rfl)).trans hk⟩
/-! the words, in plain terms -/
def wF (N : PNet) (E L : Nat) : Nat → List Int → Nat → List (List Int)
  | 0, l, now => if now &&& L = 0 then [] else if (now &&& E) != 0 then [l] else []
  | k + 1, l, now => if now &&& L = 0 then [] else (if (now &&& E) != 0 then [l] else []) ++ (clsUp 20).flatMap fun c => wF N E L k (l ++ [c]) (afterF N.steps now c)
def cW : Nat → Nat
  | 0 => 1
  | k + 1 => 1 + 20 * cW k
theorem flat_len {α β : Type} (f : α → List β) (b : Nat) (l : List α) (h : ∀ x, x ∈ l → (f x).length ≤ b) : (l.flatMap f).length ≤ l.length * b := by
  induction l with
  | nil => simp
  | cons x l ih =>
    have h1 := h x (by simp)
    have h2 := ih (fun y hy => h y (by simp [hy]))
    simp only [List.flatMap_cons, List.length_append, List.length_cons, Nat.add_mul, Nat.one_mul]
    omega
theorem wF_len (N : PNet) (E L : Nat) : ∀ (k : Nat) (l : List Int) (now : Nat), (wF N E L k l now).length ≤ cW k
  | 0, l, now => by
    unfold wF cW
    split
    · simp
    · split <;> simp
  | k + 1, l, now => by
    have h := flat_len (fun c => wF N E L k (l ++ [c]) (afterF N.steps now c)) (cW k) (clsUp 20) (fun c _ => wF_len N E L k _ _)
    have h2 : (clsUp 20).length = 20 := rfl
    rw [h2] at h
    unfold wF cW
    split
    · simp
    · rw [List.length_append]
      have h3 : (if (now &&& E) != 0 then [l] else []).length ≤ 1 := by split <;> simp
      omega
theorem flat_part_len (N : PNet) (E L k i : Nat) (l : List Int) (now : Nat) : ((clsUp i).flatMap fun c => wF N E L k (l ++ [c]) (afterF N.steps now c)).length ≤ i * cW k := by
  have h := flat_len (fun c => wF N E L k (l ++ [c]) (afterF N.steps now c)) (cW k) (clsUp i) (fun c _ => wF_len N E L k _ _)
  have h2 : (clsUp i).length = i := by simp [clsUp]
  rwa [h2] at h
theorem flat_succ (N : PNet) (E L k i : Nat) (l : List Int) (now : Nat) : ((clsUp (i + 1)).flatMap fun c => wF N E L k (l ++ [c]) (afterF N.steps now c)) = ((clsUp i).flatMap fun c => wF N E L k (l ++ [c]) (afterF N.steps now c)) ++ wF N E L k (l ++ [(i : Int) + 1]) (afterF N.steps now ((i : Int) + 1)) := by
  rw [clsUp_succ, List.flatMap_append]; simp
end Go.Proofs.Ytcmfgblfgldonaa
