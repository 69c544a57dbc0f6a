/-
  Plain words: the lists of spellings are small where the ways are few, and each text stands in them once.
-/
import Derived.Test.YtokbclpdpegicaaW29
namespace Go.Proofs.Ytokbclpdpegicaa
open Go.ChangeShapes Go.WideShapes Go.ChangeAt Go.RowKit
theorem growR_add (us : List PU) (p : PU) : ∀ (T acc : List ByteArray), (growR us p T acc).length ≤ acc.length + T.length
  | [], _ => Nat.le_refl _
  | e :: r, acc => by
    rw [growR]
    refine Nat.le_trans (growR_add us p r _) ?_
    split
    · simp only [List.length_cons]; omega
    · simp only [List.length_append, List.length_cons, List.length_nil]; omega
theorem capC_ge (w C : List Int) (hC : ∀ j, In10 (C.getD j 0)) : ∀ (l : List PU) (a : Int), In10 a → a ≤ capC w C l a
  | [], _, _ => Int.le_refl _
  | p :: r, a, h => by
    rw [capC]
    have hj := hC (p.s.length - 1)
    have h2 : In10 (if preR w p.s = true then (if a + C.getD (p.s.length - 1) 0 < 10000 then a + C.getD (p.s.length - 1) 0 else 10000) else a) := by
      unfold In10 at *
      split
      · split <;> omega
      · exact h
    refine Int.le_trans ?_ (capC_ge w C hC r _ h2)
    unfold In10 at *
    split
    · split <;> omega
    · exact Int.le_refl _
theorem capC_has (w C : List Int) (hC : ∀ j, In10 (C.getD j 0)) {p : PU} (hp : preR w p.s = true) : ∀ (l : List PU) (a : Int), In10 a → p ∈ l → C.getD (p.s.length - 1) 0 ≤ capC w C l a
  | [], _, _, h => by cases h
  | q :: r, a, h, hm => by
    rw [capC]
    have h2 : In10 (if preR w q.s = true then (if a + C.getD (q.s.length - 1) 0 < 10000 then a + C.getD (q.s.length - 1) 0 else 10000) else a) := by
      have hj := hC (q.s.length - 1)
      unfold In10 at *
      split
      · split <;> omega
      · exact h
    rcases List.mem_cons.1 hm with e | e
    · subst e
      refine Int.le_trans ?_ (capC_ge w C hC r _ h2)
      have hj := hC (p.s.length - 1)
      rw [if_pos hp]
      unfold In10 at *
      split <;> omega
    · exact capC_has w C hC hp r _ h2 e
theorem endR_cap (us : List PU) (w C : List Int) (T : List (List ByteArray)) (hC : ∀ j, In10 (C.getD j 0)) (hT : ∀ j, C.getD j 0 < 10000 → ((T.getD j []).length : Int) ≤ C.getD j 0) :
    ∀ (l : List PU) (acc : List ByteArray) (a : Int), In10 a → (acc.length : Int) ≤ a → capC w C l a < 10000 → ((endR us w T l acc).length : Int) ≤ capC w C l a
  | [], _, _, _, h, _ => h
  | p :: r, acc, a, hin, h, hlt => by
    rw [capC] at hlt ⊢
    rw [endR]
    have hj := hC (p.s.length - 1)
    have h2 : In10 (if preR w p.s = true then (if a + C.getD (p.s.length - 1) 0 < 10000 then a + C.getD (p.s.length - 1) 0 else 10000) else a) := by
      unfold In10 at *
      split
      · split <;> omega
      · exact hin
    have h3 := capC_ge w C hC r _ h2
    refine endR_cap us w C T hC hT r _ _ h2 ?_ hlt
    cases hp : preR w p.s
    · simpa using h
    · rw [hp, if_pos rfl] at h3 hlt
      rw [if_pos rfl, if_pos rfl]
      have h4 := growR_add us p (T.getD (p.s.length - 1) []) acc
      have h5 : a + C.getD (p.s.length - 1) 0 < 10000 := by
        by_cases hc : a + C.getD (p.s.length - 1) 0 < 10000
        · exact hc
        · rw [if_neg hc] at h3 hlt; omega
      rw [if_pos h5]
      have h6 := hT (p.s.length - 1) (by unfold In10 at *; omega)
      omega
theorem getD_cons_succ' {α : Type} (x : α) (l : List α) (j : Nat) (d : α) : (x :: l).getD (j + 1) d = l.getD j d := by simp
theorem getD_cons_zero' {α : Type} (x : α) (l : List α) (d : α) : (x :: l).getD 0 d = x := by simp
theorem etab_cap (us : List PU) (ws : List Int) (R : Nat → Bool) (k : Nat) : ∀ j, (capT us ws k).getD j 0 < 10000 → (((etab us ws R k).getD j []).length : Int) ≤ (capT us ws k).getD j 0 := by
  induction k with
  | zero =>
    intro j _
    cases j with
    | zero => simp [etab, capT]
    | succ j => simp [etab, capT]
  | succ k ih =>
    intro j
    rw [etab, capT]
    cases j with
    | zero =>
      rw [getD_cons_zero', getD_cons_zero']
      intro h
      split
      · exact endR_cap us _ _ _ (capT_in us ws k) ih us [] 0 (by simp [In10]) (by simp) h
      · exact (capC_in _ _ (capT_in us ws k) us 0 (by simp [In10])).1
    | succ j =>
      rw [getD_cons_succ', getD_cons_succ']
      exact ih j
theorem capT_drop (us : List PU) (ws : List Int) (i j : Nat) : (capT us ws (i + j)).getD j 0 = (capT us ws i).getD 0 0 := by
  induction j with
  | zero => rfl
  | succ j ih => rw [← Nat.add_assoc, capT, getD_cons_succ']; exact ih
theorem etab_drop (us : List PU) (ws : List Int) (R : Nat → Bool) (i j : Nat) : (etab us ws R (i + j)).getD j [] = (etab us ws R i).getD 0 [] := by
  induction j with
  | zero => rfl
  | succ j ih => rw [← Nat.add_assoc, etab, getD_cons_succ']; exact ih
theorem reach_cap (us : List PU) (ws : List Int) (hg : ∀ p ∈ us, GoodU p) {a : Nat} (h : Reach us ws a) : ∀ k, a + k = ws.length → (capT us ws k).getD 0 0 ≤ (capT us ws ws.length).getD 0 0 := by
  induction h with
  | zero => intro k hk; rw [show k = ws.length by omega]; exact Int.le_refl _
  | @step a u _ hu hp ih =>
    intro k hk
    have h1 := (hg u hu).2.1
    obtain ⟨m, hm⟩ : ∃ m, u.s.length = m + 1 := ⟨u.s.length - 1, by omega⟩
    have hi := ih (k + m + 1) (by omega)
    refine Int.le_trans ?_ hi
    rw [capT, getD_cons_zero']
    have h2 := capC_has (ws.drop (ws.length - (k + m + 1))) (capT us ws (k + m)) (capT_in us ws (k + m)) (p := u) (by rw [show ws.length - (k + m + 1) = a by omega]; exact hp) us 0 (by simp [In10]) hu
    rw [hm, Nat.add_sub_cancel, capT_drop] at h2
    exact h2
theorem fine_len {us : List PU} {ws : List Int} {M : List Bool} (hg : ∀ p ∈ us, GoodU p) (hM : GoodR us ws M) (hw : (capT us ws ws.length).getD 0 0 ≤ 500) : ∀ k, k ≤ ws.length → ∀ j, ((etab us ws (fun i => M.getD i false) k).getD j []).length ≤ 500 := by
  intro k
  induction k with
  | zero => intro _ j; cases j <;> simp [etab]
  | succ k ih =>
    intro hk j
    cases j with
    | zero =>
      cases hR : M.getD (ws.length - (k + 1)) false
      · rw [etab, getD_cons_zero', if_neg (by simpa using hR)]; simp
      · have h1 := reach_cap us ws hg (hM.real _ hR) (k + 1) (by omega)
        have h2 := etab_cap us ws (fun i => M.getD i false) (k + 1) 0 (by omega)
        omega
    | succ j =>
      rw [etab, getD_cons_succ']
      exact ih (by omega) j
/-- the unit p is taken at the beginning of the text s: no unit with a longer graph is there -/
def Tk (us : List PU) (s : ByteArray) (p : PU) : Prop := begB s p.g = true ∧ us.any (overB s p.g) = false
theorem begB_append (g e : ByteArray) : begB (g ++ e) g = true := by
  refine (begB_iff _ _).2 ⟨by rw [ByteArray.size_append]; omega, ?_⟩
  apply bytes_inj
  rw [ByteArray.toList_eq, ByteArray.toList_eq]
  simp [ByteArray.data_extract]
  exact List.take_of_length_le (by rw [Array.length_toList]; exact Nat.le_refl _)
theorem tk_size {us : List PU} {s : ByteArray} {p q : PU} (hp : Tk us s p) (hq : Tk us s q) (hpu : p ∈ us) (hqu : q ∈ us) : p.g = q.g := by
  have h1 : q.g.size ≤ p.g.size := by
    have := List.any_eq_false.1 hp.2 q hqu
    simp only [overB, hq.1, Bool.and_true, decide_eq_true_eq] at this
    omega
  have h2 : p.g.size ≤ q.g.size := by
    have := List.any_eq_false.1 hq.2 p hpu
    simp only [overB, hp.1, Bool.and_true, decide_eq_true_eq] at this
    omega
  have h3 := ((begB_iff _ _).1 hp.1).2
  have h4 := ((begB_iff _ _).1 hq.1).2
  rw [← h3, ← h4, show p.g.size = q.g.size by omega]
theorem mem_growR (us : List PU) (p : PU) (s : ByteArray) : ∀ (T acc : List ByteArray), s ∈ growR us p T acc ↔ s ∈ acc ∨ ∃ e ∈ T, s = p.g ++ e ∧ Tk us s p
  | [], acc => by simp [growR]
  | e :: r, acc => by
    rw [growR, mem_growR us p s r]
    cases h : us.any (overB (p.g ++ e) p.g)
    · rw [if_neg (by simp)]
      constructor
      · rintro (h1 | ⟨e', h1, h2⟩)
        · rcases List.mem_append.1 h1 with h1 | h1
          · exact .inl h1
          · have h1 := List.mem_singleton.1 h1
            exact .inr ⟨e, List.mem_cons_self, h1, by rw [h1]; exact ⟨begB_append _ _, h⟩⟩
        · exact .inr ⟨e', List.mem_cons_of_mem _ h1, h2⟩
      · rintro (h1 | ⟨e', h1, h2⟩)
        · exact .inl (List.mem_append_left _ h1)
        · rcases List.mem_cons.1 h1 with rfl | h1
          · exact .inl (List.mem_append_right _ (List.mem_singleton.2 h2.1))
          · exact .inr ⟨e', h1, h2⟩
    · rw [if_pos rfl]
      constructor
      · rintro (h1 | ⟨e', h1, h2⟩)
        · exact .inl h1
        · exact .inr ⟨e', List.mem_cons_of_mem _ h1, h2⟩
      · rintro (h1 | ⟨e', h1, h2⟩)
        · exact .inl h1
        · rcases List.mem_cons.1 h1 with rfl | h1
          · rw [← h2.1, h2.2.2] at h; cases h
          · exact .inr ⟨e', h1, h2⟩
theorem mem_endR (us : List PU) (w : List Int) (T : List (List ByteArray)) (s : ByteArray) : ∀ (l : List PU) (acc : List ByteArray), s ∈ endR us w T l acc ↔ s ∈ acc ∨ ∃ p ∈ l, preR w p.s = true ∧ ∃ e ∈ T.getD (p.s.length - 1) [], s = p.g ++ e ∧ Tk us s p
  | [], acc => by simp [endR]
  | p :: r, acc => by
    rw [endR, mem_endR us w T s r]
    cases h : preR w p.s
    · rw [if_neg (by simp)]
      constructor
      · rintro (h1 | ⟨q, h1, h2⟩)
        · exact .inl h1
        · exact .inr ⟨q, List.mem_cons_of_mem _ h1, h2⟩
      · rintro (h1 | ⟨q, h1, h2⟩)
        · exact .inl h1
        · rcases List.mem_cons.1 h1 with rfl | h1
          · rw [h] at h2; cases h2.1
          · exact .inr ⟨q, h1, h2⟩
    · rw [if_pos rfl, mem_growR]
      constructor
      · rintro ((h1 | h1) | ⟨q, h1, h2⟩)
        · exact .inl h1
        · exact .inr ⟨p, List.mem_cons_self, h, h1⟩
        · exact .inr ⟨q, List.mem_cons_of_mem _ h1, h2⟩
      · rintro (h1 | ⟨q, h1, h2⟩)
        · exact .inl (.inl h1)
        · rcases List.mem_cons.1 h1 with rfl | h1
          · exact .inl (.inr h2.2)
          · exact .inr ⟨q, h1, h2⟩
theorem app_left {g e e' : ByteArray} (h : g ++ e = g ++ e') : e = e' := by
  apply bytes_inj
  have := congrArg ByteArray.toList h
  rw [ByteArray.toList_eq, ByteArray.toList_eq, ByteArray.data_append, ByteArray.data_append, Array.toList_append, Array.toList_append] at this
  rw [ByteArray.toList_eq, ByteArray.toList_eq]
  exact List.append_cancel_left this
theorem growR_nodup (us : List PU) (p : PU) : ∀ (T acc : List ByteArray), acc.Nodup → T.Nodup → (∀ e ∈ T, Tk us (p.g ++ e) p → p.g ++ e ∉ acc) → (growR us p T acc).Nodup
  | [], _, h, _, _ => h
  | e :: r, acc, h, hT, hd => by
    rw [growR]
    have hr := List.nodup_cons.1 hT
    cases ho : us.any (overB (p.g ++ e) p.g)
    · rw [if_neg (by simp)]
      refine growR_nodup us p r _ ?_ hr.2 fun e' he ht hm => ?_
      · rw [List.nodup_append]
        exact ⟨h, by simp, fun a ha b hb e1 => by rw [List.mem_singleton.1 hb] at e1; exact hd e List.mem_cons_self ⟨begB_append _ _, ho⟩ (e1 ▸ ha)⟩
      · rcases List.mem_append.1 hm with h1 | h1
        · exact hd e' (List.mem_cons_of_mem _ he) ht h1
        · have := app_left (List.mem_singleton.1 h1)
          subst this
          exact hr.1 he
    · rw [if_pos rfl]
      exact growR_nodup us p r acc h hr.2 fun e' he => hd e' (List.mem_cons_of_mem _ he)
theorem endR_nodup (us : List PU) (w : List Int) (T : List (List ByteArray)) (hT : ∀ j, (T.getD j []).Nodup) : ∀ (l : List PU) (acc : List ByteArray), acc.Nodup → (∀ s ∈ acc, ∀ p ∈ l, ¬ Tk us s p) → l.Pairwise (fun p q => ∀ s, ¬ (Tk us s p ∧ Tk us s q)) → (endR us w T l acc).Nodup
  | [], _, h, _, _ => h
  | p :: r, acc, h, hd, hp => by
    rw [endR]
    have hpr := List.pairwise_cons.1 hp
    split
    · refine endR_nodup us w T hT r _ (growR_nodup us p _ acc h (hT _) fun e _ ht hm => hd _ hm p List.mem_cons_self ht) (fun s hs q hq => ?_) hpr.2
      rcases (mem_growR us p s _ acc).1 hs with h1 | ⟨_, _, _, h1⟩
      · exact hd s h1 q (List.mem_cons_of_mem _ hq)
      · exact fun h2 => hpr.1 q hq s ⟨h1, h2⟩
    · exact endR_nodup us w T hT r acc h (fun s hs q hq => hd s hs q (List.mem_cons_of_mem _ hq)) hpr.2
/-- good units, with graphs of their own -/
theorem own_pair {us : List PU} (h : ∀ (j k : Nat) (p q : PU), j < k → us[j]? = some p → us[k]? = some q → (p.g.toList == q.g.toList) = false) : us.Pairwise (fun p q => ∀ s, ¬ (Tk us s p ∧ Tk us s q)) := by
  rw [List.pairwise_iff_getElem]
  intro i j hi hj hij s hs
  have h1 := tk_size hs.1 hs.2 (List.getElem_mem hi) (List.getElem_mem hj)
  have h2 := h i j us[i] us[j] hij (List.getElem?_eq_getElem hi) (List.getElem?_eq_getElem hj)
  rw [bytes_beq, h1] at h2
  simp at h2
theorem etab_nodup {us : List PU} (ws : List Int) (R : Nat → Bool) (h : us.Pairwise (fun p q => ∀ s, ¬ (Tk us s p ∧ Tk us s q))) (k : Nat) : ∀ j, ((etab us ws R k).getD j []).Nodup := by
  induction k with
  | zero => intro j; cases j <;> simp [etab]
  | succ k ih =>
    intro j
    rw [etab]
    cases j with
    | zero =>
      rw [getD_cons_zero']
      split
      · exact endR_nodup us _ _ ih us [] List.nodup_nil (fun s hs => by cases hs) h
      · exact List.nodup_nil
    | succ j => rw [getD_cons_succ']; exact ih j
theorem toT_inj {x y : ByteArray} (h : x.data.toList = y.data.toList) : x = y := by apply bytes_inj; rw [ByteArray.toList_eq, ByteArray.toList_eq]; exact h
theorem sortT_nodup {S : List ByteArray} (h : S.Nodup) : (sortT S).Pairwise (· ≠ ·) := by
  rw [sortT, List.pairwise_map]
  have h1 : (S.map fun s => s.data.toList).Nodup := by
    rw [List.Nodup, List.pairwise_map]
    exact h.imp fun hxy e => hxy (toT_inj e)
  have h2 := (List.mergeSort_perm (S.map fun s => s.data.toList) fun x y => decide (x ≤ y)).nodup_iff.2 h1
  exact h2.imp fun hxy e => hxy (by have := congrArg (fun b : ByteArray => b.data.toList) e; simpa using this)
theorem mem_sortT {S : List ByteArray} {s : ByteArray} : s ∈ sortT S ↔ s ∈ S := by
  rw [sortT, List.mem_map]
  constructor
  · rintro ⟨l, hl, rfl⟩
    rw [List.mem_mergeSort, List.mem_map] at hl
    obtain ⟨x, hx, rfl⟩ := hl
    have : (⟨x.data.toList.toArray⟩ : ByteArray) = x := by cases x; simp
    rw [this]; exact hx
  · intro h
    exact ⟨s.data.toList, by rw [List.mem_mergeSort, List.mem_map]; exact ⟨s, h, rfl⟩, by cases s; simp⟩
theorem fine_of {us : List PU} {ws : List Int} (hg : ∀ p ∈ us, GoodU p) (ho : ∀ (j k : Nat) (p q : PU), j < k → us[j]? = some p → us[k]? = some q → (p.g.toList == q.g.toList) = false) (hw : (capT us ws ws.length).getD 0 0 ≤ 500) : ∀ M, GoodR us ws M → FineT us ws fun i => M.getD i false :=
  fun _ hM => ⟨fine_len hg hM hw, sortT_nodup (etab_nodup ws _ (own_pair ho) ws.length 0)⟩
theorem etab_congr (us : List PU) (ws : List Int) (R R' : Nat → Bool) (h : ∀ i, i < ws.length → R i = R' i) : ∀ k, k ≤ ws.length → etab us ws R k = etab us ws R' k
  | 0, _ => rfl
  | k + 1, hk => by rw [etab, etab, h _ (by omega), etab_congr us ws R R' h k (by omega)]
theorem sortT_id {S : List ByteArray} (h : (S.map fun s => s.data.toList).Pairwise (· ≤ ·)) : sortT S = S := by
  rw [sortT, List.mergeSort_of_pairwise (h.imp fun hxy => by simpa using hxy), List.map_map]
  conv => rhs; rw [← List.map_id S]
  apply List.map_congr_left
  intro s _
  cases s; simp
end Go.Proofs.Ytokbclpdpegicaa
