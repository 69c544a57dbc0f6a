/-
  Tactics, in plain words: the words are the lists that are accepted, in order.
-/
import Derived.Test.YtcmfgblfgldonaaNP6
import Derived.Test.YtcmfgblfgldonaaNP7
namespace Go.Proofs.Ytcmfgblfgldonaa
theorem lessB_pre (l a b : List Int) : lessB (l ++ a) (l ++ b) = lessB a b := by
  induction l with
  | nil => rfl
  | cons x l ih => simp only [List.cons_append, lessB, if_true]; exact ih
theorem lessB_own (l t : List Int) (c : Int) : lessB l (l ++ c :: t) = true := by
  have := lessB_pre l [] (c :: t)
  rw [List.append_nil] at this
  rw [this]; rfl
theorem lessB_cross (l t s : List Int) (c d : Int) (h : c < d) : lessB (l ++ c :: t) (l ++ d :: s) = true := by
  rw [lessB_pre, lessB, if_neg (by omega)]
  simpa using h
theorem flat_pair {α β : Type} (R : α → α → Prop) (Q : β → β → Prop) (f : β → List α) : ∀ cs : List β, cs.Pairwise Q → (∀ c, c ∈ cs → (f c).Pairwise R) → (∀ c d, Q c d → ∀ x, x ∈ f c → ∀ y, y ∈ f d → R x y) → (cs.flatMap f).Pairwise R
  | [], _, _, _ => by simp
  | c :: cs, h, h1, h2 => by
    rw [List.flatMap_cons, List.pairwise_append]
    obtain ⟨h3, h4⟩ := List.pairwise_cons.1 h
    refine ⟨h1 c (by simp), flat_pair R Q f cs h4 (fun d hd => h1 d (by simp [hd])) h2, fun x hx y hy => ?_⟩
    obtain ⟨d, hd, hyd⟩ := List.mem_flatMap.1 hy
    exact h2 c d (h3 d hd) x hx y hyd
section
variable {N : PNet} (hG : GoodN N) {S : Nat} (hS : N.states = (S : Int))
include hG hS
theorem mem_rW : ∀ (k : Nat) (l x : List Int), x ∈ rW N S k l ↔ ∃ t : List Int, x = l ++ t ∧ t.length ≤ k ∧ accF N x = true
  | 0, l, x => by
    unfold rW
    constructor
    · intro h
      split at h
      · rename_i ha
        rw [List.mem_singleton] at h
        subst h
        exact ⟨[], by simp, by simp, ha⟩
      · cases h
    · rintro ⟨t, rfl, h1, h2⟩
      have ht : t = [] := List.eq_nil_of_length_eq_zero (by omega)
      subst ht
      rw [List.append_nil] at h2 ⊢
      rw [if_pos h2]; simp
  | k + 1, l, x => by
    unfold rW
    rw [List.mem_append, List.mem_flatMap]
    constructor
    · rintro (h | ⟨c, hc, h⟩)
      · split at h
        · rename_i ha
          rw [List.mem_singleton] at h
          subst h
          exact ⟨[], by simp, by simp, ha⟩
        · cases h
      · obtain ⟨t, rfl, h1, h2⟩ := (mem_rW k _ x).1 h
        exact ⟨c :: t, by simp, by simp; omega, h2⟩
    · rintro ⟨t, rfl, h1, h2⟩
      cases t with
      | nil =>
        rw [List.append_nil] at h2 ⊢
        left
        rw [if_pos h2]; simp
      | cons c t =>
        right
        refine ⟨c, acc_follow hG hS h2, (mem_rW k _ _).2 ⟨t, by simp, by simp at h1; omega, h2⟩⟩
theorem sorted_rW : ∀ (k : Nat) (l : List Int), (rW N S k l).Pairwise fun a b => lessB a b = true
  | 0, l => by
    unfold rW
    split <;> simp
  | k + 1, l => by
    unfold rW
    rw [List.pairwise_append]
    refine ⟨by split <;> simp, ?_, ?_⟩
    · refine flat_pair _ (· < ·) _ _ (folF_sorted _ _ _ _) (fun c _ => sorted_rW k _) (fun c d hcd x hx y hy => ?_)
      obtain ⟨t, rfl, _, _⟩ := (mem_rW hG hS k _ x).1 hx
      obtain ⟨s, rfl, _, _⟩ := (mem_rW hG hS k _ y).1 hy
      simpa using lessB_cross l t s c d hcd
    · intro x hx y hy
      split at hx
      · rw [List.mem_singleton] at hx
        subst hx
        obtain ⟨c, _, hy⟩ := List.mem_flatMap.1 hy
        obtain ⟨s, rfl, _, _⟩ := (mem_rW hG hS k _ y).1 hy
        simpa using lessB_own x s c
      · cases hx
theorem mem_words (len : Int) (x : List Int) : x ∈ wordsF N S len ↔ len ≤ 4 ∧ (x.length : Int) ≤ len ∧ accF N x = true := by
  rw [wordsF_eq hG hS]
  split
  · rename_i h
    constructor
    · intro h2; cases h2
    · rintro ⟨h1, h2, _⟩; omega
  · rename_i h
    rw [mem_rW hG hS]
    constructor
    · rintro ⟨t, h1, h2, h3⟩
      rw [List.nil_append] at h1
      subst h1
      exact ⟨by omega, by omega, h3⟩
    · rintro ⟨h1, h2, h3⟩
      exact ⟨x, rfl, by omega, h3⟩
theorem sorted_words (len : Int) : (wordsF N S len).Pairwise fun a b => lessB a b = true := by
  rw [wordsF_eq hG hS]
  split
  · exact List.Pairwise.nil
  · exact sorted_rW hG hS _ _
omit hG hS in
theorem words_len (len : Int) : (wordsF N S len).length ≤ 1000000 := by
  unfold wordsF
  split
  · simp
  · have h1 := wF_len N (finalF N.final) (livingF N S S) len.toNat [] 1
    have h2 := cW_le len.toNat (by omega)
    omega
end
end Go.Proofs.Ytcmfgblfgldonaa
