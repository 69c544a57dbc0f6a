/-
  Tactics, in plain words: the words of the reference.
-/
import Derived.Test.YtcmfgblfgldonaaNP5
import Derived.Test.YtcmfgblfgldonaaN18
namespace Go.Proofs.Ytcmfgblfgldonaa
def rW (N : PNet) (S : Nat) : Nat → List Int → List (List Int)
  | 0, l => if accF N l then [l] else []
  | k + 1, l => (if accF N l then [l] else []) ++ (followF N S l).flatMap fun c => rW N S k (l ++ [c])
def rpartF (N : PNet) (S : Nat) (k : Nat) (l cs : List Int) : List (List Int) := match k with
  | 0 => []
  | k + 1 => cs.flatMap fun c => rW N S k (l ++ [c])
theorem rW_eq (N : PNet) (S k : Nat) (l : List Int) : rW N S k l = (if accF N l then [l] else []) ++ rpartF N S k l (followF N S l) := by
  cases k <;> simp [rW, rpartF]
theorem rpartF_nil (N : PNet) (S k : Nat) (l : List Int) : rpartF N S k l [] = [] := by cases k <;> simp [rpartF]
theorem rW_len (N : PNet) (S : Nat) : ∀ (k : Nat) (l : List Int), (rW N S k l).length ≤ cW k
  | 0, l => by
    unfold rW cW
    split <;> simp
  | k + 1, l => by
    have h := flat_len (fun c => rW N S k (l ++ [c])) (cW k) (followF N S l) (fun c _ => rW_len N S k _)
    have h2 : (followF N S l).length * cW k ≤ 20 * cW k := Nat.mul_le_mul_right _ (folF_len _ _ _ _)
    have h3 : (if accF N l then [l] else []).length ≤ 1 := by split <;> simp
    unfold rW cW
    rw [List.length_append]
    omega
theorem rpartF_len (N : PNet) (S k : Nat) (l cs : List Int) (hc : cs.length < 20) : (rpartF N S (k + 1) l cs).length + cW k + 1 ≤ cW (k + 1) := by
  have h := flat_len (fun c => rW N S k (l ++ [c])) (cW k) cs (fun c _ => rW_len N S k _)
  have h2 : (cs.length + 1) * cW k ≤ 20 * cW k := Nat.mul_le_mul_right _ hc
  rw [Nat.add_mul, Nat.one_mul] at h2
  simp only [rpartF, cW]
  omega
theorem rpartF_snoc (N : PNet) (S k : Nat) (l cs : List Int) (c : Int) : rpartF N S (k + 1) l (cs ++ [c]) = rpartF N S (k + 1) l cs ++ rW N S k (l ++ [c]) := by
  simp [rpartF]
section
variable {N : PNet} (hG : GoodN N) {S : Nat} (hS : N.states = (S : Int))
include hG hS
omit hG hS in
theorem live_step {s : PStep} (hs : s ∈ N.steps) (h : Live N s.tgt.toNat) : Live N s.fr.toNat := by
  obtain ⟨f, hf, hp⟩ := h
  exact ⟨f, hf, (Path.one s hs).trans hp⟩
theorem dead_after (m : Nat) (h : m &&& livingF N S S = 0) (c : Int) : afterF N.steps m c &&& livingF N S S = 0 := by
  rcases Nat.eq_zero_or_pos (afterF N.steps m c &&& livingF N S S) with h0 | h0
  · exact h0
  · obtain ⟨q, h1, h2⟩ := and_bit.1 (show ((afterF N.steps m c &&& livingF N S S) != 0) = true by simp; omega)
    rw [after_bit, List.any_eq_true] at h1
    obtain ⟨s, hs, h3⟩ := h1
    simp only [Bool.and_eq_true, decide_eq_true_eq] at h3
    obtain ⟨h4, h5⟩ := step_lt hG hS hs
    have hl : (livingF N S S).testBit s.fr.toNat = true := (alive_iff hG hS h4).2 (live_step hs ((alive_iff hG hS h5).1 (by rw [h3.2.2]; exact h2)))
    have := and_bit.2 ⟨s.fr.toNat, h3.1, hl⟩
    rw [h] at this
    cases this
theorem final_live (m : Nat) (h : m &&& livingF N S S = 0) : ((m &&& finalF N.final) != 0) = false := by
  rw [← Bool.not_eq_true, and_bit]
  rintro ⟨q, h1, h2⟩
  obtain ⟨f, hf, rfl⟩ := (final_bit _ _).1 h2
  have hff := hG.fin f hf
  have hl : (livingF N S S).testBit f.toNat = true := (alive_iff hG hS (by omega)).2 ⟨f, hf, .refl _⟩
  have := and_bit.2 ⟨f.toNat, h1, hl⟩
  rw [h] at this
  cases this
omit hG hS in
theorem flat_filter {α : Type} (p : Int → Bool) (f : Int → List α) (l : List Int) (h : ∀ c, c ∈ l → p c = false → f c = []) : (l.filter p).flatMap f = l.flatMap f := by
  induction l with
  | nil => rfl
  | cons c l ih =>
    have h1 := ih fun x hx => h x (by simp [hx])
    cases hp : p c
    · rw [List.filter_cons_of_neg (by simp [hp]), List.flatMap_cons, h c (by simp) hp, h1]; rfl
    · rw [List.filter_cons_of_pos hp, List.flatMap_cons, List.flatMap_cons, h1]
theorem words_eq : ∀ (k : Nat) (l : List Int), wF N (finalF N.final) (livingF N S S) k l (runF N.steps 1 l) = rW N S k l := by
  intro k
  induction k with
  | zero =>
    intro l
    unfold wF rW accF
    split
    · rename_i h
      rw [final_live hG hS _ h]
      rfl
    · rfl
  | succ k ih =>
    intro l
    have hfold : ∀ c, runF N.steps 1 (l ++ [c]) = afterF N.steps (runF N.steps 1 l) c := fun c => by simp [runF]
    have hfl : (followF N S l).flatMap (fun c => rW N S k (l ++ [c])) = (clsUp 20).flatMap fun c => wF N (finalF N.final) (livingF N S S) k (l ++ [c]) (afterF N.steps (runF N.steps 1 l) c) := by
      rw [followF, folF, flat_filter]
      · congr 1
        funext c
        rw [← ih, hfold]
      · intro c _ hc
        rw [← ih, hfold]
        refine wF_none _ _ _ _ _ _ ?_
        simpa [folB] using hc
    rw [rW, hfl]
    by_cases h : runF N.steps 1 l &&& livingF N S S = 0
    · have h2 : ((clsUp 20).flatMap fun c => wF N (finalF N.final) (livingF N S S) k (l ++ [c]) (afterF N.steps (runF N.steps 1 l) c)) = [] := by
        rw [List.flatMap_eq_nil_iff]
        intro c _
        exact wF_none _ _ _ _ _ _ (dead_after hG hS _ h c)
      rw [wF_none _ _ _ _ _ _ h, h2, accF, final_live hG hS _ h]
      rfl
    · rw [wF_some _ _ _ _ _ _ h]
      rfl
theorem wordsF_eq (len : Int) : wordsF N S len = if len < 0 ∨ 4 < len then [] else rW N S len.toNat [] := by
  unfold wordsF
  split
  · rfl
  · exact words_eq hG hS len.toNat []
end
end Go.Proofs.Ytcmfgblfgldonaa
