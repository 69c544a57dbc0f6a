/-
  Tactics, in plain words: what grows.
-/
import Derived.Test.YtcmfgblfgldonaaNP8
namespace Go.Proofs.Ytcmfgblfgldonaa
theorem lessB_irr (a : List Int) : lessB a a = false := by
  induction a with
  | nil => rfl
  | cons x a ih => rw [lessB, if_pos rfl]; exact ih
theorem lessB_asym : ∀ (a b : List Int), lessB a b = true → lessB b a = true → a = b
  | [], [], _, _ => rfl
  | [], _ :: _, _, h => by cases h
  | _ :: _, [], h, _ => by cases h
  | x :: a, y :: b, h, k => by
    unfold lessB at h k
    by_cases hxy : x = y
    · subst hxy
      rw [if_pos rfl] at h k
      rw [lessB_asym a b h k]
    · rw [if_neg hxy] at h
      rw [if_neg (Ne.symm hxy)] at k
      simp only [decide_eq_true_eq] at h k
      omega
theorem sorted_ext {a b : List (List Int)} (ha : a.Pairwise fun x y => lessB x y = true) (hb : b.Pairwise fun x y => lessB x y = true) (h : ∀ x, x ∈ a ↔ x ∈ b) : a = b := by
  have nd : ∀ {l : List (List Int)}, (l.Pairwise fun x y => lessB x y = true) → l.Nodup := fun hl => hl.imp (fun {x y} hxy => by rintro rfl; rw [lessB_irr] at hxy; cases hxy)
  exact List.Perm.eq_of_pairwise (fun x y _ _ h1 h2 => lessB_asym x y h1 h2) ha hb ((List.perm_ext_iff_of_nodup (nd ha) (nd hb)).2 h)
theorem words_shorter {N : PNet} (hG : GoodN N) {S : Nat} (hS : N.states = (S : Int)) : (wordsF N S 3).filter (fun x => decide (x.length ≤ 2)) = wordsF N S 2 := by
  refine sorted_ext ((sorted_words hG hS 3).filter _) (sorted_words hG hS 2) fun x => ?_
  rw [List.mem_filter, mem_words hG hS, mem_words hG hS, decide_eq_true_eq]
  constructor
  · rintro ⟨⟨_, _, h3⟩, h4⟩; exact ⟨by omega, by omega, h3⟩
  · rintro ⟨_, h2, h3⟩; exact ⟨⟨by omega, by omega, h3⟩, by omega⟩
/-- a net with further steps -/
structure Wider (N M : PNet) : Prop where
  steps : ∀ s, s ∈ N.steps → s ∈ M.steps
  final : M.final = N.final
section
variable {N M : PNet} (hW : Wider N M)
include hW
theorem Wider.run {p q : Nat} {l : List Int} (h : Run N p l q) : Run M p l q := by
  induction h with
  | nil => exact .nil _
  | cons s hs _ ih => exact .cons s (hW.steps s hs) ih
theorem Wider.path {p q : Nat} (h : Path N p q) : Path M p q := by
  obtain ⟨l, hl⟩ := h.run
  exact (hW.run hl).path
theorem Wider.acc {l : List Int} (h : accF N l = true) : accF M l = true := by
  obtain ⟨f, hf, hr⟩ := (acc_iff N l).1 h
  exact (acc_iff M l).2 ⟨f, by rw [hW.final]; exact hf, hW.run hr⟩
theorem Wider.endless (hG : GoodN N) (hM : GoodN M) {S : Nat} (hS : N.states = (S : Int)) (hSM : M.states = (S : Int)) (h : endF N S = true) : endF M S = true := by
  obtain ⟨s, hs, h0, ⟨f, hf, hl⟩, hp⟩ := (endF_iff hG hS).1 h
  exact (endF_iff hM hSM).2 ⟨s, hW.steps s hs, hW.path h0, ⟨f, by rw [hW.final]; exact hf, hW.path hl⟩, hW.path hp⟩
end
end Go.Proofs.Ytcmfgblfgldonaa
