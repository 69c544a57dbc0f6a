/-
  Tactics, in plain words: the classes that lead on.
-/
import Derived.Test.YtcmfgblfgldonaaN6
namespace Go.Proofs.Ytcmfgblfgldonaa
open Go.ChangeShapes Go.WideShapes Go.ChangeAt Go.RowKit
def outC (L : Nat) (o : List Int) (s : PStep) : List Int := if L.testBit s.tgt.toNat && !decide (s.cls ∈ o) then o ++ [s.cls] else o
def outF (L : Nat) (l : List PStep) : List Int := l.foldl (outC L) []
theorem outF_snoc (L : Nat) (l : List PStep) (s : PStep) : outF L (l ++ [s]) = outC L (outF L l) s := by simp [outF]
theorem outF_len (L : Nat) (l : List PStep) : (outF L l).length ≤ l.length := by
  suffices h : ∀ o : List Int, (l.foldl (outC L) o).length ≤ o.length + l.length by simpa [outF] using h []
  induction l with
  | nil => intro o; simp
  | cons s l ih =>
    intro o
    have h1 := ih (outC L o s)
    have h2 : (outC L o s).length ≤ o.length + 1 := by unfold outC; split <;> simp
    simp only [List.foldl_cons, List.length_cons]
    omega
theorem outF_nodup (L : Nat) (l : List PStep) : (outF L l).Nodup := by
  suffices h : ∀ o : List Int, o.Nodup → (l.foldl (outC L) o).Nodup from h [] List.nodup_nil
  induction l with
  | nil => intro o ho; exact ho
  | cons s l ih =>
    intro o ho
    refine ih _ ?_
    unfold outC
    split
    · rename_i h
      simp only [Bool.and_eq_true, Bool.not_eq_true', decide_eq_false_iff_not] at h
      rw [List.nodup_append]
      refine ⟨ho, by simp, ?_⟩
      intro a ha b hb
      simp at hb
      rintro rfl
      exact h.2 (hb ▸ ha)
    · exact ho
theorem outF_mem (L : Nat) (l : List PStep) (c : Int) : c ∈ outF L l ↔ ∃ s, s ∈ l ∧ L.testBit s.tgt.toNat = true ∧ s.cls = c := by
  suffices h : ∀ o : List Int, c ∈ l.foldl (outC L) o ↔ (c ∈ o ∨ ∃ s, s ∈ l ∧ L.testBit s.tgt.toNat = true ∧ s.cls = c) by simpa [outF] using h []
  induction l with
  | nil => intro o; simp
  | cons s l ih =>
    intro o
    rw [List.foldl_cons, ih]
    have hc : c ∈ outC L o s ↔ (c ∈ o ∨ (L.testBit s.tgt.toNat = true ∧ s.cls = c)) := by
      unfold outC
      cases hb : L.testBit s.tgt.toNat
      · simp
      · by_cases hm : s.cls ∈ o
        · simp only [hm, decide_true, Bool.not_true, Bool.and_false, Bool.false_eq_true, if_false, true_and]
          constructor
          · exact .inl
          · rintro (h | rfl)
            · exact h
            · exact hm
        · simp only [hm, decide_false, Bool.not_false, Bool.and_self, if_true, List.mem_append, List.mem_singleton, true_and]
          constructor
          · rintro (h | h)
            · exact .inl h
            · exact .inr h.symm
          · rintro (h | h)
            · exact .inl h
            · exact .inr h.symm
    rw [hc]
    constructor
    · rintro ((h | h) | ⟨x, h1, h2⟩)
      · exact .inl h
      · exact .inr ⟨s, by simp, h⟩
      · exact .inr ⟨x, by simp [h1], h2⟩
    · rintro (h | ⟨x, h1, h2⟩)
      · exact .inl (.inl h)
      · rcases List.mem_cons.1 h1 with rfl | h1
        · exact .inl (.inr h2)
        · exact .inr ⟨x, h1, h2⟩
theorem and_bit {a b : Nat} : ((a &&& b) != 0) = true ↔ ∃ q, a.testBit q = true ∧ b.testBit q = true := by
  constructor
  · intro h
    obtain ⟨q, hq⟩ := Nat.exists_testBit_of_ne_zero (by simpa using h)
    rw [Nat.testBit_and, Bool.and_eq_true] at hq
    exact ⟨q, hq⟩
  · rintro ⟨q, h1, h2⟩
    have : (a &&& b) ≠ 0 := by
      intro h
      have h3 : (a &&& b).testBit q = true := by rw [Nat.testBit_and, h1, h2]; rfl
      rw [h, Nat.zero_testBit] at h3
      cases h3
    simpa using this
theorem folB_iff (N : PNet) (S m : Nat) (c : Int) : folB N S m c = true ↔ ∃ s, s ∈ N.steps ∧ bitI m s.fr = true ∧ s.cls = c ∧ (livingF N S S).testBit s.tgt.toNat = true := by
  unfold folB
  rw [and_bit]
  constructor
  · rintro ⟨q, h1, h2⟩
    rw [after_bit, List.any_eq_true] at h1
    obtain ⟨s, hs, h⟩ := h1
    simp only [Bool.and_eq_true, decide_eq_true_eq] at h
    exact ⟨s, hs, h.1, h.2.1, by rw [h.2.2]; exact h2⟩
  · rintro ⟨s, hs, h1, h2, h3⟩
    refine ⟨s.tgt.toNat, ?_, h3⟩
    rw [after_bit, List.any_eq_true]
    exact ⟨s, hs, by simp [h1, h2]⟩
theorem mem_clsUp (k : Nat) (c : Int) : c ∈ clsUp k ↔ 1 ≤ c ∧ c ≤ (k : Int) := by
  unfold clsUp
  simp only [List.mem_map, List.mem_range]
  constructor
  · rintro ⟨i, hi, rfl⟩; omega
  · rintro ⟨h1, h2⟩; exact ⟨(c - 1).toNat, by omega, by omega⟩
theorem mem_folF (N : PNet) (S m k : Nat) (c : Int) : c ∈ folF N S m k ↔ (1 ≤ c ∧ c ≤ (k : Int)) ∧ folB N S m c = true := by
  rw [folF, List.mem_filter, mem_clsUp]
theorem clsUp_sorted (k : Nat) : (clsUp k).Pairwise (· < ·) := by
  unfold clsUp
  rw [List.pairwise_map]
  exact List.Pairwise.imp (fun h => by omega) (List.pairwise_lt_range (n := k))
theorem folF_sorted (N : PNet) (S m k : Nat) : (folF N S m k).Pairwise (· < ·) := (clsUp_sorted k).filter _
theorem nodup_of_lt {l : List Int} (h : l.Pairwise (· < ·)) : l.Nodup := h.imp (fun h => by omega)
theorem classes_eq {N : PNet} {S : Nat} (hG : GoodN N) (m : Nat) :
    (outF (livingF N S S) (fromL N.steps m)).mergeSort (fun x y => decide (x ≤ y)) = folF N S m 20 := by
  refine List.Perm.eq_of_pairwise (le := fun x y : Int => x ≤ y) (fun a b _ _ h1 h2 => by omega) ?_ ((folF_sorted N S m 20).imp (fun h => by omega)) ?_
  · have := List.pairwise_mergeSort (le := fun x y : Int => decide (x ≤ y)) (fun a b c h1 h2 => by simp at *; omega) (fun a b => by simp; omega) (outF (livingF N S S) (fromL N.steps m))
    exact this.imp (fun h => by simpa using h)
  · refine (List.mergeSort_perm _ _).trans ((List.perm_ext_iff_of_nodup (outF_nodup _ _) (nodup_of_lt (folF_sorted N S m 20))).2 fun c => ?_)
    rw [outF_mem, mem_folF, folB_iff]
    constructor
    · rintro ⟨s, h1, h2, rfl⟩
      rw [fromL, List.mem_filter] at h1
      have := hG.step s h1.1
      exact ⟨⟨this.c0, this.c1⟩, s, h1.1, h1.2, rfl, h2⟩
    · rintro ⟨_, s, h1, h2, h3, h4⟩
      exact ⟨s, by rw [fromL, List.mem_filter]; exact ⟨h1, h2⟩, h4, h3⟩
end Go.Proofs.Ytcmfgblfgldonaa
