/-
  Plain words: the first unit with the longest graph, and texts that begin with another one.
-/
import Derived.Test.YtokbclpdpegicaaW14
namespace Go.Proofs.Ytokbclpdpegicaa
open Go.ChangeShapes Go.WideShapes Go.ChangeAt Go.RowKit
theorem bytes_inj {s t : ByteArray} (h : s.toList = t.toList) : s = t := by
  rw [ByteArray.toList_eq, ByteArray.toList_eq] at h
  cases s; cases t
  simp only [ByteArray.mk.injEq]
  exact Array.toList_inj.1 h
theorem bytes_beq (s t : ByteArray) : (s.toList == t.toList) = decide (s = t) := by
  by_cases h : s = t
  · subst h; simp
  · simp [h]; exact fun h' => h (bytes_inj h')
theorem begB_iff (s t : ByteArray) : begB s t = true ↔ t.size ≤ s.size ∧ s.extract 0 t.size = t := by
  rw [begB]
  by_cases h : t.size ≤ s.size
  · rw [if_pos h, bytes_beq]; simp [h]
  · rw [if_neg h]; simp [h]
theorem tl_extract (s : ByteArray) (a c : Nat) (h : a + c ≤ s.size) : (tl s a).extract 0 c = s.extract a (a + c) := by
  rw [tl, ByteArray.extract_extract]
  congr 1 <;> omega
theorem beg_of_eq {s t : ByteArray} {a c : Nat} (h : a + c ≤ s.size) (he : t = s.extract a (a + c)) : begB (tl s a) t = true ∧ t.size = c := by
  have hs : t.size = c := by rw [he, ByteArray.size_extract]; omega
  refine ⟨(begB_iff _ _).2 ⟨by rw [tl_size s a (by omega)]; omega, ?_⟩, hs⟩
  rw [hs, tl_extract s a c h, ← he]
theorem eq_of_beg {s t : ByteArray} {a c : Nat} (h : a + c ≤ s.size) (hb : begB (tl s a) t = true) (hs : t.size = c) : t = s.extract a (a + c) := by
  have := ((begB_iff _ _).1 hb).2
  rw [hs, tl_extract s a c h] at this
  exact this.symm
theorem longR_stay (s : ByteArray) : ∀ (l : List PU) (i : Nat) (b : Int) (m : Nat), 0 ≤ b → (∀ q ∈ l, begB s q.g = true → q.g.size ≤ m) → longR s l i b m = b
  | [], _, _, _, _, _ => rfl
  | p :: r, i, b, m, hb, h => by
    rw [longR, if_neg]
    · exact longR_stay s r (i + 1) b m hb fun q hq => h q (List.mem_cons_of_mem _ hq)
    · rintro ⟨h1, h2⟩
      have := h p List.mem_cons_self h1
      omega
theorem longR_reach (s : ByteArray) : ∀ (l : List PU) (i : Nat) (b : Int) (m : Nat) (j : Nat) (p : PU), l[j]? = some p → begB s p.g = true → (b < 0 ∨ m < p.g.size) → (∀ q ∈ l, begB s q.g = true → q.g.size ≤ p.g.size) →
    (∀ (k : Nat) (q : PU), k < j → l[k]? = some q → begB s q.g = true → q.g.size < p.g.size) → longR s l i b m = (i : Int) + j
  | [], _, _, _, _, _, h, _, _, _, _ => by simp at h
  | q :: r, i, b, m, 0, p, h, hb, hm, h1, _ => by
    obtain rfl : q = p := by simpa using h
    rw [longR, if_pos ⟨hb, hm⟩, longR_stay s r (i + 1) i _ (by omega) fun q' hq => h1 q' (List.mem_cons_of_mem _ hq)]
    omega
  | q :: r, i, b, m, j + 1, p, h, hb, hm, h1, h2 => by
    have h' : r[j]? = some p := by simpa using h
    have h1' : ∀ q' ∈ r, begB s q'.g = true → q'.g.size ≤ p.g.size := fun q' hq => h1 q' (List.mem_cons_of_mem _ hq)
    have h2' : ∀ (k : Nat) (q' : PU), k < j → r[k]? = some q' → begB s q'.g = true → q'.g.size < p.g.size := fun k q' hk hq => h2 (k + 1) q' (by omega) (by simpa using hq)
    rw [longR]
    split
    · rename_i hc
      rw [longR_reach s r (i + 1) i q.g.size j p h' hb (.inr (h2 0 q (by omega) rfl hc.1)) h1' h2']
      omega
    · rw [longR_reach s r (i + 1) b m j p h' hb hm h1' h2']
      omega
theorem longF_eq {us : List PU} {s : ByteArray} {j : Nat} {p : PU} (h : us[j]? = some p) (hb : begB s p.g = true) (h1 : ∀ q ∈ us, begB s q.g = true → q.g.size ≤ p.g.size)
    (h2 : ∀ (k : Nat) (q : PU), k < j → us[k]? = some q → begB s q.g = true → q.g.size < p.g.size) : longF us s = j := by
  rw [longF, longR_reach s us 0 (-1) 0 j p h hb (.inl (by omega)) h1 h2]
  omega
theorem longF_none {us : List PU} {s : ByteArray} (h : ∀ q ∈ us, begB s q.g = false) : longF us s = -1 := by
  rcases longF_range us s with h1 | ⟨j, p, h1, h2, h3⟩
  · exact h1
  · rw [h p (List.mem_of_getElem? h2)] at h3; cases h3
/-- the greatest length of a graph of the first k units -/
def mostF : List PU → Nat
  | [] => 0
  | p :: r => max p.g.size (mostF r)
theorem mostF_le {us : List PU} {q : PU} (h : q ∈ us) : q.g.size ≤ mostF us := by
  induction us with
  | nil => cases h
  | cons p r ih =>
    rw [mostF]
    rcases List.mem_cons.1 h with rfl | h
    · omega
    · have := ih h; omega
end Go.Proofs.Ytokbclpdpegicaa
