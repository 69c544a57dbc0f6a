/-
  Plain words: the division of a text into units.
-/
import Derived.Test.YtokbclpdpegicaaW13
namespace Go.Proofs.Ytokbclpdpegicaa
open Go.ChangeShapes Go.WideShapes Go.ChangeAt Go.RowKit
theorem longR_range (s : ByteArray) (us : List PU) : ∀ (l : List PU) (i : Nat) (b : Int) (m : Nat), us.drop i = l → (b = -1 ∨ ∃ (j : Nat) (p : PU), b = j ∧ us[j]? = some p ∧ begB s p.g = true) →
    (longR s l i b m = -1 ∨ ∃ (j : Nat) (p : PU), longR s l i b m = j ∧ us[j]? = some p ∧ begB s p.g = true)
  | [], _, _, _, _, h => h
  | p :: r, i, b, m, hd, h => by
    have hr : us.drop (i + 1) = r := by rw [← List.drop_drop, hd]; rfl
    have hp : us[i]? = some p := by
      have := congrArg (fun l => l[0]?) hd
      simpa [List.getElem?_drop] using this
    rw [longR]
    by_cases hc : begB s p.g = true ∧ (b < 0 ∨ m < p.g.size)
    · rw [if_pos hc]
      exact longR_range s us r (i + 1) i p.g.size hr (.inr ⟨i, p, rfl, hp, hc.1⟩)
    · rw [if_neg hc]
      exact longR_range s us r (i + 1) b m hr h
theorem longF_range (us : List PU) (s : ByteArray) : longF us s = -1 ∨ ∃ (j : Nat) (p : PU), longF us s = j ∧ us[j]? = some p ∧ begB s p.g = true :=
  longR_range s us us 0 (-1) 0 rfl (.inl rfl)
/-- the rest of a text -/
def tl (s : ByteArray) (a : Nat) : ByteArray := s.extract a s.size
/-- the division of the text from a on: the units, and where it ends -/
def unitsR (us : List PU) (s : ByteArray) : Nat → Nat → List Int × Nat
  | 0, a => ([], a)
  | f + 1, a => if a < s.size then (if longF us (tl s a) < 0 then ([], a) else ((longF us (tl s a)) :: (unitsR us s f (a + ((us[(longF us (tl s a)).toNat]?).map fun p => p.g.size).getD 0)).1, (unitsR us s f (a + ((us[(longF us (tl s a)).toNat]?).map fun p => p.g.size).getD 0)).2)) else ([], a)
def unitsF (us : List PU) (s : ByteArray) : List Int × Nat := unitsR us s (s.size + 1) 0
end Go.Proofs.Ytokbclpdpegicaa
