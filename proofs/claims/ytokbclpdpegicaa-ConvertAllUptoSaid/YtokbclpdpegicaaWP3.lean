/-
  Plain words: a word in units.
-/
import Derived.Test.YtokbclpdpegicaaW16
namespace Go.Proofs.Ytokbclpdpegicaa
open Go.ChangeShapes Go.WideShapes Go.ChangeAt Go.RowKit
/-- the word begins with the list -/
def preR : List Int → List Int → Bool
  | _, [] => true
  | [], _ :: _ => false
  | x :: xs, y :: ys => if x = y then preR xs ys else false
theorem preR_iff (xs ys : List Int) : preR xs ys = true ↔ xs.take ys.length = ys := by
  induction ys generalizing xs with
  | nil => simp [preR]
  | cons y ys ih => cases xs with
    | nil => simp [preR]
    | cons x xs =>
      rw [preR]
      by_cases h : x = y
      · subst h; rw [if_pos rfl, ih]; simp
      · simp [h]
theorem preR_short {xs ys : List Int} (h : xs.length < ys.length) : preR xs ys = false := by
  rw [← Bool.not_eq_true, preR_iff]
  intro h1
  have := congrArg List.length h1
  rw [List.length_take] at this
  omega
theorem preR_same {xs ys : List Int} : preR xs ys = sameB ys (xs.take ys.length) := by
  rw [Bool.eq_iff_iff, preR_iff, sameB_iff]
  exact eq_comm
theorem preR_len {xs ys : List Int} (h : preR xs ys = true) : ys.length ≤ xs.length := by
  by_cases hc : ys.length ≤ xs.length
  · exact hc
  · rw [preR_short (by omega)] at h; cases h
def bestR (w : List Int) : List PU → Nat → Int → Nat → Int
  | [], _, b, _ => b
  | p :: r, i, b, m => if preR w p.s = true ∧ (b < 0 ∨ m < p.s.length) then bestR w r (i + 1) i p.s.length else bestR w r (i + 1) b m
/-- the first unit with the most segments with which a word begins; -1 if there is none -/
def bestF (us : List PU) (w : List Int) : Int := bestR w us 0 (-1) 0
theorem bestR_range (w : List Int) (us : List PU) : ∀ (l : List PU) (i : Nat) (b : Int) (m : Nat), us.drop i = l → (b = -1 ∨ ∃ (j : Nat) (p : PU), b = j ∧ us[j]? = some p ∧ preR w p.s = true) →
    (bestR w l i b m = -1 ∨ ∃ (j : Nat) (p : PU), bestR w l i b m = j ∧ us[j]? = some p ∧ preR w p.s = true)
  | [], _, _, _, _, h => h
  | p :: r, i, b, m, hd, h => by
    have hr : us.drop (i + 1) = r := by rw [← List.drop_drop, hd]; rfl
    have hp : us[i]? = some p := by
      have := congrArg (fun l => l[0]?) hd
      simpa [List.getElem?_drop] using this
    rw [bestR]
    by_cases hc : preR w p.s = true ∧ (b < 0 ∨ m < p.s.length)
    · rw [if_pos hc]
      exact bestR_range w us r (i + 1) i p.s.length hr (.inr ⟨i, p, rfl, hp, hc.1⟩)
    · rw [if_neg hc]
      exact bestR_range w us r (i + 1) b m hr h
theorem bestF_range (us : List PU) (w : List Int) : bestF us w = -1 ∨ ∃ (j : Nat) (p : PU), bestF us w = j ∧ us[j]? = some p ∧ preR w p.s = true :=
  bestR_range w us us 0 (-1) 0 rfl (.inl rfl)
def uG (us : List PU) (i : Int) : ByteArray := ((us[i.toNat]?).map PU.g).getD ByteArray.empty
def uS (us : List PU) (i : Int) : List Int := ((us[i.toNat]?).map PU.s).getD []
/-- the spelling of a word from a on, behind the text s -/
def spellR (us : List PU) (w : List Int) : Nat → Nat → ByteArray → ByteArray × Nat × Int
  | 0, _, s => (s, 0, 0)
  | f + 1, a, s => if a < w.length then (if bestF us (w.drop a) < 0 then (ByteArray.empty, a, 20) else spellR us w f (a + (uS us (bestF us (w.drop a))).length) (s ++ uG us (bestF us (w.drop a)))) else (s, 0, 0)
/-- what Spell returns -/
def spellF (us : List PU) (w : List Int) : ByteArray × Nat × Int :=
  if w.length = 0 then (ByteArray.empty, 0, 4) else if 24 < w.length then (ByteArray.empty, 0, 5) else spellR us w 25 0 ByteArray.empty
end Go.Proofs.Ytokbclpdpegicaa
