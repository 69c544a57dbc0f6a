import Derived.Test.YtmeppkkoepmlnaaMem
namespace Go.Proofs.Ytmeppkkoepmlnaa
open Go.ChangeShapes Go.WideShapes Go.ChangeAt Go.RowKit
def stateB (n q : Int) : Bool := decide (0 ≤ q ∧ q < n)
def symbolB (x : Int) : Bool := decide (0 ≤ x ∧ x ≤ 1099511627776)
theorem symbol_any (x : Int) (w : World) :
    Calls Try.prog 61 #[.int .i64 x] w fun e w' => e = .returned (.bool (symbolB x)) ∧ w = w' := by
  by_cases h : 0 ≤ x
  · go_enter Try.func61, Try.ntmps61
    go_wp2
    go_ret
    exact ⟨by simp [symbolB, h], rfl⟩
  · have hd : decide (0 ≤ x) = false := by simpa using h
    go_enter Try.func61, Try.ntmps61
    go_wp2
    go_ret
    exact ⟨by simp [symbolB]; omega, rfl⟩

theorem state_any (n q : Int) (va vf : Value) (w : World) :
    Calls Try.prog 60 #[.agg #[.int .i64 n, va, vf], .int .i64 q] w fun e w' => e = .returned (.bool (stateB n q)) ∧ w' = w.alloc (.cells #[.int .i64 n, va, vf] 29) := by
  by_cases h : 0 ≤ q
  · go_enter Try.func60, Try.ntmps60
    go_wp2
    go_ret
    exact ⟨by simp [stateB, h], rfl⟩
  · have hd : decide (0 ≤ q) = false := by simpa using h
    go_enter Try.func60, Try.ntmps60
    go_wp2
    go_ret
    exact ⟨by simp [stateB]; omega, rfl⟩
end Go.Proofs.Ytmeppkkoepmlnaa
