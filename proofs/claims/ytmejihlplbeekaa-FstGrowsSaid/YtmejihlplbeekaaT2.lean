import Derived.Test.YtmejihlplbeekaaMem
namespace Go.Proofs.Ytmejihlplbeekaa
open Go.ChangeShapes Go.WideShapes Go.ChangeAt Go.RowKit
def stateB (n q : Int) : Bool := decide (0 ≤ q ∧ q < n)
def symbolB (x : Int) : Bool := decide (0 ≤ x ∧ x ≤ 1099511627776)
theorem symbol_any (x : Int) (w : World) :
    Calls Try.prog 33 #[.int .i64 x] w fun e w' => e = .returned (.bool (symbolB x)) ∧ w = w' := by
  by_cases h : 0 ≤ x
  · go_enter Try.func33, Try.ntmps33
    go_wp2
    go_ret
    exact ⟨by simp [symbolB, h], rfl⟩
  · have hd : decide (0 ≤ x) = false := by simpa using h
    go_enter Try.func33, Try.ntmps33
    go_wp2
    go_ret
    exact ⟨by simp [symbolB]; omega, rfl⟩

theorem state_any (n q : Int) (va vf : Value) (w : World) :
    Calls Try.prog 32 #[.agg #[.int .i64 n, va, vf], .int .i64 q] w fun e w' => e = .returned (.bool (stateB n q)) ∧ w' = w.alloc (.cells #[.int .i64 n, va, vf] 25) := by
  by_cases h : 0 ≤ q
  · go_enter Try.func32, Try.ntmps32
    go_wp2
    go_ret
    exact ⟨by simp [stateB, h], rfl⟩
  · have hd : decide (0 ≤ q) = false := by simpa using h
    go_enter Try.func32, Try.ntmps32
    go_wp2
    go_ret
    exact ⟨by simp [stateB]; omega, rfl⟩
end Go.Proofs.Ytmejihlplbeekaa
