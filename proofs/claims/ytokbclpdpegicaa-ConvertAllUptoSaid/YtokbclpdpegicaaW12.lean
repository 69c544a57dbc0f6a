/-
  begins of the reference of orthographies.
-/
import Derived.Test.YtokbclpdpegicaaW11
namespace Go.Proofs.Ytokbclpdpegicaa
open Go.ChangeShapes Go.WideShapes Go.ChangeAt Go.RowKit
/-- s begins with t -/
def begB (s t : ByteArray) : Bool := if t.size ≤ s.size then (s.extract 0 t.size).toList == t.toList else false
set_option maxHeartbeats 1000000 in
theorem begins17_any (s t : ByteArray) (w : World) (_ : s.size ≤ 67108864) (_ : t.size ≤ 1048576) :
    Calls Try.prog 65 #[.string s, .string t] w fun e w' => e = .returned (.bool (begB s t)) ∧ w = w' := by
  by_cases h : t.size ≤ s.size
  · have d1 : decide ((t.size : Int) ≤ (s.size : Int)) = true := by simp; omega
    have HB : Hid (begB s t = ((s.extract 0 t.size).toList == t.toList)) := by rw [Hid, begB, if_pos h]
    go_enter Try.func65, Try.ntmps65
    go_wp2_with fail
    go_ret
    exact ⟨by rw [HB.out]; rfl, rfl⟩
  · have d1 : decide ((t.size : Int) ≤ (s.size : Int)) = false := by simp; omega
    have HB : Hid (begB s t = false) := by rw [Hid, begB, if_neg h]
    go_enter Try.func65, Try.ntmps65
    go_wp2_with fail
    go_ret
    exact ⟨by rw [HB.out]; rfl, rfl⟩
end Go.Proofs.Ytokbclpdpegicaa
