/-
  step of the reference.
-/
import Derived.Test.YtmejihlplbeekaaT1
namespace Go.Proofs.Ytmejihlplbeekaa
open Go.ChangeShapes Go.WideShapes Go.ChangeAt Go.RowKit
set_option maxHeartbeats 400000 in
theorem step_any (v : Value) (xs : List Int) (i : Nat) (x : Int) (w : World) (hv : RdI w v xs) :
    Calls Try.prog 39 #[v, .int .i64 (i : Int), .int .i64 x] w fun e w' => e = .returned (.tuple #[.int .i64 (stepD x : Int), .bool (stepOk xs i x)]) ∧ ∃ nq, w' = w.drewN nq := by
  obtain ⟨A, n, c, rfl, h1, h2, hn, hr⟩ := hv.op
  have hv2 := Lib.hid hv
  clear hv
  by_cases hx : x = 0
  · subst hx
    go_enter Try.func39, Try.ntmps39
    go_wp2
    go_ret2
    exact ⟨by simp [stepD, stepOk], 0, rfl⟩
  · have hb : (x == 0) = false := by simpa using hx
    have HX := Lib.hid hx
    clear hx
    by_cases hlt : i < n
    · obtain ⟨b, off, y, rfl, hb2, hd, hck⟩ := hr.out i hlt
      go_enter Try.func39, Try.ntmps39
      go_wp2
      go_quiet (fail)
      go_wp2
      go_ret2
      refine ⟨?_, _, rfl⟩
      have hy : xs[i]? = some y := by
        have := congrArg (fun t => t[0]?) hd.out
        simpa using this
      simp [stepD, stepOk, HX.out, hy]
    · have hd : decide ((i : Int) < (n : Int)) = false := by simpa using hlt
      go_enter Try.func39, Try.ntmps39
      go_wp2
      go_quiet (fail)
      go_wp2
      go_ret2
      refine ⟨?_, _, rfl⟩
      have hy : xs[i]? = none := by rw [List.getElem?_eq_none]; rw [hn.out]; omega
      simp [stepD, stepOk, HX.out, hy]
end Go.Proofs.Ytmejihlplbeekaa
