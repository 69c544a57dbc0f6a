/-
  Small functions of fstops and the reference 21.
-/
import Derived.Test.YtmeppkkoepmlnaaT5
import Derived.Test.YtmeppkkoepmlnaaPl1
namespace Go.Proofs.Ytmeppkkoepmlnaa
open Go.ChangeShapes Go.WideShapes Go.ChangeAt Go.RowKit
theorem at_any (v : Value) (xs : List Int) (i : Nat) (w : World) (hv : RdI w v xs) :
    Calls Try.prog 42 #[v, .int .i64 (i : Int)] w fun e w' => e = .returned (.int .i64 (atL xs i)) ∧ w = w' := by
  obtain ⟨A, n, c, rfl, h1, h2, hn, hr⟩ := hv.op
  have hv2 := Lib.hid hv
  clear hv
  by_cases hlt : i < n
  · obtain ⟨b, off, y, rfl, hb2, hd, hck⟩ := hr.out i hlt
    have HA : Hid (atL xs i = y) := by
      have h := congrArg (fun t => t[0]?) hd.out
      have h2 : xs[i]? = some y := by simpa using h
      simp [Hid, atL, h2]
    go_enter Try.func42, Try.ntmps42
    go_wp2
    go_ret
    exact ⟨by rw [HA.out]; rfl, rfl⟩
  · have HA : Hid (atL xs i = 0) := by
      have hy : xs[i]? = none := by rw [List.getElem?_eq_none]; rw [hn.out]; omega
      simp [Hid, atL, hy]
    go_enter Try.func42, Try.ntmps42
    go_wp2
    go_ret
    exact ⟨by rw [HA.out]; rfl, rfl⟩
theorem atR_any (v : Value) (xs : List Int) (i : Nat) (w : World) (hv : RdI w v xs) :
    Calls Try.prog 44 #[v, .int .i64 (i : Int)] w fun e w' => e = .returned (.int .i64 (atL xs i)) ∧ w = w' := by
  obtain ⟨A, n, c, rfl, h1, h2, hn, hr⟩ := hv.op
  have hv2 := Lib.hid hv
  clear hv
  by_cases hlt : i < n
  · obtain ⟨b, off, y, rfl, hb2, hd, hck⟩ := hr.out i hlt
    have HA : Hid (atL xs i = y) := by
      have h := congrArg (fun t => t[0]?) hd.out
      have h2 : xs[i]? = some y := by simpa using h
      simp [Hid, atL, h2]
    go_enter Try.func44, Try.ntmps44
    go_wp2
    go_ret
    exact ⟨by rw [HA.out]; rfl, rfl⟩
  · have HA : Hid (atL xs i = 0) := by
      have hy : xs[i]? = none := by rw [List.getElem?_eq_none]; rw [hn.out]; omega
      simp [Hid, atL, hy]
    go_enter Try.func44, Try.ntmps44
    go_wp2
    go_ret
    exact ⟨by rw [HA.out]; rfl, rfl⟩
end Go.Proofs.Ytmeppkkoepmlnaa
