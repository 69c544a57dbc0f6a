/-
  positive and eat of fst.
-/
import Derived.Test.YtmejihlplbeekaaT4
namespace Go.Proofs.Ytmejihlplbeekaa
open Go.ChangeShapes Go.WideShapes Go.ChangeAt Go.RowKit
theorem positive_any (v : Value) (xs : List Int) (w : World) (hv : RdI w v xs) :
    Calls Try.prog 34 #[v] w fun e w' => e = .returned (.bool (plainB xs)) ∧ w = w' := by
  obtain ⟨A, n, c, rfl, h1, h2, hn, hr⟩ := hv.op
  clear hv
  go_enter Try.func34, Try.ntmps34
  go_wp2
  go_loop [7] (fun i => ∃ k : Nat, k ≤ n ∧ i = .int .i64 k ∧ Hid (plainB xs = plainB (xs.drop k))) (fun i => n - (intOf i).toNat)
  case atStart => exact ⟨0, Nat.zero_le _, rfl, rfl⟩
  case round =>
    obtain ⟨k, hk, rfl, HP⟩ := hrel
    by_cases hlt : k < n
    · obtain ⟨b, off, x, rfl, hb, hd, hck⟩ := hr.out k hlt
      go_wp2
      · go_ret
        have hx : x ≤ 0 := ‹_›
        refine ⟨?_, rfl⟩
        rw [HP.out, hd.out]
        simp [plainB, show ¬ 1 ≤ x by omega]
      · have hx : 0 < x := ‹_›
        go_round
        case rel => exact ⟨k + 1, by omega, by go_num, by rw [Hid, HP.out, hd.out]; simp [plainB, show 1 ≤ x by omega]⟩
        case measure => simp [intOf]; omega
    · go_wp2
      go_ret
      refine ⟨?_, rfl⟩
      rw [HP.out, List.drop_of_length_le (by rw [hn.out]; omega)]
      rfl
set_option maxHeartbeats 400000 in
theorem eat_any (v : Value) (xs : List Int) (i : Nat) (x : Int) (w : World) (hv : RdI w v xs) (hi : i ≤ xs.length) (hl : xs.length ≤ 1000000) :
    Calls Try.prog 37 #[v, .int .i64 (i : Int), .int .i64 x] w fun e w' => e = .returned (.tuple #[.int .i64 ((i + stepD x : Nat) : Int), .bool (stepOk xs i x)]) ∧ ∃ nq, w' = w.drewN nq := by
  obtain ⟨A, n, c, rfl, h1, h2, hn, hr⟩ := hv.op
  rw [hn.out] at hi hl
  clear hv
  by_cases hx : x = 0
  · subst hx
    go_enter Try.func37, Try.ntmps37
    go_wp2
    go_ret2
    exact ⟨by simp [stepD, stepOk], 0, rfl⟩
  · have hb : (x == 0) = false := by simpa using hx
    have HX := Lib.hid hx
    clear hx
    by_cases hlt : i < n
    · obtain ⟨b, off, y, rfl, hb2, hd, hck⟩ := hr.out i hlt
      go_enter Try.func37, Try.ntmps37
      go_wp2
      have hw1 : IntKind.i64.wrap ((i : Int) + 1) = (i : Int) + 1 := IntWalk.i64_in _ (by omega)
      go_quiet (fail)
      clear hw1
      go_wp2
      go_ret2
      refine ⟨?_, _, rfl⟩
      have hy : xs[i]? = some y := by
        have := congrArg (fun t => t[0]?) hd.out
        simpa using this
      simp [stepD, stepOk, HX.out, hy]
    · have hd : decide ((i : Int) < (n : Int)) = false := by simpa using hlt
      go_enter Try.func37, Try.ntmps37
      go_wp2
      have hw1 : IntKind.i64.wrap ((i : Int) + 1) = (i : Int) + 1 := IntWalk.i64_in _ (by omega)
      go_quiet (fail)
      clear hw1
      go_wp2
      go_ret2
      refine ⟨?_, _, rfl⟩
      have hy : xs[i]? = none := by rw [List.getElem?_eq_none]; rw [hn.out]; omega
      simp [stepD, stepOk, HX.out, hy]
end Go.Proofs.Ytmejihlplbeekaa
