/-
  Name of the reference of media.
-/
import Derived.Test.YtokbclpdpegicaaW3
namespace Go.Proofs.Ytokbclpdpegicaa
open Go.ChangeShapes Go.WideShapes Go.ChangeAt Go.RowKit
def AnyB (_ : Bool) : Prop := True
set_option maxHeartbeats 8000000 in
set_option maxRecDepth 100000 in
theorem name_any (s : ByteArray) (w : World) (hs : s.size ≤ 1048576) : Calls Try.prog 52 #[.string s] w fun e w' => RetB AnyB e ∧ w = w' := by
  go_enter Try.func52, Try.ntmps52
  go_wp2_with fail
  go_loop [3, 4] (fun i _ => ∃ k : Nat, k ≤ s.size ∧ i = .int .i64 k) (fun i _ => s.size - (intOf i).toNat)
  case atStart => exact ⟨0, Nat.zero_le _, rfl⟩
  case round =>
    obtain ⟨k, hk, rfl⟩ := hrel
    by_cases hlt : k < s.size
    · generalize hx : (((s[k]'hlt).toNat : Nat) : Int) = x
      go_wp2_with fail
      all_goals first
        | (go_ret; exact ⟨RetB.mk (Q := AnyB) trivial, rfl⟩)
        | (go_round
           case rel => exact ⟨k + 1, by omega, by go_num⟩
           case measure => simp [intOf]; omega)
    · go_wp2_with fail
      all_goals (go_ret; exact ⟨RetB.mk (Q := AnyB) trivial, rfl⟩)
end Go.Proofs.Ytokbclpdpegicaa
