import Derived.Test.YtmejihlplbeekaaAcc
namespace Go.Proofs.Ytmejihlplbeekaa
open Go.ChangeShapes Go.WideShapes Go.ChangeAt Go.RowKit

theorem plain_any (v : Value) (xs : List Int) (w : World) (hv : RdI w v xs) :
    Calls Try.prog 38 #[v] w fun e w' => e = .returned (.bool (plainB xs)) ∧ w = w' := by
  obtain ⟨A, n, c, rfl, h1, h2, hn, hr⟩ := hv.op
  clear hv
  go_enter Try.func38, Try.ntmps38
  go_wp2
  go_loop [3] (fun i => ∃ k : Nat, k ≤ n ∧ i = .int .i64 k ∧ Hid (plainB xs = plainB (xs.drop k))) (fun i => n - (intOf i).toNat)
  case atStart => exact ⟨0, Nat.zero_le _, rfl, rfl⟩
  case round =>
    obtain ⟨k, hk, rfl, HP⟩ := hrel
    by_cases hlt : k < n
    · obtain ⟨b, off, x, rfl, hb, hd, hck⟩ := hr.out k hlt
      go_wp2
      · go_ret
        have hx : x < 1 := ‹_›
        refine ⟨?_, rfl⟩
        rw [HP.out, hd.out]
        simp [plainB, show ¬ 1 ≤ x by omega]
      · have hx : 1 ≤ x := ‹_›
        go_round
        case rel => exact ⟨k + 1, by omega, by go_num, by rw [Hid, HP.out, hd.out]; simp [plainB, hx]⟩
        case measure => simp [intOf]; omega
    · go_wp2
      go_ret
      refine ⟨?_, rfl⟩
      rw [HP.out, List.drop_of_length_le (by rw [hn.out]; omega)]
      rfl
end Go.Proofs.Ytmejihlplbeekaa
