/-
  Lists of texts compared: Same of the reference of words.
-/
import Derived.Test.YtokbclpdpegicaaW21
namespace Go.Proofs.Ytokbclpdpegicaa
open Go.ChangeShapes Go.WideShapes Go.ChangeAt Go.RowKit
def sameT : List ByteArray → List ByteArray → Bool
  | [], [] => true
  | x :: xs, y :: ys => if (x.toList == y.toList) = true then sameT xs ys else false
  | _, _ => false
theorem sameT_iff (xs ys : List ByteArray) : sameT xs ys = true ↔ xs = ys := by
  induction xs generalizing ys with
  | nil => cases ys <;> simp [sameT]
  | cons x xs ih => cases ys with
    | nil => simp [sameT]
    | cons y ys =>
      simp only [sameT, List.cons.injEq, bytes_beq, decide_eq_true_eq]
      by_cases h : x = y <;> simp [h, ih]
theorem sameT_len (xs ys : List ByteArray) (h : xs.length ≠ ys.length) : sameT xs ys = false := by
  rw [← Bool.not_eq_true, sameT_iff]; rintro rfl; exact h rfl
set_option maxHeartbeats 400000 in
theorem tsame_any (v u : Value) (xs ys : List ByteArray) (w : World) (hv : RdS w v xs) (hu : RdS w u ys) :
    Calls Try.prog 25 #[v, u] w fun e w' => e = .returned (.bool (sameT xs ys)) ∧ ∃ nq, w' = w.drewN nq := by
  obtain ⟨A, n, c, rfl, h1, h2, HN, hr⟩ := hv.op
  obtain ⟨A', n', c', rfl, h1', h2', HN', hr'⟩ := hu.op
  clear hv hu
  by_cases hn : n = n'
  · subst hn
    have hne : ((n : Int) != (n : Int)) = false := by simp
    go_enter Try.func25, Try.ntmps25
    go_wp2_with fail
    go_loopw [5] (fun i wr => ∃ k nq : Nat, k ≤ n ∧ i = .int .i64 k ∧ wr = w.drewN nq ∧ Hid (sameT xs ys = sameT (xs.drop k) (ys.drop k))) (fun i _ => n - (intOf i).toNat)
    case atStart => exact ⟨0, 0, Nat.zero_le _, rfl, rfl, rfl⟩
    case round =>
      obtain ⟨k, nq, hk, rfl, rfl, HP⟩ := hrel
      by_cases hlt : k < n
      · obtain ⟨b, off, x, rfl, hb, hd, hck⟩ := hr.out k hlt
        obtain ⟨b', off', y, rfl, hb', hd', hck'⟩ := hr'.out k hlt
        have HS : Hid (sameT xs ys = if (x.toList == y.toList) = true then sameT (xs.drop (k + 1)) (ys.drop (k + 1)) else false) := by rw [Hid, HP.out, hd.out, hd'.out, sameT]
        cases hxy : (x.toList == y.toList)
        · have hb1 : (x.toList != y.toList) = true := by simp [bne, hxy]
          have HS2 : Hid (sameT xs ys = false) := by rw [Hid, HS.out, if_neg (by simp [hxy])]
          clear HS
          go_wp2_with fail
          go_quiet (fail)
          go_wp2_with fail
          go_ret
          exact ⟨by rw [HS2.out]; rfl, _, World.drewN_drewN _ _ _⟩
        · have hb1 : (x.toList != y.toList) = false := by simp [bne, hxy]
          have HS2 : Hid (sameT xs ys = sameT (xs.drop (k + 1)) (ys.drop (k + 1))) := by rw [Hid, HS.out, if_pos hxy]
          clear HS
          go_wp2_with fail
          go_quiet (fail)
          go_wp2_with fail
          go_roundw
          case rel => exact ⟨k + 1, _, by omega, by go_num, rfl, HS2.out⟩
          case measure => simp [intOf]; omega
      · go_wp2_with fail
        go_ret
        refine ⟨?_, _, rfl⟩
        have : sameT xs ys = true := by rw [HP.out, List.drop_of_length_le (by rw [HN.out]; omega), List.drop_of_length_le (by rw [HN'.out]; omega)]; rfl
        rw [this]; rfl
  · have hne : ((n : Int) != (n' : Int)) = true := by simp; omega
    have HS2 : Hid (sameT xs ys = false) := sameT_len _ _ (by rw [HN.out, HN'.out]; exact hn)
    clear hn
    go_enter Try.func25, Try.ntmps25
    go_wp2_with fail
    go_ret
    exact ⟨by rw [HS2.out]; rfl, 0, rfl⟩
end Go.Proofs.Ytokbclpdpegicaa
