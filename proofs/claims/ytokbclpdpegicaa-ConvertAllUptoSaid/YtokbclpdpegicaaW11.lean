/-
  Lists of ints compared: Same, slices.Equal, ints.
-/
import Derived.Test.YtokbclpdpegicaaW10
namespace Go.Proofs.Ytokbclpdpegicaa
open Go.ChangeShapes Go.WideShapes Go.ChangeAt Go.RowKit
def sameB : List Int → List Int → Bool
  | [], [] => true
  | x :: xs, y :: ys => if x = y then sameB xs ys else false
  | _, _ => false
theorem sameB_iff (xs ys : List Int) : sameB xs ys = true ↔ xs = ys := by
  induction xs generalizing ys with
  | nil => cases ys <;> simp [sameB]
  | cons x xs ih => cases ys with
    | nil => simp [sameB]
    | cons y ys => simp only [sameB, List.cons.injEq]; by_cases h : x = y <;> simp [h, ih]
theorem sameB_len (xs ys : List Int) (h : xs.length ≠ ys.length) : sameB xs ys = false := by
  rw [← Bool.not_eq_true, sameB_iff]; rintro rfl; exact h rfl
set_option maxHeartbeats 400000 in
theorem rsame_any (v u : Value) (xs ys : List Int) (w : World) (hv : RdI w v xs) (hu : RdI w u ys) :
    Calls Try.prog 22 #[v, u] w fun e w' => e = .returned (.bool (sameB xs ys)) ∧ ∃ nq, w' = w.drewN nq := by
  obtain ⟨A, n, c, rfl, h1, h2, HN, hr⟩ := hv.op
  obtain ⟨A', n', c', rfl, h1', h2', HN', hr'⟩ := hu.op
  clear hv hu
  by_cases hn : n = n'
  · subst hn
    have hne : ((n : Int) != (n : Int)) = false := by simp
    go_enter Try.func22, Try.ntmps22
    go_wp2_with fail
    go_loopw [13] (fun i wr => ∃ k nq : Nat, k ≤ n ∧ i = .int .i64 k ∧ wr = w.drewN nq ∧ Hid (sameB xs ys = sameB (xs.drop k) (ys.drop k))) (fun i _ => n - (intOf i).toNat)
    case atStart => exact ⟨0, 0, Nat.zero_le _, rfl, rfl, rfl⟩
    case round =>
      obtain ⟨k, nq, hk, rfl, rfl, HP⟩ := hrel
      by_cases hlt : k < n
      · obtain ⟨b, off, x, rfl, hb, hd, hck⟩ := hr.out k hlt
        obtain ⟨b', off', y, rfl, hb', hd', hck'⟩ := hr'.out k hlt
        have HS : Hid (sameB xs ys = if x = y then sameB (xs.drop (k + 1)) (ys.drop (k + 1)) else false) := by rw [Hid, HP.out, hd.out, hd'.out, sameB]
        by_cases hxy : x = y
        · have hb1 : (x != y) = false := by simpa using hxy
          have HS2 : Hid (sameB xs ys = sameB (xs.drop (k + 1)) (ys.drop (k + 1))) := by rw [Hid, HS.out, if_pos hxy]
          clear hxy HS
          go_wp2_with fail
          go_quiet (fail)
          go_wp2_with fail
          go_roundw
          case rel => exact ⟨k + 1, _, by omega, by go_num, rfl, HS2.out⟩
          case measure => simp [intOf]; omega
        · have hb1 : (x != y) = true := by simpa using hxy
          have HS2 : Hid (sameB xs ys = false) := by rw [Hid, HS.out, if_neg hxy]
          clear hxy HS
          go_wp2_with fail
          go_quiet (fail)
          go_wp2_with fail
          go_ret
          exact ⟨by rw [HS2.out]; rfl, _, World.drewN_drewN _ _ _⟩
      · go_wp2_with fail
        go_ret
        refine ⟨?_, _, rfl⟩
        have : sameB xs ys = true := by rw [HP.out, List.drop_of_length_le (by rw [HN.out]; omega), List.drop_of_length_le (by rw [HN'.out]; omega)]; rfl
        rw [this]; rfl
  · have hne : ((n : Int) != (n' : Int)) = true := by simp; omega
    have HS2 : Hid (sameB xs ys = false) := sameB_len _ _ (by rw [HN.out, HN'.out]; exact hn)
    clear hn
    go_enter Try.func22, Try.ntmps22
    go_wp2_with fail
    go_ret
    exact ⟨by rw [HS2.out]; rfl, 0, rfl⟩
set_option maxHeartbeats 400000 in
theorem equal_any (v u : Value) (xs ys : List Int) (w : World) (hv : RdI w v xs) (hu : RdI w u ys) :
    Calls Try.prog 29 #[v, u] w fun e w' => e = .returned (.bool (sameB xs ys)) ∧ ∃ nq, w' = w.drewN nq := by
  obtain ⟨A, n, c, rfl, h1, h2, HN, hr⟩ := hv.op
  obtain ⟨A', n', c', rfl, h1', h2', HN', hr'⟩ := hu.op
  clear hv hu
  by_cases hn : n = n'
  · subst hn
    have hne : ((n : Int) != (n : Int)) = false := by simp
    go_enter Try.func29, Try.ntmps29
    go_wp2_with fail
    go_loopw [13] (fun i wr => ∃ k nq : Nat, k ≤ n ∧ i = .int .i64 k ∧ wr = w.drewN nq ∧ Hid (sameB xs ys = sameB (xs.drop k) (ys.drop k))) (fun i _ => n - (intOf i).toNat)
    case atStart => exact ⟨0, 0, Nat.zero_le _, rfl, rfl, rfl⟩
    case round =>
      obtain ⟨k, nq, hk, rfl, rfl, HP⟩ := hrel
      by_cases hlt : k < n
      · obtain ⟨b, off, x, rfl, hb, hd, hck⟩ := hr.out k hlt
        obtain ⟨b', off', y, rfl, hb', hd', hck'⟩ := hr'.out k hlt
        have HS : Hid (sameB xs ys = if x = y then sameB (xs.drop (k + 1)) (ys.drop (k + 1)) else false) := by rw [Hid, HP.out, hd.out, hd'.out, sameB]
        by_cases hxy : x = y
        · have hb1 : (x != y) = false := by simpa using hxy
          have HS2 : Hid (sameB xs ys = sameB (xs.drop (k + 1)) (ys.drop (k + 1))) := by rw [Hid, HS.out, if_pos hxy]
          clear hxy HS
          go_wp2_with fail
          go_quiet (fail)
          go_wp2_with fail
          go_roundw
          case rel => exact ⟨k + 1, _, by omega, by go_num, rfl, HS2.out⟩
          case measure => simp [intOf]; omega
        · have hb1 : (x != y) = true := by simpa using hxy
          have HS2 : Hid (sameB xs ys = false) := by rw [Hid, HS.out, if_neg hxy]
          clear hxy HS
          go_wp2_with fail
          go_quiet (fail)
          go_wp2_with fail
          go_ret
          exact ⟨by rw [HS2.out]; rfl, _, World.drewN_drewN _ _ _⟩
      · go_wp2_with fail
        go_ret
        refine ⟨?_, _, rfl⟩
        have : sameB xs ys = true := by rw [HP.out, List.drop_of_length_le (by rw [HN.out]; omega), List.drop_of_length_le (by rw [HN'.out]; omega)]; rfl
        rw [this]; rfl
  · have hne : ((n : Int) != (n' : Int)) = true := by simp; omega
    have HS2 : Hid (sameB xs ys = false) := sameB_len _ _ (by rw [HN.out, HN'.out]; exact hn)
    clear hn
    go_enter Try.func29, Try.ntmps29
    go_wp2_with fail
    go_ret
    exact ⟨by rw [HS2.out]; rfl, 0, rfl⟩
set_option maxHeartbeats 400000 in
theorem ints_any (v u : Value) (xs ys : List Int) (w : World) (hv : RdI w v xs) (hu : RdI w u ys) :
    Calls Try.prog 30 #[v, u] w fun e w' => e = .returned (.bool (sameB xs ys)) ∧ ∃ nq, w' = w.drewN nq := by
  obtain ⟨A, n, c, rfl, h1, h2, HN, hr⟩ := hv.op
  obtain ⟨A', n', c', rfl, h1', h2', HN', hr'⟩ := hu.op
  clear hv hu
  by_cases hn : n = n'
  · subst hn
    have hne : ((n : Int) != (n : Int)) = false := by simp
    go_enter Try.func30, Try.ntmps30
    go_wp2_with fail
    go_loopw [5] (fun i wr => ∃ k nq : Nat, k ≤ n ∧ i = .int .i64 k ∧ wr = w.drewN nq ∧ Hid (sameB xs ys = sameB (xs.drop k) (ys.drop k))) (fun i _ => n - (intOf i).toNat)
    case atStart => exact ⟨0, 0, Nat.zero_le _, rfl, rfl, rfl⟩
    case round =>
      obtain ⟨k, nq, hk, rfl, rfl, HP⟩ := hrel
      by_cases hlt : k < n
      · obtain ⟨b, off, x, rfl, hb, hd, hck⟩ := hr.out k hlt
        obtain ⟨b', off', y, rfl, hb', hd', hck'⟩ := hr'.out k hlt
        have HS : Hid (sameB xs ys = if x = y then sameB (xs.drop (k + 1)) (ys.drop (k + 1)) else false) := by rw [Hid, HP.out, hd.out, hd'.out, sameB]
        by_cases hxy : x = y
        · have hb1 : (x != y) = false := by simpa using hxy
          have HS2 : Hid (sameB xs ys = sameB (xs.drop (k + 1)) (ys.drop (k + 1))) := by rw [Hid, HS.out, if_pos hxy]
          clear hxy HS
          go_wp2_with fail
          go_quiet (fail)
          go_wp2_with fail
          go_roundw
          case rel => exact ⟨k + 1, _, by omega, by go_num, rfl, HS2.out⟩
          case measure => simp [intOf]; omega
        · have hb1 : (x != y) = true := by simpa using hxy
          have HS2 : Hid (sameB xs ys = false) := by rw [Hid, HS.out, if_neg hxy]
          clear hxy HS
          go_wp2_with fail
          go_quiet (fail)
          go_wp2_with fail
          go_ret
          exact ⟨by rw [HS2.out]; rfl, _, World.drewN_drewN _ _ _⟩
      · go_wp2_with fail
        go_ret
        refine ⟨?_, _, rfl⟩
        have : sameB xs ys = true := by rw [HP.out, List.drop_of_length_le (by rw [HN.out]; omega), List.drop_of_length_le (by rw [HN'.out]; omega)]; rfl
        rw [this]; rfl
  · have hne : ((n : Int) != (n' : Int)) = true := by simp; omega
    have HS2 : Hid (sameB xs ys = false) := sameB_len _ _ (by rw [HN.out, HN'.out]; exact hn)
    clear hn
    go_enter Try.func30, Try.ntmps30
    go_wp2_with fail
    go_ret
    exact ⟨by rw [HS2.out]; rfl, 0, rfl⟩
end Go.Proofs.Ytokbclpdpegicaa
