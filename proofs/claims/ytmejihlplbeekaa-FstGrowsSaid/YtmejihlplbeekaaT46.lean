/-
  slices.BinarySearch of ints.
-/
import Derived.Test.YtmejihlplbeekaaT4
namespace Go.Proofs.Ytmejihlplbeekaa
open Go.ChangeShapes Go.WideShapes Go.ChangeAt Go.RowKit
theorem sorted_take {xs : List Int} (ho : xs.Pairwise (· < ·)) {h : Nat} (hh : h < xs.length) {z : Int} (hz : z ∈ xs.take (h + 1)) : z ≤ xs[h] := by
  rw [List.take_succ_eq_append_getElem hh] at hz
  rcases List.mem_append.1 hz with hz | hz
  · have h0 : xs = xs.take h ++ xs[h] :: xs.drop (h + 1) := by rw [← List.drop_eq_getElem_cons hh, List.take_append_drop]
    rw [h0] at ho
    have := (List.pairwise_append.1 ho).2.2 z hz xs[h] List.mem_cons_self
    omega
  · simp at hz; omega
theorem sorted_drop {xs : List Int} (ho : xs.Pairwise (· < ·)) {h : Nat} (hh : h < xs.length) {z : Int} (hz : z ∈ xs.drop h) : xs[h] ≤ z := by
  rw [List.drop_eq_getElem_cons hh] at hz
  rcases List.mem_cons.1 hz with hz | hz
  · omega
  · have h0 : xs = xs.take h ++ xs[h] :: xs.drop (h + 1) := by rw [← List.drop_eq_getElem_cons hh, List.take_append_drop]
    rw [h0] at ho
    have := (List.pairwise_cons.1 (List.pairwise_append.1 ho).2.1).1 z hz
    omega
set_option maxHeartbeats 400000 in
theorem bsearch_any (v : Value) (xs : List Int) (x : Int) (w : World) (hv : RdI w v xs) (ho : xs.Pairwise (· < ·)) (hl : xs.length ≤ 1000000) :
    Calls Try.prog 36 #[v, .int .i64 x] w fun e w' => (∃ i : Int, e = .returned (.tuple #[.int .i64 i, .bool (decide (x ∈ xs))])) ∧ w = w' := by
  obtain ⟨A, n, c, rfl, h1, h2, hn, hr⟩ := hv.op
  rw [hn.out] at hl
  clear hv
  go_enter Try.func36, Try.ntmps36
  go_wp2
  go_loop [7, 8] (fun i j => ∃ a b : Nat, a ≤ b ∧ b ≤ n ∧ i = .int .i64 a ∧ j = .int .i64 b ∧ Hid (∀ y ∈ xs.take a, y < x) ∧ Hid (∀ y ∈ xs.drop b, x ≤ y)) (fun i j => (intOf j - intOf i).toNat)
  case atStart => exact ⟨0, n, Nat.zero_le _, Nat.le_refl _, rfl, rfl, by simp [Hid], by rw [Hid, List.drop_of_length_le (by rw [hn.out]; omega)]; simp⟩
  case round =>
    obtain ⟨a, b, hab, hbn, rfl, rfl, HL, HG⟩ := hrel
    by_cases hlt : a < b
    · obtain ⟨bb, off, y, rfl, hb2, hd, hck⟩ := hr.out ((a + b) / 2) (by omega)
      have HY : Hid (y = xs[(a + b) / 2]'(by rw [hn.out]; omega)) := by
        have h := hd.out
        rw [List.drop_eq_getElem_cons (by rw [hn.out]; omega)] at h
        exact (List.cons.inj h).1.symm
      by_cases hyx : y < x
      · go_wp2
        go_round
        case rel =>
          refine ⟨(a + b) / 2 + 1, b, by omega, hbn, by go_num, rfl, ?_, HG⟩
          intro z hz
          have := sorted_take ho (by rw [hn.out]; omega) hz
          rw [HY.out] at hyx
          omega
        case measure => simp [intOf]; omega
      · go_wp2
        go_round
        case rel =>
          refine ⟨a, (a + b) / 2, by omega, by omega, rfl, by go_num, HL, ?_⟩
          intro z hz
          have := sorted_drop ho (by rw [hn.out]; omega) hz
          rw [HY.out] at hyx
          omega
        case measure => simp [intOf]; omega
    · obtain rfl : a = b := by omega
      by_cases ha : a < n
      · obtain ⟨bb, off, y, rfl, hb2, hd, hck⟩ := hr.out a ha
        have HM : Hid (decide (x ∈ xs) = (y == x)) := by
          rw [Hid, Bool.eq_iff_iff]
          simp only [decide_eq_true_eq, beq_iff_eq]
          have hx0 : xs = xs.take a ++ y :: xs.drop (a + 1) := by rw [← hd.out, List.take_append_drop]
          constructor
          · intro hx
            rw [hx0] at hx
            rcases List.mem_append.1 hx with h | h
            · have := HL.out x h; omega
            · rcases List.mem_cons.1 h with h | h
              · exact h.symm
              · have h2 := ho
                rw [hx0] at h2
                have h3 := (List.pairwise_append.1 h2).2.1
                have h4 := (List.pairwise_cons.1 h3).1 x h
                have := HG.out y (by rw [hd.out]; simp)
                omega
          · rintro rfl
            rw [hx0]; simp
        cases hyx : (y == x)
        · have HE := Lib.hid hyx
          go_wp2
          go_ret2
          exact ⟨⟨_, by rw [HM.out, HE.out]; rfl⟩, rfl⟩
        · have HE := Lib.hid hyx
          go_wp2
          go_ret2
          exact ⟨⟨_, by rw [HM.out, HE.out]; rfl⟩, rfl⟩
      · have HM : Hid (decide (x ∈ xs) = false) := by
          rw [Hid]
          simp only [decide_eq_false_iff_not]
          intro hx
          have := HL.out x (by rw [List.take_of_length_le (by rw [hn.out]; omega)]; exact hx)
          omega
        go_wp2
        go_ret2
        exact ⟨⟨_, by rw [HM.out]; rfl⟩, rfl⟩
end Go.Proofs.Ytmejihlplbeekaa
