/-
  slices.Index, slices.Contains at ints; Has of both sides.
-/
import Derived.Test.YtdijlakeonionaaQ3
namespace Go.Proofs.Ytdijlakeonionaa
open Go.ChangeShapes Go.WideShapes Go.ChangeAt Go.RowKit
/-- a list of ints: it has no elements, or its cells lie in one block -/
theorem RdI.split {w : World} {v : Value} {l : List Int} (h : RdI w v l) : (∃ A c, v = .slice A 0 c ∧ l = []) ∨
    ∃ b off c, v = .slice (some ⟨b, off, none⟩) l.length c ∧ l.length ≤ 9223372036854775807 ∧ ∀ j, j < l.length → w.cell? ⟨b, off + j, none⟩ = some (.int .i64 (l.getD j 0)) := by
  obtain ⟨A, c, rfl, hmc, hc, hlen, hcell⟩ := h
  rcases Nat.eq_zero_or_pos l.length with h0 | h0
  · have hn : l = [] := List.eq_nil_of_length_eq_zero h0
    subst hn
    exact .inl ⟨A, c, rfl, rfl⟩
  · obtain ⟨b, off, rfl, _, hcc⟩ := hcell h0
    exact .inr ⟨b, off, c, rfl, by omega, fun j hj => hcc j _ (by simp [List.getElem?_eq_getElem hj, List.getD])⟩
def hasB (l : List Int) (x : Int) : Bool := l.contains x
theorem hasB_iff (l : List Int) (x : Int) : hasB l x = true ↔ x ∈ l := by simp [hasB]
theorem hasB_cons (y : Int) (l : List Int) (x : Int) : hasB (y :: l) x = (x == y || hasB l x) := by rw [hasB, List.contains_cons]; rfl
theorem index_any (v : Value) (l : List Int) (x : Int) (w : World) (hv : RdI w v l) :
    Calls Try.prog 46 #[v, .int .i64 x] w fun e w' => e = .returned (.int .i64 (Lib.idxOf l x)) ∧ w' = w := by
  rcases hv.split with ⟨A, c, rfl, rfl⟩ | ⟨b, off, c, rfl, h1, h2⟩
  · exact slices_Index_int_empty A c x w
  · have h := slices_Index_int b off l.length c l x w (Nat.le_refl _) h1 h2
    rw [List.take_of_length_le (Nat.le_refl _)] at h
    exact h
theorem contains_any (v : Value) (l : List Int) (x : Int) (w : World) (hv : RdI w v l) :
    Calls Try.prog 82 #[v, .int .i64 x] w fun e w' => e = .returned (.bool (hasB l x)) ∧ w' = w := by
  rcases hv.split with ⟨A, c, rfl, rfl⟩ | ⟨b, off, c, rfl, h1, h2⟩
  · exact slices_Contains_int_empty A c x w
  · have h := slices_Contains_int b off l.length c l x w (Nat.le_refl _) h1 h2
    rw [List.take_of_length_le (Nat.le_refl _)] at h
    exact h
theorem has_any (v : Value) (l : List Int) (x : Int) (w : World) (hv : RdI w v l) :
    Calls Try.prog 63 #[v, .int .i64 x] w fun e w' => e = .returned (.bool (hasB l x)) ∧ w' = w := by
  have HV := Lib.hid hv
  obtain ⟨A, n, c, rfl, _, _, _, _⟩ := hv.op
  clear hv
  have HC : Hid (∃ b, hasB l x = b) := ⟨_, rfl⟩
  obtain ⟨b, hb⟩ := HC.out
  have HB := Lib.hid hb
  rw [hb]
  clear HC hb
  go_enter Try.func63, Try.ntmps63
  go_wp2_with fail
  refine (contains_any _ l x _ HV.out).mono ?_
  rintro e w1 ⟨rfl, rfl⟩
  rw [HB.out]
  go_wp2_with fail
  go_ret
  exact ⟨rfl, rfl⟩
theorem rhas_any (v : Value) (l : List Int) (x : Int) (w : World) (hv : RdI w v l) :
    Calls Try.prog 29 #[v, .int .i64 x] w fun e w' => e = .returned (.bool (hasB l x)) ∧ w' = w := by
  obtain ⟨A, n, c, rfl, _, _, HN, HR⟩ := hv.op
  clear hv
  go_enter Try.func29, Try.ntmps29
  go_wp2_with fail
  go_loop [8] (fun i => ∃ k : Nat, k ≤ n ∧ i = .int .i64 k ∧ Hid (hasB l x = hasB (l.drop k) x)) (fun i => n - (intOf i).toNat)
  case atStart => exact ⟨0, Nat.zero_le _, rfl, rfl⟩
  case round =>
    obtain ⟨k, hk, rfl, HC⟩ := hrel
    by_cases hlt : k < n
    · obtain ⟨b, off, y, rfl, hb, hd, hc0⟩ := HR.out k hlt
      have hk0 : (0 : Int) ≤ (k : Int) := by omega
      cases hy : (y == x)
      · have HC2 : Hid (hasB l x = hasB (l.drop (k + 1)) x) := by
          have hne : ¬ x = y := by intro h; rw [h] at hy; simp at hy
          rw [Hid, HC.out, hd.out, hasB_cons]; simp [hne]
        go_wp2_with fail
        go_round
        case rel => exact ⟨k + 1, by omega, by go_num, HC2.out⟩
        case measure => simp [intOf]; omega
      · have HC2 : Hid (hasB l x = true) := by
          have he : x = y := by have := beq_iff_eq.1 hy; exact this.symm
          rw [Hid, HC.out, hd.out, hasB_cons, he]; simp
        go_wp2_with fail
        go_ret
        exact ⟨by rw [HC2.out]; rfl, rfl⟩
    · have HC2 : Hid (hasB l x = false) := by rw [Hid, HC.out, List.drop_of_length_le (by rw [HN.out]; omega)]; rfl
      go_wp2_with fail
      go_ret
      exact ⟨by rw [HC2.out]; rfl, rfl⟩
end Go.Proofs.Ytdijlakeonionaa
