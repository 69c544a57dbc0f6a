/-
  Small functions of the reference: Same, Has of lists of ints; senses and pairs compared.
-/
import Derived.Test.YtnjniganlielcaaV20
import Derived.Laws.StructEq
namespace Go.Proofs.Ytnjniganlielcaa
open Go.ChangeShapes Go.WideShapes Go.ChangeAt Go.RowKit
def sameB : List Int → List Int → Bool
  | [], [] => true
  | x :: xs, y :: ys => if x = y then sameB xs ys else false
  | _, _ => false
theorem sameB_iff (xs ys : List Int) : sameB xs ys = true ↔ xs = ys := by
  induction xs generalizing ys with
  | nil => cases ys <;> simp [sameB]
  | cons x xs ih => cases ys with
    | nil => simp [sameB]
    | cons y ys => simp only [sameB, List.cons.injEq]; by_cases h : x = y <;> simp [h, ih]
theorem sameB_len (xs ys : List Int) (h : xs.length ≠ ys.length) : sameB xs ys = false := by
  rw [← Bool.not_eq_true, sameB_iff]; rintro rfl; exact h rfl
set_option maxHeartbeats 400000 in
theorem rsame_any (v u : Value) (xs ys : List Int) (w : World) (hv : RdI w v xs) (hu : RdI w u ys) :
    Calls Try.prog 19 #[v, u] w fun e w' => e = .returned (.bool (sameB xs ys)) ∧ ∃ nq, w' = w.drewN nq := by
  obtain ⟨A, n, c, rfl, h1, h2, HN, hr⟩ := hv.op
  obtain ⟨A', n', c', rfl, h1', h2', HN', hr'⟩ := hu.op
  clear hv hu
  by_cases hn : n = n'
  · subst hn
    have hne : ((n : Int) != (n : Int)) = false := by simp
    go_enter Try.func19, Try.ntmps19
    go_wp2_with fail
    go_loopw [13] (fun i wr => ∃ k nq : Nat, k ≤ n ∧ i = .int .i64 k ∧ wr = w.drewN nq ∧ Hid (sameB xs ys = sameB (xs.drop k) (ys.drop k))) (fun i _ => n - (intOf i).toNat)
    case atStart => exact ⟨0, 0, Nat.zero_le _, rfl, rfl, rfl⟩
    case round =>
      obtain ⟨k, nq, hk, rfl, rfl, HP⟩ := hrel
      by_cases hlt : k < n
      · obtain ⟨b, off, x, rfl, hb, hd, hck⟩ := hr.out k hlt
        obtain ⟨b', off', y, rfl, hb', hd', hck'⟩ := hr'.out k hlt
        have HS : Hid (sameB xs ys = if x = y then sameB (xs.drop (k + 1)) (ys.drop (k + 1)) else false) := by rw [Hid, HP.out, hd.out, hd'.out, sameB]
        by_cases hxy : x = y
        · have hb1 : (x != y) = false := by simpa using hxy
          have HS2 : Hid (sameB xs ys = sameB (xs.drop (k + 1)) (ys.drop (k + 1))) := by rw [Hid, HS.out, if_pos hxy]
          clear hxy HS
          go_wp2_with fail
          go_quiet (fail)
          go_wp2_with fail
          go_roundw
          case rel => exact ⟨k + 1, _, by omega, by go_num, rfl, HS2.out⟩
          case measure => simp [intOf]; omega
        · have hb1 : (x != y) = true := by simpa using hxy
          have HS2 : Hid (sameB xs ys = false) := by rw [Hid, HS.out, if_neg hxy]
          clear hxy HS
          go_wp2_with fail
          go_quiet (fail)
          go_wp2_with fail
          go_ret
          exact ⟨by rw [HS2.out]; rfl, _, World.drewN_drewN _ _ _⟩
      · go_wp2_with fail
        go_ret
        refine ⟨?_, _, rfl⟩
        have : sameB xs ys = true := by rw [HP.out, List.drop_of_length_le (by rw [HN.out]; omega), List.drop_of_length_le (by rw [HN'.out]; omega)]; rfl
        rw [this]; rfl
  · have hne : ((n : Int) != (n' : Int)) = true := by simp; omega
    have HS2 : Hid (sameB xs ys = false) := sameB_len _ _ (by rw [HN.out, HN'.out]; exact hn)
    clear hn
    go_enter Try.func19, Try.ntmps19
    go_wp2_with fail
    go_ret
    exact ⟨by rw [HS2.out]; rfl, 0, rfl⟩
def hasB (l : List Int) (x : Int) : Bool := l.any fun y => y == x
theorem hasB_iff (l : List Int) (x : Int) : hasB l x = true ↔ x ∈ l := by
  simp [hasB]
theorem hasR_any (v : Value) (xs : List Int) (x : Int) (w : World) (hv : RdI w v xs) :
    Calls Try.prog 30 #[v, .int .i64 x] w fun e w' => e = .returned (.bool (hasB xs x)) ∧ w = w' := by
  obtain ⟨A, n, c, rfl, h1, h2, HN, hr⟩ := hv.op
  clear hv
  go_enter Try.func30, Try.ntmps30
  go_wp2_with fail
  go_loop [8] (fun i => ∃ k : Nat, k ≤ n ∧ i = .int .i64 k ∧ Hid (hasB xs x = hasB (xs.drop k) x)) (fun i => n - (intOf i).toNat)
  case atStart => exact ⟨0, Nat.zero_le _, rfl, rfl⟩
  case round =>
    obtain ⟨k, hk, rfl, HP⟩ := hrel
    by_cases hlt : k < n
    · obtain ⟨b, off, y, rfl, hb, hd, hck⟩ := hr.out k hlt
      by_cases hxy : y = x
      · have hb1 : (y == x) = true := by simpa using hxy
        go_wp2_with fail
        go_ret
        refine ⟨?_, rfl⟩
        rw [HP.out, hd.out]; simp [hasB, hxy]
      · have hb1 : (y == x) = false := by simpa using hxy
        go_wp2_with fail
        go_round
        case rel => exact ⟨k + 1, by omega, by go_num, by rw [Hid, HP.out, hd.out]; simp [hasB, hxy]⟩
        case measure => simp [intOf]; omega
    · go_wp2_with fail
      go_ret
      refine ⟨?_, rfl⟩
      rw [HP.out, List.drop_of_length_le (by rw [HN.out]; omega)]; rfl
theorem rsame_b (v u : Value) (xs ys : List Int) (w : World) (hv : RdI w v xs) (hu : RdI w u ys) :
    Calls Try.prog 19 #[v, u] w fun e w' => e = .returned (.bool (sameB xs ys)) ∧ Below w.heap.size w w' :=
  (rsame_any v u xs ys w hv hu).mono fun _ _ ⟨h, n, hw⟩ => ⟨h, by rw [hw]; exact below_drewN (Below.refl _ _) n⟩

theorem fieldsSe : Try.prog.underlying 41 = some (.struct (Try.prog.fieldsOf 41)) := by kernel_rfl
theorem fieldsLk : Try.prog.underlying 69 = some (.struct (Try.prog.fieldsOf 69)) := by kernel_rfl
theorem fieldsRf : Try.prog.underlying 71 = some (.struct (Try.prog.fieldsOf 71)) := by kernel_rfl
theorem tol_eq (a c : ByteArray) : (a.toList == c.toList) = decide (a = c) := by
  rw [← beq_toListBytes, Bool.eq_iff_iff]
  obtain ⟨⟨x⟩⟩ := a
  obtain ⟨⟨y⟩⟩ := c
  show ((⟨x⟩ : Array UInt8) == ⟨y⟩) = true ↔ _
  simp
theorem neqSe (w : World) (p q : PSe) : (binOp .neq 41 (.agg #[.string p.g, .string p.d]) (.agg #[.string q.g, .string q.d])).run Try.prog w = .ok (.bool (!decide (p = q))) w := by
  rw [run_neq_struct, run_equalIn_agg w 9999 _ _ _ fieldsSe (by kernel_rfl)]
  have hf : (Try.prog.fieldsOf 41).toList = (match Try.prog.underlying 41 with | some (.struct fs) => fs | _ => #[]).toList := rfl
  rw [hf, Try.underlying41]
  simp only [Op.eqFields]
  obtain ⟨a, b⟩ := p
  obtain ⟨c, d⟩ := q
  have e0 := tol_eq a c
  have e1 := tol_eq b d
  by_cases h0 : a = c <;> by_cases h1 : b = d <;> simp_all [go_sem, Try.underlying9]
theorem neqLk (w : World) (p q : P2) : (binOp .neq 69 (.agg #[.int .i64 p.x, .int .i64 p.y]) (.agg #[.int .i64 q.x, .int .i64 q.y])).run Try.prog w = .ok (.bool (!decide (p = q))) w := by
  rw [run_neq_struct, run_equalIn_agg w 9999 _ _ _ fieldsLk (by kernel_rfl)]
  have hf : (Try.prog.fieldsOf 69).toList = (match Try.prog.underlying 69 with | some (.struct fs) => fs | _ => #[]).toList := rfl
  rw [hf, Try.underlying69]
  simp only [Op.eqFields]
  obtain ⟨a, b⟩ := p
  obtain ⟨c, d⟩ := q
  by_cases h0 : a = c <;> by_cases h1 : b = d <;> simp_all [go_sem, Try.underlying3]
theorem neqRf (w : World) (p q : P2) : (binOp .neq 71 (.agg #[.int .i64 p.x, .int .i64 p.y]) (.agg #[.int .i64 q.x, .int .i64 q.y])).run Try.prog w = .ok (.bool (!decide (p = q))) w := by
  rw [run_neq_struct, run_equalIn_agg w 9999 _ _ _ fieldsRf (by kernel_rfl)]
  have hf : (Try.prog.fieldsOf 71).toList = (match Try.prog.underlying 71 with | some (.struct fs) => fs | _ => #[]).toList := rfl
  rw [hf, Try.underlying71]
  simp only [Op.eqFields]
  obtain ⟨a, b⟩ := p
  obtain ⟨c, d⟩ := q
  by_cases h0 : a = c <;> by_cases h1 : b = d <;> simp_all [go_sem, Try.underlying3]
end Go.Proofs.Ytnjniganlielcaa
