/-
  Small functions of the references and of the statements: symbols, Same, Has, short, Light, takes, accepts.
-/
import Derived.Test.YtmeppkkoepmlnaaT19
namespace Go.Proofs.Ytmeppkkoepmlnaa
open Go.ChangeShapes Go.WideShapes Go.ChangeAt Go.RowKit
def symE (most : Int) (xs : List Int) : Int := if most < (xs.length : Int) then 5 else if symsB xs then 0 else 1
set_option maxHeartbeats 400000 in
theorem symbols_any (v : Value) (xs : List Int) (most : Int) (w : World) (hv : RdI w v xs) :
    Calls Try.prog 43 #[v, .int .i64 most] w fun e w' => e = .returned (.int .i64 (symE most xs)) ∧ w = w' := by
  obtain ⟨A, n, c, rfl, h1, h2, HN, hr⟩ := hv.op
  clear hv
  by_cases hm : most < (n : Int)
  · go_enter Try.func43, Try.ntmps43
    go_wp2_with fail
    go_ret
    exact ⟨by simp [symE, HN.out, hm], rfl⟩
  have HE : Hid (symE most xs = if symsB xs then 0 else 1) := by rw [Hid, symE, HN.out, if_neg hm]
  have hm' : decide (most < (n : Int)) = false := by simpa using hm
  go_enter Try.func43, Try.ntmps43
  go_wp2_with fail
  go_loop [5] (fun i => ∃ k : Nat, k ≤ n ∧ i = .int .i64 k ∧ Hid (symsB xs = symsB (xs.drop k))) (fun i => n - (intOf i).toNat)
  case atStart => exact ⟨0, Nat.zero_le _, rfl, rfl⟩
  case round =>
    obtain ⟨k, hk, rfl, HP⟩ := hrel
    by_cases hlt : k < n
    · obtain ⟨b, off, x, rfl, hb, hd, hck⟩ := hr.out k hlt
      by_cases hx1 : x < 1
      · go_wp2_with fail
        go_ret
        refine ⟨?_, rfl⟩
        have : symsB xs = false := by rw [HP.out, hd.out]; simp [symsB, symOk1]; omega
        simp [HE.out, this]
      · have hx1' : decide (x < 1) = false := by simpa using hx1
        by_cases hx2 : 1099511627776 < x
        · go_wp2_with fail
          go_ret
          refine ⟨?_, rfl⟩
          have : symsB xs = false := by rw [HP.out, hd.out]; simp [symsB, symOk1]; omega
          simp [HE.out, this]
        · go_wp2_with fail
          go_round
          case rel => exact ⟨k + 1, by omega, by go_num, by rw [Hid, HP.out, hd.out]; simp [symsB, symOk1]; omega⟩
          case measure => simp [intOf]; omega
    · go_wp2_with fail
      go_ret
      refine ⟨?_, rfl⟩
      have : symsB xs = true := by rw [HP.out, List.drop_of_length_le (by rw [HN.out]; omega)]; rfl
      simp [HE.out, this]
def sameB : List Int → List Int → Bool
  | [], [] => true
  | x :: xs, y :: ys => if x = y then sameB xs ys else false
  | _, _ => false
theorem sameB_iff (xs ys : List Int) : sameB xs ys = true ↔ xs = ys := by
  induction xs generalizing ys with
  | nil => cases ys <;> simp [sameB]
  | cons x xs ih => cases ys with
    | nil => simp [sameB]
    | cons y ys => simp only [sameB, List.cons.injEq]; by_cases h : x = y <;> simp [h, ih]
theorem sameB_len (xs ys : List Int) (h : xs.length ≠ ys.length) : sameB xs ys = false := by
  rw [← Bool.not_eq_true, sameB_iff]; rintro rfl; exact h rfl
set_option maxHeartbeats 400000 in
theorem rsame_any (v u : Value) (xs ys : List Int) (w : World) (hv : RdI w v xs) (hu : RdI w u ys) :
    Calls Try.prog 20 #[v, u] w fun e w' => e = .returned (.bool (sameB xs ys)) ∧ ∃ nq, w' = w.drewN nq := by
  obtain ⟨A, n, c, rfl, h1, h2, HN, hr⟩ := hv.op
  obtain ⟨A', n', c', rfl, h1', h2', HN', hr'⟩ := hu.op
  clear hv hu
  by_cases hn : n = n'
  · subst hn
    have hne : ((n : Int) != (n : Int)) = false := by simp
    go_enter Try.func20, Try.ntmps20
    go_wp2_with fail
    go_loopw [13] (fun i wr => ∃ k nq : Nat, k ≤ n ∧ i = .int .i64 k ∧ wr = w.drewN nq ∧ Hid (sameB xs ys = sameB (xs.drop k) (ys.drop k))) (fun i _ => n - (intOf i).toNat)
    case atStart => exact ⟨0, 0, Nat.zero_le _, rfl, rfl, rfl⟩
    case round =>
      obtain ⟨k, nq, hk, rfl, rfl, HP⟩ := hrel
      by_cases hlt : k < n
      · obtain ⟨b, off, x, rfl, hb, hd, hck⟩ := hr.out k hlt
        obtain ⟨b', off', y, rfl, hb', hd', hck'⟩ := hr'.out k hlt
        have HS : Hid (sameB xs ys = if x = y then sameB (xs.drop (k + 1)) (ys.drop (k + 1)) else false) := by rw [Hid, HP.out, hd.out, hd'.out, sameB]
        by_cases hxy : x = y
        · have hb1 : (x != y) = false := by simpa using hxy
          have HS2 : Hid (sameB xs ys = sameB (xs.drop (k + 1)) (ys.drop (k + 1))) := by rw [Hid, HS.out, if_pos hxy]
          clear hxy HS
          go_wp2_with fail
          go_quiet (fail)
          go_wp2_with fail
          go_roundw
          case rel => exact ⟨k + 1, _, by omega, by go_num, rfl, HS2.out⟩
          case measure => simp [intOf]; omega
        · have hb1 : (x != y) = true := by simpa using hxy
          have HS2 : Hid (sameB xs ys = false) := by rw [Hid, HS.out, if_neg hxy]
          clear hxy HS
          go_wp2_with fail
          go_quiet (fail)
          go_wp2_with fail
          go_ret
          exact ⟨by rw [HS2.out]; rfl, _, World.drewN_drewN _ _ _⟩
      · go_wp2_with fail
        go_ret
        refine ⟨?_, _, rfl⟩
        have : sameB xs ys = true := by rw [HP.out, List.drop_of_length_le (by rw [HN.out]; omega), List.drop_of_length_le (by rw [HN'.out]; omega)]; rfl
        rw [this]; rfl
  · have hne : ((n : Int) != (n' : Int)) = true := by simp; omega
    have HS2 : Hid (sameB xs ys = false) := sameB_len _ _ (by rw [HN.out, HN'.out]; exact hn)
    clear hn
    go_enter Try.func20, Try.ntmps20
    go_wp2_with fail
    go_ret
    exact ⟨by rw [HS2.out]; rfl, 0, rfl⟩
def hasB (l : List Int) (x : Int) : Bool := l.any fun y => y == x
theorem hasB_iff (l : List Int) (x : Int) : hasB l x = true ↔ x ∈ l := by
  simp [hasB]
theorem has_any (v : Value) (xs : List Int) (x : Int) (w : World) (hv : RdI w v xs) :
    Calls Try.prog 23 #[v, .int .i64 x] w fun e w' => e = .returned (.bool (hasB xs x)) ∧ w = w' := by
  obtain ⟨A, n, c, rfl, h1, h2, HN, hr⟩ := hv.op
  clear hv
  go_enter Try.func23, Try.ntmps23
  go_wp2_with fail
  go_loop [8] (fun i => ∃ k : Nat, k ≤ n ∧ i = .int .i64 k ∧ Hid (hasB xs x = hasB (xs.drop k) x)) (fun i => n - (intOf i).toNat)
  case atStart => exact ⟨0, Nat.zero_le _, rfl, rfl⟩
  case round =>
    obtain ⟨k, hk, rfl, HP⟩ := hrel
    by_cases hlt : k < n
    · obtain ⟨b, off, y, rfl, hb, hd, hck⟩ := hr.out k hlt
      by_cases hxy : y = x
      · have hb1 : (y == x) = true := by simpa using hxy
        go_wp2_with fail
        go_ret
        refine ⟨?_, rfl⟩
        rw [HP.out, hd.out]; simp [hasB, hxy]
      · have hb1 : (y == x) = false := by simpa using hxy
        go_wp2_with fail
        go_round
        case rel => exact ⟨k + 1, by omega, by go_num, by rw [Hid, HP.out, hd.out]; simp [hasB, hxy]⟩
        case measure => simp [intOf]; omega
    · go_wp2_with fail
      go_ret
      refine ⟨?_, rfl⟩
      rw [HP.out, List.drop_of_length_le (by rw [HN.out]; omega)]; rfl
/-- a pair of lists in memory -/
def RdT (w : World) (v : Value) (xs ys : List Int) : Prop := ∃ vx vy, v = .agg #[vx, vy] ∧ RdI w vx xs ∧ RdI w vy ys
theorem RdT.below {w w' : World} {v : Value} {xs ys : List Int} (h : RdT w v xs ys) (hb : Below w.heap.size w w') : RdT w' v xs ys := by
  obtain ⟨vx, vy, rfl, h1, h2⟩ := h
  exact ⟨vx, vy, rfl, h1.below hb, h2.below hb⟩
theorem short_any (v : Value) (xs ys : List Int) (w : World) (hv : RdT w v xs ys) :
    Calls Try.prog 14 #[v] w fun e w' => e = .returned (.bool (decide (xs.length ≤ 4) && decide (ys.length ≤ 4))) ∧ Below w.heap.size w w' := by
  obtain ⟨vx, vy, rfl, hx, hy⟩ := hv
  obtain ⟨A, n, c, rfl, h1, h2, HN, hr⟩ := hx.op
  obtain ⟨A', n', c', rfl, h1', h2', HN', hr'⟩ := hy.op
  rw [HN.out, HN'.out]
  clear hx hy
  by_cases hn : n ≤ 4
  · have hn' : decide ((n : Int) ≤ 4) = true := by simp; omega
    go_enter Try.func14, Try.ntmps14
    go_wp2_with fail
    go_ret
    exact ⟨by simp [hn]; omega, by repeat (first | assumption | exact Below.refl _ _ | refine Below.alloc ?_ (by first | omega | (simp; done) | (simp; omega)) _ | refine Below.drew ?_ | refine below_drewN ?_ _ | refine Below.setCell ?_ (by first | omega | (simp; done) | (simp; omega)) _)⟩
  · have hn' : decide ((n : Int) ≤ 4) = false := by simp; omega
    go_enter Try.func14, Try.ntmps14
    go_wp2_with fail
    go_ret
    exact ⟨by simp [hn], by repeat (first | assumption | exact Below.refl _ _ | refine Below.alloc ?_ (by first | omega | (simp; done) | (simp; omega)) _ | refine Below.drew ?_ | refine below_drewN ?_ _ | refine Below.setCell ?_ (by first | omega | (simp; done) | (simp; omega)) _)⟩
def lightB (F : PFst) : Bool := decide (F.states ≤ 4) && (decide (F.arcs.length ≤ 8) && (decide (F.final.length ≤ 4) && (chk F == 0)))
theorem light_any (v : Value) (F : PFst) (w : World) (hv : RdF w v F) :
    Calls Try.prog 24 #[v] w fun e w' => e = .returned (.bool (lightB F)) ∧ Below w.heap.size w w' := by
  have HV := Lib.hid hv
  obtain ⟨va, vf, rfl, ha, hf⟩ := hv
  obtain ⟨A, n, c, rfl, h1, h2, HN, hr⟩ := ha.op
  obtain ⟨A', n', c', rfl, h1', h2', HN', hr'⟩ := hf.op
  have HL : Hid (lightB F = (decide (F.states ≤ 4) && (decide (n ≤ 8) && (decide (n' ≤ 4) && (chk F == 0))))) := by rw [Hid, lightB, HN.out, HN'.out]
  clear ha hf
  by_cases g1 : F.states ≤ 4
  · have g1' : decide (F.states ≤ 4) = true := by simpa using g1
    by_cases g2 : n ≤ 8
    · have g2' : decide ((n : Int) ≤ 8) = true := by simp; omega
      by_cases g3 : n' ≤ 4
      · have g3' : decide ((n' : Int) ≤ 4) = true := by simp; omega
        obtain ⟨x, hx⟩ : ∃ x, chk F = x := ⟨_, rfl⟩
        have HX := Lib.hid hx
        clear hx
        go_enter Try.func24, Try.ntmps24
        go_wp2_with fail
        refine (check_any _ F _ (HV.out.below ((Below.refl _ _).alloc (Nat.le_refl _) _))).mono ?_
        rintro e w1 ⟨rfl, hb⟩
        rw [HX.out]
        have HB := Lib.hid hb
        clear hb
        go_wp2_with fail
        go_ret
        exact ⟨by rw [HL.out, HX.out]; simp [g1, g2, g3], ((Below.refl _ _).alloc (Nat.le_refl _) _).trans (HB.out.mono (by simp))⟩
      · have g3' : decide ((n' : Int) ≤ 4) = false := by simp; omega
        go_enter Try.func24, Try.ntmps24
        go_wp2_with fail
        go_ret
        exact ⟨by rw [HL.out]; simp [g3], by repeat (first | assumption | exact Below.refl _ _ | refine Below.alloc ?_ (by first | omega | (simp; done) | (simp; omega)) _ | refine Below.drew ?_ | refine below_drewN ?_ _ | refine Below.setCell ?_ (by first | omega | (simp; done) | (simp; omega)) _)⟩
    · have g2' : decide ((n : Int) ≤ 8) = false := by simp; omega
      go_enter Try.func24, Try.ntmps24
      go_wp2_with fail
      go_ret
      exact ⟨by rw [HL.out]; simp [g2], by repeat (first | assumption | exact Below.refl _ _ | refine Below.alloc ?_ (by first | omega | (simp; done) | (simp; omega)) _ | refine Below.drew ?_ | refine below_drewN ?_ _ | refine Below.setCell ?_ (by first | omega | (simp; done) | (simp; omega)) _)⟩
  · have g1' : decide (F.states ≤ 4) = false := by simpa using g1
    go_enter Try.func24, Try.ntmps24
    go_wp2_with fail
    go_ret
    exact ⟨by rw [HL.out, g1']; rfl, by repeat (first | assumption | exact Below.refl _ _ | refine Below.alloc ?_ (by first | omega | (simp; done) | (simp; omega)) _ | refine Below.drew ?_ | refine below_drewN ?_ _ | refine Below.setCell ?_ (by first | omega | (simp; done) | (simp; omega)) _)⟩
theorem takes_any (v x : Value) (F : PFst) (xs ys : List Int) (want : Bool) (w : World) (hv : RdF w v F) (hx : RdT w x xs ys) (hG : Good F) (h1 : xs.length ≤ 1000) (h2 : ys.length ≤ 1000) :
    Calls Try.prog 19 #[v, .int .i64 0, x, .bool want] w fun e w' => e = .returned (.bool (accB F xs ys == want)) ∧ Below w.heap.size w w' := by
  have HV := Lib.hid hv
  have HX := Lib.hid hx
  have HG := Lib.hid hG
  have H1 := Lib.hid h1
  have H2 := Lib.hid h2
  obtain ⟨va, vf, rfl, ha, hf⟩ := hv
  obtain ⟨A, n, c, rfl, _, _, _, _⟩ := ha.op
  obtain ⟨A', n', c', rfl, _, _, _, _⟩ := hf.op
  obtain ⟨vx, vy, rfl, hx, hy⟩ := hx
  obtain ⟨Ax, nx, cx, rfl, _, _, _, _⟩ := hx.op
  obtain ⟨Ay, ny, cy, rfl, _, _, _, _⟩ := hy.op
  have HXX := Lib.hid hx
  have HYY := Lib.hid hy
  clear ha hf hx hy hG h1 h2
  have hc : Hid (chk F = 0) := (chk_ok F).2 HG.out
  have hz : Hid (∀ o o', Below w.heap.size w ((w.alloc o).alloc o')) := fun o o' => ((Below.refl _ _).alloc (Nat.le_refl _) _).alloc (by simp) _
  go_enter Try.func19, Try.ntmps19
  go_wp2_with fail
  refine (check_any _ F _ (HV.out.below (hz.out _ _))).mono ?_
  rintro e w1 ⟨rfl, hb⟩
  rw [hc.out]
  have HB := Lib.hid hb
  have k0 : w1.cell? ⟨w.heap.size, 0, none⟩ = some (.int .i64 F.states) := (hb.cell (p := ⟨w.heap.size, 0, none⟩) (by simp; omega)).trans (by simp [go_sem])
  have k1 : w1.cell? ⟨w.heap.size, 1, none⟩ = some (.slice A n c) := (hb.cell (p := ⟨w.heap.size, 1, none⟩) (by simp; omega)).trans (by simp [go_sem])
  have k2 : w1.cell? ⟨w.heap.size, 2, none⟩ = some (.slice A' n' c') := (hb.cell (p := ⟨w.heap.size, 2, none⟩) (by simp; omega)).trans (by simp [go_sem])
  have m0 : w1.cell? ⟨w.heap.size + 1, 0, none⟩ = some (.slice Ax nx cx) := (hb.cell (p := ⟨w.heap.size + 1, 0, none⟩) (by simp)).trans (by simp [go_sem])
  have m1 : w1.cell? ⟨w.heap.size + 1, 1, none⟩ = some (.slice Ay ny cy) := (hb.cell (p := ⟨w.heap.size + 1, 1, none⟩) (by simp)).trans (by simp [go_sem])
  have HBW : Hid (Below w.heap.size w w1) := (hz.out _ _).trans (hb.mono (by simp; omega))
  clear hb HB hz
  go_wp2_with fail
  refine (accepts_any _ _ _ F xs ys _ (HV.out.below HBW.out) (HXX.out.below HBW.out) (HYY.out.below HBW.out) HG.out.right HG.out.s2 H1.out H2.out).mono ?_
  rintro e w2 ⟨rfl, hb⟩
  have HB2 := Lib.hid hb
  clear hb
  go_wp2_with fail
  go_ret
  exact ⟨rfl, bchain HBW.out HB2.out⟩
theorem acceptsL_any (v x : Value) (F : PFst) (xs ys : List Int) (w : World) (hv : RdF w v F) (hx : RdT w x xs ys) (hG : Good F) (h1 : xs.length ≤ 1000) (h2 : ys.length ≤ 1000) :
    Calls Try.prog 30 #[v, x] w fun e w' => e = .returned (.bool (accB F xs ys)) ∧ Below w.heap.size w w' := by
  have HV := Lib.hid hv
  have HG := Lib.hid hG
  have H1 := Lib.hid h1
  have H2 := Lib.hid h2
  obtain ⟨va, vf, rfl, ha, hf⟩ := hv
  obtain ⟨A, n, c, rfl, _, _, _, _⟩ := ha.op
  obtain ⟨A', n', c', rfl, _, _, _, _⟩ := hf.op
  obtain ⟨vx, vy, rfl, hx, hy⟩ := hx
  obtain ⟨Ax, nx, cx, rfl, _, _, _, _⟩ := hx.op
  obtain ⟨Ay, ny, cy, rfl, _, _, _, _⟩ := hy.op
  have HXX := Lib.hid hx
  have HYY := Lib.hid hy
  clear ha hf hx hy hG h1 h2
  have hz : Hid (∀ o o', Below w.heap.size w ((w.alloc o).alloc o')) := fun o o' => ((Below.refl _ _).alloc (Nat.le_refl _) _).alloc (by simp) _
  go_enter Try.func30, Try.ntmps30
  go_wp2_with fail
  refine (accepts_any _ _ _ F xs ys _ (HV.out.below (hz.out _ _)) (HXX.out.below (hz.out _ _)) (HYY.out.below (hz.out _ _)) HG.out.right HG.out.s2 H1.out H2.out).mono ?_
  rintro e w2 ⟨rfl, hb⟩
  have HB2 := Lib.hid hb
  clear hb
  go_wp2_with fail
  go_ret
  exact ⟨rfl, (hz.out _ _).trans (HB2.out.mono (by simp; omega))⟩
/-- Same of the reference 20 at two empty transducers -/
theorem fsame_zero (w : World) :
    Calls Try.prog 18 #[.agg #[.int .i64 0, .slice none 0 0, .slice none 0 0], .agg #[.int .i64 0, .slice none 0 0, .slice none 0 0]] w fun e w' => e = .returned (.bool true) ∧ Below w.heap.size w w' := by
  go_enter Try.func18, Try.ntmps18
  go_wp2_with fail
  refine wp_loop_rounds 1 ?_
  rw [rounds_succ]
  go_wp2_with fail
  refine wp_loop_rounds 1 ?_
  rw [rounds_succ]
  go_wp2_with fail
  go_ret
  exact ⟨rfl, by repeat (first | assumption | exact Below.refl _ _ | refine Below.alloc ?_ (by first | omega | (simp; done) | (simp; omega)) _ | refine Below.drew ?_ | refine below_drewN ?_ _ | refine Below.setCell ?_ (by first | omega | (simp; done) | (simp; omega)) _)⟩
end Go.Proofs.Ytmeppkkoepmlnaa
