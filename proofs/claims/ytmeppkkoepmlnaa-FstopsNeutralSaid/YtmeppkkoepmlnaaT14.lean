/-
  full of fstops.
-/
import Derived.Test.YtmeppkkoepmlnaaT13
namespace Go.Proofs.Ytmeppkkoepmlnaa
open Go.ChangeShapes Go.WideShapes Go.ChangeAt Go.RowKit
/-- element k of a slice of transducers -/
def FAt (w : World) (A : Option Addr) (Fs : List PFst) (k : Nat) : Prop :=
  ∃ b off F va vf, A = some ⟨b, off, none⟩ ∧ b < w.heap.size ∧ Hid (Fs.drop k = F :: Fs.drop (k + 1)) ∧ w.cell? ⟨b, off + k * 3, none⟩ = some (.int .i64 F.states) ∧
    w.cell? ⟨b, off + k * 3 + 1, none⟩ = some va ∧ w.cell? ⟨b, off + k * 3 + 2, none⟩ = some vf ∧ RdA w va F.arcs ∧ RdI w vf F.final
def RdFs (w : World) (v : Value) (Fs : List PFst) : Prop :=
  ∃ (A : Option Addr) (n c : Nat), v = .slice A n c ∧ n ≤ c ∧ c ≤ 9223372036854775807 ∧ Fs.length = n ∧ ∀ k, k < n → FAt w A Fs k
theorem FAt.below {w w' : World} {A : Option Addr} {Fs : List PFst} {k : Nat} (h : FAt w A Fs k) (hb : Below w.heap.size w w') : FAt w' A Fs k := by
  obtain ⟨b, off, F, va, vf, rfl, hl, hd, c0, c1, c2, h1, h2⟩ := h
  exact ⟨b, off, F, va, vf, rfl, by have := hb.size; omega, hd, (hb.cell hl).trans c0, (hb.cell hl).trans c1, (hb.cell hl).trans c2, h1.below hb, h2.below hb⟩
theorem rdFs_one {w : World} {va vf : Value} {F : PFst} {g : Nat} (ha : RdA w va F.arcs) (hf : RdI w vf F.final) (hg : w.heap.size = g) : RdFs (w.alloc (.cells #[.int .i64 F.states, va, vf] 29)) (.slice (some ⟨g, 0, none⟩) 1 1) [F] := by
  subst hg
  refine ⟨_, 1, 1, rfl, by omega, by omega, rfl, fun k hk => ?_⟩
  obtain rfl : k = 0 := by omega
  have hb := (Below.refl w.heap.size w).alloc (Nat.le_refl _) (.cells #[.int .i64 F.states, va, vf] 29)
  exact ⟨w.heap.size, 0, F, va, vf, rfl, by simp, rfl, by simp [go_sem], by simp [go_sem], by simp [go_sem], ha.below hb, hf.below hb⟩
theorem rdFs_two {w : World} {va vf va' vf' : Value} {F F' : PFst} {g : Nat} (ha : RdA w va F.arcs) (hf : RdI w vf F.final) (ha' : RdA w va' F'.arcs) (hf' : RdI w vf' F'.final) (hg : w.heap.size = g) :
    RdFs (w.alloc (.cells #[.int .i64 F.states, va, vf, .int .i64 F'.states, va', vf'] 29)) (.slice (some ⟨g, 0, none⟩) 2 2) [F, F'] := by
  subst hg
  refine ⟨_, 2, 2, rfl, by omega, by omega, rfl, fun k hk => ?_⟩
  have hb := (Below.refl w.heap.size w).alloc (Nat.le_refl _) (.cells #[.int .i64 F.states, va, vf, .int .i64 F'.states, va', vf'] 29)
  match k, hk with
  | 0, _ => exact ⟨w.heap.size, 0, F, va, vf, rfl, by simp, rfl, by simp [go_sem], by simp [go_sem], by simp [go_sem], ha.below hb, hf.below hb⟩
  | 1, _ => exact ⟨w.heap.size, 0, F', va', vf', rfl, by simp, rfl, by simp [go_sem], by simp [go_sem], by simp [go_sem], ha'.below hb, hf'.below hb⟩
def sumS (Fs : List PFst) : Int := (Fs.map (·.states)).sum
def sumA (Fs : List PFst) : Nat := (Fs.map (·.arcs.length)).sum
theorem sumS_snoc (Fs : List PFst) (F : PFst) : sumS (Fs ++ [F]) = sumS Fs + F.states := by simp [sumS]
theorem sumA_snoc (Fs : List PFst) (F : PFst) : sumA (Fs ++ [F]) = sumA Fs + F.arcs.length := by simp [sumA]
def Small (F : PFst) : Prop := 0 ≤ F.states ∧ F.states ≤ 1000000 ∧ F.arcs.length ≤ 300000 ∧ F.final.length ≤ 300000
theorem sum_bd (Fs : List PFst) (h : ∀ F, F ∈ Fs → Small F) : 0 ≤ sumS Fs ∧ sumS Fs ≤ 1000000 * (Fs.length : Int) ∧ sumA Fs ≤ 1000000 * Fs.length := by
  induction Fs with
  | nil => simp [sumS, sumA]
  | cons F Fs ih =>
    obtain ⟨h1, h2, h3, _⟩ := h F (by simp)
    have := ih fun G hG => h G (by simp [hG])
    simp only [sumS, sumA, List.map_cons, List.sum_cons, List.length_cons] at this ⊢
    push_cast
    omega
def fullB (Fs : List PFst) : Bool := decide (1000 < sumS Fs) || decide (10000 < sumA Fs)
set_option maxHeartbeats 1000000 in
theorem full_any (v : Value) (Fs : List PFst) (w : World) (hv : RdFs w v Fs) (hl : Fs.length ≤ 100) (hs : ∀ F, F ∈ Fs → Small F) :
    Calls Try.prog 45 #[v] w fun e w' => e = .returned (.bool (fullB Fs)) ∧ Below w.heap.size w w' := by
  obtain ⟨A, n, c, rfl, h1, h2, h3, h4⟩ := hv
  rw [h3] at hl
  have HN := Lib.hid h3
  have hr := Lib.hid h4
  have HS := Lib.hid hs
  clear h3 h4 hs
  go_enter Try.func45, Try.ntmps45
  go_wp2_with fail
  go_loopw [3, 4, 9] (fun s t i wr => ∃ (k : Nat) (x : Int) (y : Nat), k ≤ n ∧ i = .int .i64 k ∧ s = .int .i64 x ∧ t = .int .i64 y ∧ 0 ≤ x ∧ x ≤ 1000000 * (k : Int) ∧ y ≤ 1000000 * k ∧ Hid (x = sumS (Fs.take k)) ∧ Hid (y = sumA (Fs.take k)) ∧ Hid (Below w.heap.size w wr)) (fun _ _ i _ => n - (intOf i).toNat)
  case atStart => exact ⟨0, 0, 0, Nat.zero_le _, rfl, rfl, rfl, by omega, by omega, by omega, rfl, rfl, Below.refl _ _⟩
  case round =>
    obtain ⟨k, x, y, hk, rfl, rfl, rfl, b1, b2, b3, HX, HY, HB⟩ := hrel
    by_cases hlt : k < n
    · obtain ⟨b, off, F, va, vf, rfl, hbl, hd, e0, e1, e2, ra, rf⟩ := (hr.out k hlt).below HB.out
      obtain ⟨A2, n2, c2, rfl, q1, q2, hn2, _⟩ := ra.op
      obtain ⟨A3, n3, c3, rfl, p1, p2, hn3, _⟩ := rf.op
      have hF := HS.out F (List.mem_of_mem_drop (by rw [hd.out]; exact List.mem_cons_self))
      obtain ⟨g1, g2, g3, _⟩ := hF
      rw [hn2.out] at g3
      clear ra rf
      go_wp2_with fail
      go_quiet (fail)
      go_wp2_with fail
      go_roundw
      case rel => exact ⟨k + 1, x + F.states, y + n2, by omega, by go_num, rfl, by go_num, by omega, by omega, by omega, by rw [Hid, take_of_drop hd.out, sumS_snoc, ← HX.out], by rw [Hid, take_of_drop hd.out, sumA_snoc, ← HY.out, hn2.out], by (refine bchain HB.out ?_; repeat (first | assumption | exact Below.refl _ _ | refine Below.alloc ?_ (by first | omega | (simp; done) | (simp; omega)) _ | refine Below.drew ?_ | refine below_drewN ?_ _ | refine Below.setCell ?_ (by first | omega | (simp; done) | (simp; omega)) _))⟩
      case measure => simp [intOf]; omega
    · have e1 : Fs.take k = Fs := List.take_of_length_le (by rw [HN.out]; omega)
      have HXX : Hid (sumS Fs = x) := by rw [Hid, HX.out, e1]
      have HYY : Hid (sumA Fs = y) := by rw [Hid, HY.out, e1]
      clear e1
      by_cases hx : 1000 < x
      · go_wp2_with fail
        go_ret
        exact ⟨by rw [fullB, HXX.out]; simp [hx], HB.out⟩
      · have hx' : decide (1000 < x) = false := by simpa using hx
        go_wp2_with fail
        go_ret
        exact ⟨by rw [fullB, HXX.out, HYY.out, hx']; simp; omega, HB.out⟩
end Go.Proofs.Ytmeppkkoepmlnaa
