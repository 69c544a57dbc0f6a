/-
  begins and Ways of the reference.
-/
import Derived.Test.YtokbclpdpegicaaW22
namespace Go.Proofs.Ytokbclpdpegicaa
open Go.ChangeShapes Go.WideShapes Go.ChangeAt Go.RowKit
set_option maxHeartbeats 1000000 in
set_option maxRecDepth 100000 in
theorem begins18_any (v : Value) (B : Option Addr) (m2 c2 a : Nat) (g : ByteArray) (ws l : List Int) (w : World) (hv : RdI w v ws) (hl : RdI w (.slice B m2 c2) l) (ha : a ≤ ws.length) (_ : ws.length ≤ 24) :
    Calls Try.prog 32 #[v, .int .i64 a, .agg #[.string g, .slice B m2 c2]] w fun e w' => e = .returned (.bool (preR (ws.drop a) l)) ∧ Below w.heap.size w w' := by
  obtain ⟨Aw, nw, cw, rfl, hnc, _, HNW, _⟩ := hv.op
  obtain ⟨_, _, _, he, _, _, HNL, _⟩ := hl.op
  cases he
  have hw : nw ≤ 24 := by rw [← HNW.out]; assumption
  rw [HNW.out] at ha
  have HV := Lib.hid hv
  have HL := Lib.hid hl
  clear hv hl
  have HB0 : Hid (Below w.heap.size w (w.alloc (.cells #[.string g, .slice B m2 c2] 49))) := (Below.refl _ _).alloc (Nat.le_refl _) _
  by_cases hsh : m2 ≤ nw - a
  rotate_left
  · have d1 : decide ((m2 : Int) ≤ (nw : Int) - (a : Int)) = false := by simp; omega
    have HP : Hid (preR (ws.drop a) l = false) := preR_short (by rw [List.length_drop, HNW.out, HNL.out]; omega)
    clear hsh
    go_enter Try.func32, Try.ntmps32
    go_wp2_with fail
    go_quiet (fail)
    go_wp2_with fail
    go_ret
    exact ⟨by rw [HP.out]; rfl, below_drewN HB0.out _⟩
  have d1 : decide ((m2 : Int) ≤ (nw : Int) - (a : Int)) = true := by simp; omega
  have i0 : (0 : Int) ≤ (a : Int) := by omega
  have i1 : (a : Int) ≤ (a : Int) + (m2 : Int) := by omega
  have i2 : (a : Int) + (m2 : Int) ≤ (cw : Int) := by omega
  have HP : Hid (preR (ws.drop a) l = sameB ((ws.drop a).take m2) l) := by
    rw [Hid, preR_same, HNL.out, Bool.eq_iff_iff, sameB_iff, sameB_iff]; exact eq_comm
  go_enter Try.func32, Try.ntmps32
  go_upto_region 1 with (fail)
  generalize hX : World.alloc w _ = X
  have HBX : Hid (Below w.heap.size w X) := by rw [← hX]; exact HB0.out
  have x1 : X.cell? ⟨w.heap.size, 1, none⟩ = some (.slice B m2 c2) := by rw [← hX]; simp [go_sem]
  have HVX : Hid (RdI X _ ((ws.drop a).take m2)) := ((HV.out.below HBX.out).drop ha).take (show m2 ≤ nw - a from hsh)
  have HLX : Hid (RdI X (.slice B m2 c2) l) := HL.out.below HBX.out
  clear hX
  go_quiet (first | (go_at_call 30; exact Calls.quiet_of (ints_any _ _ _ l _ HVX.out HLX.out)))
  go_wp2_with fail
  all_goals
    go_ret
    exact ⟨by rw [HP.out]; rfl, below_drewN HBX.out _⟩
/-- block g holds the ints M -/
def Ils (w : World) (g : Nat) (M : List Int) : Prop := w.heap[g]? = some (.cells (M.map (Value.int .i64)).toArray 3 (0, 0))
theorem Ils.lt {w : World} {g : Nat} {M : List Int} (h : Ils w g M) : g < w.heap.size := (Array.getElem?_eq_some_iff.1 h).1
theorem Ils.cell {w : World} {g : Nat} {M : List Int} (h : Ils w g M) {j : Nat} (hj : j < M.length) : w.cell? ⟨g, j, none⟩ = some (.int .i64 (M.getD j 0)) := by
  rw [cell_of_row w g j _ _ (0, 0) h]
  simp [hj]
theorem Ils.free {w : World} {g : Nat} {M : List Int} (h : Ils w g M) (j : Nat) : w.frozen? ⟨g, j, none⟩ = false := by
  unfold Ils at h
  simp [World.frozen?, h]
theorem Ils.set_ {w : World} {g : Nat} {M : List Int} (h : Ils w g M) (j : Nat) (x : Int) : Ils (w.setCell ⟨g, j, none⟩ (.int .i64 x)) g (M.set j x) := by
  unfold Ils at h ⊢
  simp [World.setCell, Array.getElem?_modify, h, List.map_set]
theorem Ils.below {w w' : World} {g : Nat} {M : List Int} (h : Ils w g M) (hb : Below w.heap.size w w') : Ils w' g M := (hb.block g h.lt).trans h
def iArr (M : List Int) : Array Value := (M.map (Value.int .i64)).toArray
theorem made_ints (n : Nat) : madeCells (Value.int .i64 0).cells (n * 1) = iArr (List.replicate n 0) := by
  have h := toList_madeCells_one (.int .i64 0) n
  rw [Nat.mul_one]
  apply Array.toList_inj.1
  rw [show (Value.int .i64 0).cells = #[Value.int .i64 0] from rfl, h, iArr]
  simp
theorem make_ints (S : Nat) (hS : S ≤ 1000) (W : World) : (Instr.makeSlice 39 (.int .i64 (S : Int)) (.int .i64 (S : Int))).run Try.prog W = .ok (.slice (some ⟨W.heap.size, 0, none⟩) S S) (W.alloc (.cells (iArr (List.replicate S 0)) 3)) := by
  obtain ⟨i0, hi, hz0, hz1, hz2⟩ := info_parts infoI0
  have h := run_make_rowN (P := Try.prog) 39 3 i0 (.int .i64 0) Try.underlying39 hi hz0 .i64 .i64 S S (Nat.le_refl _) (by rw [hz2]; omega) (by omega) W
  rw [hz1, made_ints] at h
  exact h
/-! how many ways, at most 10000 -/
def capC (w : List Int) (T : List Int) : List PU → Int → Int
  | [], a => a
  | p :: r, a => capC w T r (if preR w p.s = true then (if a + T.getD (p.s.length - 1) 0 < 10000 then a + T.getD (p.s.length - 1) 0 else 10000) else a)
def capT (us : List PU) (ws : List Int) : Nat → List Int
  | 0 => [1]
  | k + 1 => capC (ws.drop (ws.length - (k + 1))) (capT us ws k) us 0 :: capT us ws k
def waysF (us : List PU) (ws : List Int) : Int := if ws.length = 0 ∨ 24 < ws.length then 0 else (capT us ws ws.length).getD 0 0
theorem capT_len (us : List PU) (ws : List Int) (k : Nat) : (capT us ws k).length = k + 1 := by
  induction k with
  | zero => rfl
  | succ k ih => rw [capT, List.length_cons, ih]
def In10 (a : Int) : Prop := 0 ≤ a ∧ a ≤ 10000
theorem capC_in (w T : List Int) (hT : ∀ j, In10 (T.getD j 0)) : ∀ (us : List PU) (a : Int), In10 a → In10 (capC w T us a)
  | [], _, h => h
  | p :: r, a, h => by
    rw [capC]
    refine capC_in w T hT r _ ?_
    have := hT (p.s.length - 1)
    unfold In10 at *
    split
    · split <;> omega
    · exact h
theorem capT_in (us : List PU) (ws : List Int) (k : Nat) : ∀ j, In10 ((capT us ws k).getD j 0) := by
  induction k with
  | zero => intro j; cases j <;> simp [capT, In10]
  | succ k ih =>
    intro j
    rw [capT]
    cases j with
    | zero => simpa using capC_in _ _ ih us 0 (by simp [In10])
    | succ j => simpa using ih j
end Go.Proofs.Ytokbclpdpegicaa
