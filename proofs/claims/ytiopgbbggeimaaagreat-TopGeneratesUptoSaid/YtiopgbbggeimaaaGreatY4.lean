/-
  The part of older texts that this seat needs (printed by shake.py): N1 N2 N3 NP1 N4 N5 N7 N8
-/
import Derived.Test.YtiopgbbggeimaaaGreatY3
import Derived.Test.YtiopgbbggeimaaaGreatY1
import Derived.RangeFuncNested
import Derived.RangeFuncBound
import Derived.RangeFuncCalls
import Derived.RangeFuncLeaves
import Derived.Shelf.Abstract
import Derived.Shelf.RegionOpen
import Derived.OwnWalkIn
import Derived.TacticsInMore
import Derived.LoopNIn
import Derived.LoopIn
import Derived.Laws.StructEq
/-
  Sets of states as numbers: has and with.
-/
namespace Go.Proofs.YtiopgbbggeimaaaGreat
open Go.ChangeShapes Go.WideShapes Go.ChangeAt Go.RowKit
theorem wrap_u32 (n : Nat) (h : n < 4294967296) : IntKind.u32.wrap (n : Int) = (n : Int) := by
  have : IntKind.u32.wrap (n : Int) = (n : Int) % 4294967296 := by simp [IntKind.wrap, IntKind.signed, IntKind.bits]
  rw [this]; omega
theorem ofInt_nat (n : Nat) : (BitVec.ofInt 32 (n : Int)).toNat = n % 4294967296 := by simp
theorem bits_and (m n : Nat) (hm : m < 4294967296) (hn : n < 4294967296) : bits .and .u32 (m : Int) (n : Int) = ((m &&& n : Nat) : Int) := by
  have h : bits .and .u32 (m : Int) (n : Int) = IntKind.u32.wrap (((BitVec.ofInt 32 (m : Int)) &&& (BitVec.ofInt 32 (n : Int))).toNat : Int) := rfl
  rw [h, BitVec.toNat_and, ofInt_nat, ofInt_nat, Nat.mod_eq_of_lt hm, Nat.mod_eq_of_lt hn, wrap_u32 _ (Nat.lt_of_le_of_lt Nat.and_le_left hm)]
theorem bits_or (m n : Nat) (hm : m < 4294967296) (hn : n < 4294967296) : bits .or .u32 (m : Int) (n : Int) = ((m ||| n : Nat) : Int) := by
  have h : bits .or .u32 (m : Int) (n : Int) = IntKind.u32.wrap (((BitVec.ofInt 32 (m : Int)) ||| (BitVec.ofInt 32 (n : Int))).toNat : Int) := rfl
  rw [h, BitVec.toNat_or, ofInt_nat, ofInt_nat, Nat.mod_eq_of_lt hm, Nat.mod_eq_of_lt hn, wrap_u32 _ (Nat.or_lt_two_pow (n := 32) hm hn)]
theorem two_pow_lt {q : Nat} (hq : q < 32) : 2 ^ q < 4294967296 := (Nat.pow_lt_pow_right (by decide) hq : 2 ^ q < 2 ^ 32)
theorem shr_cast (m q : Nat) : (m : Int) / 2 ^ q = ((m / 2 ^ q : Nat) : Int) := by
  rw [Int.natCast_ediv]; congr 1
theorem shl_cast (q : Nat) (hq : q < 32) : (2 : Int) ^ q % (4294967296 : Int) = ((1 <<< q : Nat) : Int) := by
  rw [Nat.one_shiftLeft]
  have : ((2 : Int) ^ q) = ((2 ^ q : Nat) : Int) := (Int.natCast_pow 2 q).symm
  rw [this]
  have := two_pow_lt hq
  generalize 2 ^ q = z at this ⊢
  omega
theorem bit_eq (m q : Nat) (hm : m < 4294967296) : (bits .and .u32 ((m : Int) / 2 ^ q) 1 == 1) = m.testBit q := by
  have hlt : m / 2 ^ q < 4294967296 := Nat.lt_of_le_of_lt (Nat.div_le_self _ _) hm
  rw [shr_cast, show (1 : Int) = ((1 : Nat) : Int) from rfl, bits_and _ _ hlt (by decide), Nat.testBit, Nat.shiftRight_eq_div_pow, Nat.and_comm 1]
  rw [Nat.and_one_is_mod]
  have : m / 2 ^ q % 2 = 0 ∨ m / 2 ^ q % 2 = 1 := by omega
  rcases this with h | h <;> rw [h] <;> rfl
theorem has_any (m q : Nat) (w : World) (hm : m < 4294967296) (hq : q < 32) :
    Calls Tryz.prog 138 #[.int .u32 (m : Int), .int .i64 (q : Int)] w fun e w' => e = .returned (.bool (m.testBit q)) ∧ w = w' := by
  have H := Lib.hid hm
  go_enter Tryz.func138, Tryz.ntmps138
  go_wp2_with fail
  go_ret
  exact ⟨by rw [← bit_eq m q H.out]; rfl, rfl⟩
theorem with_any (m q : Nat) (w : World) (hm : m < 4294967296) (hq : q < 32) :
    Calls Tryz.prog 106 #[.int .u32 (m : Int), .int .i64 (q : Int)] w fun e w' => e = .returned (.int .u32 ((m ||| 1 <<< q : Nat) : Int)) ∧ w = w' := by
  have H : Hid (bits .or .u32 (m : Int) ((2 : Int) ^ q % 4294967296) = ((m ||| 1 <<< q : Nat) : Int)) := by
    rw [Hid, shl_cast q hq, bits_or _ _ hm (by rw [Nat.one_shiftLeft]; exact two_pow_lt hq)]
  go_enter Tryz.func106, Tryz.ntmps106
  go_wp2_with fail
  go_ret
  exact ⟨by rw [← H.out]; rfl, rfl⟩
end Go.Proofs.YtiopgbbggeimaaaGreat

/-
  Nets in memory; the iterator over the steps that begin in a set.
-/
namespace Go.Proofs.YtiopgbbggeimaaaGreat
open Go.ChangeShapes Go.WideShapes Go.ChangeAt Go.RowKit Go.Shelf
attribute [local go_sem] Oper.semAt_some
structure PStep where
  fr : Int
  cls : Int
  tgt : Int
  deriving DecidableEq
structure PNet where
  states : Int
  steps : List PStep
  final : List Int
def stepCells (s : PStep) : List Value := [.int .i64 s.fr, .int .i64 s.cls, .int .i64 s.tgt]
def stepV (s : PStep) : Value := .agg #[.int .i64 s.fr, .int .i64 s.cls, .int .i64 s.tgt]
def stepsCells (l : List PStep) : List Value := l.flatMap stepCells
theorem stepsCells_length (l : List PStep) : (stepsCells l).length = l.length * 3 := by
  induction l with
  | nil => rfl
  | cons a l ih => simp only [stepsCells, List.flatMap_cons, List.length_append] at ih ⊢; rw [ih]; simp [stepCells]; omega
theorem stepsCells_at (l : List PStep) (k : Nat) (h : k < l.length) (j : Nat) (hj : j < 3) : (stepsCells l)[k * 3 + j]? = (stepCells l[k])[j]? := by
  induction l generalizing k with
  | nil => simp at h
  | cons a l ih =>
    cases k with
    | zero => simp only [stepsCells, List.flatMap_cons]; rw [List.getElem?_append_left (by simp [stepCells]; omega)]; simp
    | succ k =>
      simp only [stepsCells, List.flatMap_cons]
      rw [List.getElem?_append_right (by simp [stepCells]; omega)]
      have e : (k + 1) * 3 + j - (stepCells a).length = k * 3 + j := by simp [stepCells]; omega
      rw [e]
      exact ih k (by simpa using h)
def RdSN (w : World) (v : Value) (l : List PStep) : Prop := Rd w 3 v l.length (stepsCells l)
theorem RdSN.below {w w' : World} {v : Value} {l : List PStep} (h : RdSN w v l) (hb : Below w.heap.size w w') : RdSN w' v l := Rd.below h hb
def SAt (w : World) (A : Option Addr) (l : List PStep) (k : Nat) : Prop :=
  ∃ b off x0 x1 x2, A = some ⟨b, off, none⟩ ∧ b < w.heap.size ∧ Hid (l.drop k = ⟨x0, x1, x2⟩ :: l.drop (k + 1)) ∧ w.cell? ⟨b, off + k * 3, none⟩ = some (.int .i64 x0) ∧
    w.cell? ⟨b, off + k * 3 + 1, none⟩ = some (.int .i64 x1) ∧ w.cell? ⟨b, off + k * 3 + 2, none⟩ = some (.int .i64 x2)
theorem RdSN.op {w : World} {v : Value} {l : List PStep} (h : RdSN w v l) : ∃ (A : Option Addr) (n c : Nat), v = .slice A n c ∧ n ≤ c ∧ c ≤ 9223372036854775807 ∧ Hid (l.length = n) ∧
    Hid (∀ k, k < n → SAt w A l k) := by
  obtain ⟨A, c, rfl, h1, h2, h3, h4⟩ := h
  refine ⟨A, _, c, rfl, h1, h2, rfl, fun k hk => ?_⟩
  obtain ⟨b, off, rfl, hb, hc⟩ := h4 (by omega)
  refine ⟨b, off, l[k].fr, l[k].cls, l[k].tgt, rfl, hb, List.drop_eq_getElem_cons hk, ?_, ?_, ?_⟩
  · exact hc (k * 3 + 0) _ (stepsCells_at l k hk 0 (by omega))
  · exact hc (k * 3 + 1) _ (stepsCells_at l k hk 1 (by omega))
  · exact hc (k * 3 + 2) _ (stepsCells_at l k hk 2 (by omega))
theorem SAt.below {w w' : World} {A : Option Addr} {l : List PStep} {k : Nat} (h : SAt w A l k) (hb : Below w.heap.size w w') : SAt w' A l k := by
  obtain ⟨b, off, x0, x1, x2, rfl, hl, hd, c0, c1, c2⟩ := h
  exact ⟨b, off, x0, x1, x2, rfl, by have := hb.size; omega, hd, (hb.cell hl).trans c0, (hb.cell hl).trans c1, (hb.cell hl).trans c2⟩
/-- a net in memory -/
def RdN (w : World) (v : Value) (N : PNet) : Prop := ∃ vs vf, v = .agg #[.int .i64 N.states, vs, vf] ∧ RdSN w vs N.steps ∧ RdI w vf N.final
theorem RdN.below {w w' : World} {v : Value} {N : PNet} (h : RdN w v N) (hb : Below w.heap.size w w') : RdN w' v N := by
  obtain ⟨vs, vf, rfl, h1, h2⟩ := h
  exact ⟨vs, vf, rfl, h1.below hb, h2.below hb⟩
def NBlk (w : World) (R : Nat) (x y z : Value) : Prop := w.heap[R]? = some (.cells #[x, y, z] 33 (0, 0))
section
variable {w w' : World} {R : Nat} {x y z : Value}
theorem NBlk.lt (h : NBlk w R x y z) : R < w.heap.size := (Array.getElem?_eq_some_iff.1 h).1
theorem NBlk.below (h : NBlk w R x y z) (hb : Below w.heap.size w w') : NBlk w' R x y z := (hb.block R h.lt).trans h
theorem NBlk.facts (h : NBlk w R x y z) : w.cell? ⟨R, 0, none⟩ = some x ∧ w.cell? ⟨R, 1, none⟩ = some y ∧ w.cell? ⟨R, 2, none⟩ = some z ∧ R < w.heap.size := by
  refine ⟨?_, ?_, ?_, h.lt⟩ <;> rw [cell_of_row w R _ _ _ (0, 0) h] <;> rfl
end
def SBlk (w : World) (R : Nat) (s : PStep) : Prop := w.heap[R]? = some (.cells #[.int .i64 s.fr, .int .i64 s.cls, .int .i64 s.tgt] 97 (0, 0))
theorem SBlk.facts {w : World} {R : Nat} {s : PStep} (h : SBlk w R s) : w.cell? ⟨R, 0, none⟩ = some (.int .i64 s.fr) ∧ w.cell? ⟨R, 1, none⟩ = some (.int .i64 s.cls) ∧ w.cell? ⟨R, 2, none⟩ = some (.int .i64 s.tgt) ∧ R < w.heap.size := by
  refine ⟨?_, ?_, ?_, (Array.getElem?_eq_some_iff.1 h).1⟩ <;> rw [cell_of_row w R _ _ _ (0, 0) h] <;> rfl
/-- a net that is right -/
structure StepOk (n : Int) (s : PStep) : Prop where
  f0 : 0 ≤ s.fr
  f1 : s.fr < n
  t0 : 0 ≤ s.tgt
  t1 : s.tgt < n
  c0 : 1 ≤ s.cls
  c1 : s.cls ≤ 20
structure GoodN (N : PNet) : Prop where
  s1 : 1 ≤ N.states
  s2 : N.states ≤ 24
  len : N.steps.length ≤ 200
  step : ∀ s, s ∈ N.steps → StepOk N.states s
  once : N.steps.Pairwise (· ≠ ·)
  ord : N.final.Pairwise (· < ·)
  fin : ∀ q, q ∈ N.final → 0 ≤ q ∧ q < N.states
def bitI (m : Nat) (q : Int) : Bool := m.testBit q.toNat
def fromL (L : List PStep) (m : Nat) : List PStep := L.filter fun s => bitI m s.fr
theorem steps_any (v : Value) (N : PNet) (m : Nat) (w : World) (vs vf : Value) (hv : v = .agg #[.int .i64 N.states, vs, vf]) (hs : RdSN w vs N.steps) (hf : RdI w vf N.final) :
    Calls Tryz.prog 126 #[v, .int .u32 (m : Int)] w fun e w' => e = .returned (.func (.func 137) #[] #[.pointer (some ⟨w.heap.size, 0, none⟩), .pointer (some ⟨w.heap.size + 1, 0, none⟩)]) ∧
      w' = (w.alloc (.cells #[.int .i64 N.states, vs, vf] 33)).alloc (.cells #[.int .u32 (m : Int)] 148) := by
  subst hv
  obtain ⟨A, n, c, rfl, _, _, _, _⟩ := hs.op
  obtain ⟨A', n', c', rfl, _, _, _, _⟩ := hf.op
  clear hs hf
  go_enter Tryz.func126, Tryz.ntmps126
  go_wp2_with fail
  go_ret
  exact ⟨rfl, rfl⟩
abbrev VStep (N : PNet) := { s : PStep // s ∈ N.steps }
/-- what a round keeps: what lay below n₀, and block Bm -/
def KB (n₀ Bm : Nat) (W W' : World) : Prop := Below n₀ W W' ∧ (Bm < W.heap.size → W'.heap[Bm]? = W.heap[Bm]?)
theorem KB.refl (n₀ Bm : Nat) (W : World) : KB n₀ Bm W W := ⟨Below.refl _ _, fun _ => rfl⟩
theorem KB.tr {n₀ Bm : Nat} {A B C : World} (h : KB n₀ Bm A B) (k : KB n₀ Bm B C) : KB n₀ Bm A C := ⟨h.1.trans k.1, fun hl => (k.2 (Nat.lt_of_lt_of_le hl h.1.size)).trans (h.2 hl)⟩
theorem KB.b {n₀ Bm : Nat} {w : World} (hn : n₀ ≤ w.heap.size) (hb : Bm < w.heap.size) (W : World) (l : Nat) (o o' : Obj) (hl : w.heap.size ≤ l) (h : W.heap[l]? = some o) (h1 : o.isCells = false) (h2 : o.isWalk = false) : KB n₀ Bm W (W.putObj l o') :=
  ⟨belowK_b hn W l o o' hl h h1 h2, fun _ => World.putObj_heap_other (by omega)⟩
theorem KB.alloc {n₀ Bm : Nat} {A W : World} (h : KB n₀ Bm A W) (hn : n₀ ≤ A.heap.size) (o : Obj) : KB n₀ Bm A (W.alloc o) :=
  ⟨h.1.alloc (Nat.le_trans hn h.1.size) o, fun hl => (Below.heap_alloc W o Bm (Nat.lt_of_lt_of_le hl h.1.size)).trans (h.2 hl)⟩
theorem KB.call {n₀ Bm : Nat} {A W W' : World} (h : KB n₀ Bm A W) (hn : n₀ ≤ A.heap.size) (hb : Below W.heap.size W W') : KB n₀ Bm A W' :=
  ⟨h.1.trans (hb.mono (Nat.le_trans hn h.1.size)), fun hl => (hb.block Bm (Nat.lt_of_lt_of_le hl h.1.size)).trans (h.2 hl)⟩
theorem KB.set {n₀ Bm : Nat} {A W : World} (h : KB n₀ Bm A W) (B : Nat) (hB : n₀ ≤ B) (hne : B ≠ Bm) (j : Nat) (u : Value) : KB n₀ Bm A (W.setCell ⟨B, j, none⟩ u) :=
  ⟨h.1.setCell (p := ⟨B, j, none⟩) hB u, fun hl => (Below.heap_setCell W ⟨B, j, none⟩ u Bm (Ne.symm hne)).trans (h.2 hl)⟩
theorem fromL_take (L : List PStep) (m : Nat) (k : Nat) (x : PStep) (r : List PStep) (h : L.drop k = x :: r) : fromL (L.take (k + 1)) m = fromL (L.take k) m ++ if bitI m x.fr then [x] else [] := by
  have hk : k < L.length := by
    rcases Nat.lt_or_ge k L.length with h1 | h1
    · exact h1
    · rw [List.drop_of_length_le h1] at h; cases h
  rw [List.drop_eq_getElem_cons hk] at h
  rw [fromL, List.take_succ_eq_append_getElem hk, (List.cons.inj h).1, List.filter_append]
  simp [fromL, List.filter_cons]
theorem fromL_pre (L : List PStep) (m k : Nat) : fromL (L.take k) m <+: fromL L m := ⟨fromL (L.drop k) m, by rw [fromL, fromL, ← List.filter_append, List.take_append_drop]; rfl⟩
theorem fromL_len (L : List PStep) (m k : Nat) : (fromL (L.take k) m).length ≤ k := Nat.le_trans (List.length_filter_le _ _) (List.length_take_le _ _)
set_option maxHeartbeats 2000000 in
set_option maxRecDepth 100000 in
theorem steps1_in (n : Nat) (hn : 1 ≤ n) (l g Bm n₀ : Nat) (N : PNet) (m : Nat) (y z : Value) (hm : m < 4294967296) (hN : N.states ≤ 24) (hS : ∀ s, s ∈ N.steps → StepOk N.states s) (J Jx : List (VStep N) → World → Prop) (w0 W : World)
    (hJ : ∀ s W1 W' row, J s W1 → W1.grownBy W' row → (∀ r, row = some r → W.heap.size ≤ r ∧ ∃ o : Obj, W1.heap[r]? = some o ∧ o.isWalk = true) → J s W')
    (hY : ∀ pre x W1, J pre W1 → pre.length < N.steps.length → YieldAt Fence.wide (n - 1) Tryz.prog l #[stepV x.1] W1 fun e W' =>
      (e = .returned (.bool true) ∧ J (pre ++ [x]) W' ∧ KB n₀ Bm W1 W') ∨ (e = .returned (.bool false) ∧ Jx (pre ++ [x]) W'))
    (hw0 : w0.heap.size ≤ n₀) (hWw : Below w0.heap.size w0 W) (hB : Bm < W.heap.size) (hn0 : n₀ ≤ W.heap.size) (hG : NBlk W g (.int .i64 N.states) y z) (hM : W.heap[Bm]? = some (.cells #[.int .u32 (m : Int)] 148 (0, 0))) (hy : RdSN w0 y N.steps) (h0 : J [] W) :
    CallsIn Fence.wide n Tryz.prog 137 #[.func (.yield l) #[] #[], .pointer (some ⟨g, 0, none⟩), .pointer (some ⟨Bm, 0, none⟩)] W fun e W' => (∃ v, e = .returned v) ∧
      ((∃ ys, ys.map Subtype.val = fromL N.steps m ∧ J ys W') ∨ (∃ pre, pre.map Subtype.val <+: fromL N.steps m ∧ Jx pre W')) := by
  obtain ⟨A, k, c, rfl, h1, h2, HN, HR⟩ := hy.op
  refine callsIn_of_wp Tryz.func137 rfl trivial ?_ rfl
  simp only [Tryz.ntmps137, List.size_toArray, List.length_cons, List.length_nil, Nat.reduceAdd, Nat.reduceSub, Array.replicate_succ, Array.replicate_zero, List.push_toArray, List.append_toArray, List.nil_append, List.cons_append]
  obtain ⟨p0, p1, p2, hgl⟩ := hG.facts
  gi_wp2
  gi_loopw [9] (fun i wr => ∃ (j : Nat) (pre : List (VStep N)), j ≤ k ∧ i = .int .i64 j ∧ pre.map Subtype.val = fromL (N.steps.take j) m ∧ J pre wr ∧ Hid (KB n₀ Bm W wr)) (fun i _ => k - (intOf i).toNat)
  case atStart => exact ⟨0, [], Nat.zero_le _, rfl, rfl, h0, KB.refl _ _ _⟩
  case round =>
    obtain ⟨j, pre, hj, rfl, hpre, hJs, HB⟩ := hrel
    have HPRE := Lib.hid hpre
    have HJ := Lib.hid hJs
    clear hpre hJs
    by_cases hlt : j < k
    · obtain ⟨bb, off, x0, x1, x2, rfl, hbb, hdr, e0, e1, e2⟩ := (HR.out j hlt).below (hWw.trans (HB.out.1.mono hw0))
      have hmem : (⟨x0, x1, x2⟩ : PStep) ∈ N.steps := List.mem_of_mem_drop (by rw [hdr.out]; exact List.mem_cons_self)
      have hok := hS _ hmem
      have hx0 := hok.f0
      have hx1 := hok.f1
      simp only at hx0 hx1
      obtain ⟨q, rfl⟩ : ∃ q : Nat, x0 = (q : Int) := ⟨x0.toNat, by omega⟩
      have hq : q < 32 := by omega
      have HTK := Lib.hid (fromL_take N.steps m j ⟨(q : Int), x1, x2⟩ _ hdr.out)
      have HMEM := Lib.hid hmem
      have hbx : (wr.alloc (.cells #[.int .u32 (m : Int)] 0)).heap.size = wr.heap.size + 1 := by simp
      have c0 : wr.cell? ⟨Bm, 0, none⟩ = some (.int .u32 (m : Int)) := by
        have h : wr.heap[Bm]? = _ := (HB.out.2 hB).trans hM
        rw [cell_of_row wr Bm _ _ _ (0, 0) h]; rfl
      have hBl : Bm < wr.heap.size := by have := HB.out.1.size; omega
      clear hx0 hx1 hok hmem hbx
      have HJA : Hid (∀ o, J pre (wr.alloc o)) := fun o => hJ _ _ _ none HJ.out (World.grownBy_alloc wr o none) (fun r e => by cases e)
      have HBA : Hid (∀ o, KB n₀ Bm W (wr.alloc o)) := fun o => HB.out.alloc hn0 o
      cases hbit : m.testBit q
      · have HTK2 : Hid (fromL (N.steps.take (j + 1)) m = fromL (N.steps.take j) m) := by rw [Hid, HTK.out]; simp [bitI, hbit]
        have HBIT := Lib.hid hbit
        clear hbit
        gi_wp2_with (refine ⟨trivial, ?_⟩; gi_at_call 138; refine (callsIn_wide.2 (has_any m q _ hm hq)).mono ?_; rintro e w' ⟨rfl, rfl⟩; rw [HBIT.out])
        refine ⟨fun _ h => (by cases h), ?_⟩
        gi_wp2
        go_roundw
        case rel => exact ⟨j + 1, pre, by omega, by go_num, by rw [HTK2.out]; exact HPRE.out, HJA.out _, HBA.out _⟩
        case measure => simp [intOf]; omega
      · have HTK2 : Hid (fromL (N.steps.take (j + 1)) m = fromL (N.steps.take j) m ++ [⟨(q : Int), x1, x2⟩]) := by rw [Hid, HTK.out]; simp [bitI, hbit]
        have HBIT := Lib.hid hbit
        clear hbit
        obtain ⟨fn, tmps, assign, body, hy, hR⟩ := hY pre ⟨⟨(q : Int), x1, x2⟩, HMEM.out⟩ (wr.alloc (.cells #[.int .i64 (q : Int), .int .i64 x1, .int .i64 x2] 97)) (HJA.out _) (by have h1 := congrArg List.length HPRE.out; rw [List.length_map] at h1; have h2 := fromL_len N.steps m j; have h3 := HN.out; omega)
        simp only [stepV] at hy
        gi_wp2_with (refine ⟨trivial, ?_⟩; gi_at_call 138; refine (callsIn_wide.2 (has_any m q _ hm hq)).mono ?_; rintro e w' ⟨rfl, rfl⟩; rw [HBIT.out])
        refine hR.mono ?_
        rintro e W3 (⟨rfl, hJ3, hk3⟩ | ⟨rfl, hJx3⟩)
        · have HJ3 := Lib.hid hJ3
          have HK3 := Lib.hid hk3
          clear hJ3 hk3
          gi_wp2
          go_roundw
          case rel => exact ⟨j + 1, pre ++ [⟨⟨(q : Int), x1, x2⟩, HMEM.out⟩], by omega, by go_num, by rw [HTK2.out, List.map_append, HPRE.out]; rfl, HJ3.out, (HBA.out _).tr HK3.out⟩
          case measure => simp [intOf]; omega
        · have HJX := Lib.hid hJx3
          clear hJx3
          gi_wp2
          refine bodyPost_ret (results_none rfl _ _ _) rfl ?_
          refine ⟨⟨_, rfl⟩, .inr ⟨pre ++ [⟨⟨(q : Int), x1, x2⟩, HMEM.out⟩], ?_, HJX.out⟩⟩
          rw [List.map_append, HPRE.out]
          show fromL (N.steps.take j) m ++ [⟨(q : Int), x1, x2⟩] <+: _
          rw [← HTK2.out]
          exact fromL_pre _ _ _
    · gi_wp2
      go_end0
      refine ⟨⟨_, rfl⟩, .inl ⟨pre, ?_, HJ.out⟩⟩
      rw [HPRE.out, List.take_of_length_le (by rw [HN.out]; omega)]
theorem steps_stops (n : Nat) (hn : 1 ≤ n) (g Bm n₀ : Nat) (N : PNet) (m : Nat) (y z : Value) (hm : m < 4294967296) (hG : GoodN N) (w0 w : World) (hw0 : w0.heap.size ≤ n₀) (hWw : Below w0.heap.size w0 w) (hn0 : n₀ ≤ w.heap.size)
    (hGB : NBlk w g (.int .i64 N.states) y z) (hM : w.heap[Bm]? = some (.cells #[.int .u32 (m : Int)] 148 (0, 0))) (hy : RdSN w0 y N.steps) :
    SeqStopsK Fence.wide n Tryz.prog 137 #[.pointer (some ⟨g, 0, none⟩), .pointer (some ⟨Bm, 0, none⟩)] (fun x : VStep N => #[Value.agg #[.int .i64 x.1.fr, .int .i64 x.1.cls, .int .i64 x.1.tgt]]) (KB n₀ Bm) (fun ys => ys.map Subtype.val = fromL N.steps m) (fun pre => pre.map Subtype.val <+: fromL N.steps m) N.steps.length w :=
  fun l J Jx W hW hJ _ hY h0 => steps1_in n hn l g Bm n₀ N m y z hm hG.s2 hG.step J Jx w0 W hJ hY hw0 (hWw.trans (hW.mono (by omega))) (by have := hW.size; have := (Array.getElem?_eq_some_iff.1 hM).1; omega) (by have := hW.size; omega) (hGB.below hW) ((hW.block Bm (Array.getElem?_eq_some_iff.1 hM).1).trans hM) hy h0
end Go.Proofs.YtiopgbbggeimaaaGreat

/-
  after of tactics.
-/
namespace Go.Proofs.YtiopgbbggeimaaaGreat
open Go.ChangeShapes Go.WideShapes Go.ChangeAt Go.RowKit Go.Shelf
attribute [local go_sem] Oper.semAt_some
def withB (m : Nat) (q : Int) : Nat := m ||| 1 <<< q.toNat
def addC (c : Int) (o : Nat) (s : PStep) : Nat := if s.cls = c then withB o s.tgt else o
def afterF (L : List PStep) (m : Nat) (c : Int) : Nat := (fromL L m).foldl (addC c) 0
theorem withB_lt {S : Nat} {m : Nat} {q : Int} (hm : m < 2 ^ S) (h1 : q < (S : Int)) (h0 : 0 ≤ q) : withB m q < 2 ^ S :=
  Nat.or_lt_two_pow hm (by rw [Nat.one_shiftLeft]; exact Nat.pow_lt_pow_right (by decide) (by omega))
theorem lt32 {S m : Nat} (hS : S ≤ 24) (hm : m < 2 ^ S) : m < 4294967296 := Nat.lt_of_lt_of_le hm (Nat.le_trans (Nat.pow_le_pow_right (by decide) hS) (by decide))
theorem fold_lt {N : PNet} (hG : GoodN N) {S : Nat} (f : Nat → PStep → Nat) (hf : ∀ o s, StepOk N.states s → o < 2 ^ S → f o s < 2 ^ S) (l : List PStep) (hl : ∀ s, s ∈ l → s ∈ N.steps) (o : Nat) (ho : o < 2 ^ S) : l.foldl f o < 2 ^ S := by
  induction l generalizing o with
  | nil => exact ho
  | cons s l ih => exact ih (fun x hx => hl x (by simp [hx])) _ (hf o s (hG.step s (hl s (by simp))) ho)
theorem addC_lt {N : PNet} {S : Nat} (hS : N.states = (S : Int)) (c : Int) (o : Nat) (s : PStep) (h : StepOk N.states s) (ho : o < 2 ^ S) : addC c o s < 2 ^ S := by
  unfold addC
  split
  · exact withB_lt ho (by have := h.t1; omega) h.t0
  · exact ho
theorem zip_one (p : Tmp) (v : Value) (T : Array Value) : ((#[p].zip #[v]).foldl (fun t (p, v) => t.setIfInBounds p v) T) = T.setIfInBounds p v := by simp
theorem vals_in {N : PNet} (pre : List (VStep N)) : ∀ s, s ∈ pre.map Subtype.val → s ∈ N.steps := by
  intro s hs
  obtain ⟨x, _, rfl⟩ := List.mem_map.1 hs
  exact x.2
theorem sblk_own {N : PNet} (B : Nat) (x : VStep N) : Own (fun (_ : Unit) W => SBlk W B x.1) := fun s X Y row hs hg hrow =>
  (hg.block B (Array.getElem?_eq_some_iff.1 hs).1 (fun e' => by obtain ⟨o, ho, hc⟩ := hrow B e'.symm; rw [show X.heap[B]? = _ from hs] at ho; cases ho; cases hc)).trans hs
set_option maxHeartbeats 4000000 in
set_option maxRecDepth 100000 in
theorem after_any (v : Value) (N : PNet) (S m : Nat) (c : Int) (w : World) (hv : RdN w v N) (hG : GoodN N) (hS : N.states = (S : Int)) (hm : m < 2 ^ S) :
    Calls Tryz.prog 105 #[v, .int .u32 (m : Int), .int .i64 c] w fun e w' => e = .returned (.int .u32 ((afterF N.steps m c : Nat) : Int)) ∧ Below w.heap.size w w' := by
  obtain ⟨vs, vf, rfl, hs, hf⟩ := hv
  obtain ⟨A1, n1, c1, rfl, _, _, _, _⟩ := hs.op
  obtain ⟨A2, n2, c2, rfl, _, _, _, _⟩ := hf.op
  have hS24 : S ≤ 24 := by have := hG.s2; omega
  have hm32 := lt32 hS24 hm
  have HSD := Lib.hid hs
  have HFD := Lib.hid hf
  clear hs hf
  refine (callsIn_wide (n := 3)).1 ?_
  refine callsIn_of_wp_marks Tryz.func105 rfl trivial ?_ rfl
  simp only [Tryz.ntmps105, List.size_toArray, List.length_cons, List.length_nil, Nat.reduceAdd, Nat.reduceSub, Array.replicate_succ, Array.replicate_zero, List.push_toArray, List.append_toArray, List.nil_append, List.cons_append]
  have HS := Lib.hid hS
  rw [hS]
  clear hS
  gi_wp2_with fail
  refine ⟨trivial, ?_⟩
  have b1 : Below w.heap.size w (((w.alloc (.cells #[.int .i64 S, .slice A1 n1 c1, .slice A2 n2 c2] 33)).alloc (.cells #[.int .i64 c] 3)).alloc (.cells #[.int .u32 0] 148)) := by repeat (first | assumption | exact Below.refl _ _ | refine Below.alloc ?_ (by first | omega | (simp; done) | (simp; omega)) _ | refine Below.drew ?_ | refine below_drewN ?_ _ | refine Below.setCell ?_ (by first | omega | (simp; done) | (simp; omega)) _)
  refine (callsIn_wide.2 (steps_any _ N m _ _ _ (by rw [HS.out]) (HSD.out.below b1) (HFD.out.below b1))).mono ?_
  rintro e w' ⟨rfl, rfl⟩
  rw [HS.out]
  gi_wp2_with fail
  generalize hV : ((w.alloc (.cells #[.int .i64 S, .slice A1 n1 c1, .slice A2 n2 c2] 33)).alloc (.cells #[.int .i64 c] 3)).alloc (.cells #[.int .u32 0] 148) = V at b1 ⊢
  have hVz : V.heap.size = w.heap.size + 3 := by rw [← hV]; simp
  have BC : Boxed V (w.heap.size + 1) 3 (.int .i64 c) := by
    rw [← hV]
    have := Boxed.new (w.alloc (.cells #[.int .i64 S, .slice A1 n1 c1, .slice A2 n2 c2] 33)) 3 (.int .i64 c)
    simp only [World.size_alloc] at this
    exact this.alloc _
  have BO : Boxed V (w.heap.size + 1 + 1) 148 (.int .u32 0) := by
    rw [← hV]
    have := Boxed.new ((w.alloc (.cells #[.int .i64 S, .slice A1 n1 c1, .slice A2 n2 c2] 33)).alloc (.cells #[.int .i64 c] 3)) 148 (.int .u32 0)
    simpa only [World.size_alloc] using this
  clear hV
  generalize hW0 : (V.alloc (.cells #[.int .i64 S, .slice A1 n1 c1, .slice A2 n2 c2] 33)).alloc (.cells #[.int .u32 (m : Int)] 148) = W0
  have hNB : NBlk W0 V.heap.size (.int .i64 S) (.slice A1 n1 c1) (.slice A2 n2 c2) := by rw [← hW0]; exact (Below.heap_alloc _ _ _ (by simp)).trans (heap_alloc_new V _)
  have hMB : W0.heap[V.heap.size + 1]? = some (.cells #[.int .u32 (m : Int)] 148 (0, 0)) := by
    rw [← hW0]
    have := heap_alloc_new (V.alloc (.cells #[.int .i64 S, .slice A1 n1 c1, .slice A2 n2 c2] 33)) (.cells #[.int .u32 (m : Int)] 148)
    simpa only [World.size_alloc] using this
  have hVB : Below V.heap.size V W0 := by rw [← hW0]; exact ((Below.refl _ _).alloc (Nat.le_refl _) _).alloc (by simp) _
  have hW0z : W0.heap.size = V.heap.size + 2 := by rw [← hW0]; simp
  have BC0 : Boxed W0 (w.heap.size + 1) 3 (.int .i64 c) := (hVB.block _ BC.lt).trans BC
  have BO0 : Boxed W0 (w.heap.size + 1 + 1) 148 (.int .u32 0) := (hVB.block _ BO.lt).trans BO
  have hB0 : Below w.heap.size w W0 := b1.trans (hVB.mono (by omega))
  have ez : w.heap.size + 1 + 1 + 1 = V.heap.size := by omega
  simp only [ez]
  clear hW0 BC BO b1
  have hnb : NBlk W0 V.heap.size (.int .i64 N.states) (.slice A1 n1 c1) (.slice A2 n2 c2) := by rw [HS.out]; exact hNB
  refine wpIn_rangeFunc_ownH (α := VStep N) rfl (by omega) (gf := 137) (lb := #[.pointer (some ⟨V.heap.size, 0, none⟩), .pointer (some ⟨V.heap.size + 1, 0, none⟩)]) rfl trivial (enters_of Tryz.func137 (by kernel_rfl) rfl)
    (steps_stops 2 (by omega) V.heap.size (V.heap.size + 1) w.heap.size N m _ _ hm32 hG w W0 (Nat.le_refl _) hB0 (by omega) hnb hMB HSD.out) KB.tr (KB.b (by omega) (by omega)) (Below.refl _ _) (fun _ => rfl)
    (fun pre W => (Boxed W (w.heap.size + 1 + 1) 148 (.int .u32 (((pre.map Subtype.val).foldl (addC c) 0 : Nat) : Int)) ∧ Boxed W (w.heap.size + 1) 3 (.int .i64 c)) ∧ Below w.heap.size w W)
    (fun _ _ _ => False)
    (OwnFrom.and (OwnFrom.and (Own.from (boxed_own _ _ _) _) (Own.from (boxed_own _ _ _) _)) (ownFrom_below (Nat.le_refl _) (by omega)))
    (fun _ _ _ _ _ hs _ _ => hs)
    ⟨⟨BO0, BC0⟩, hB0⟩
    (fun x a' W => ∃ Bx, w.heap.size + 1 + 1 < Bx ∧ SBlk W Bx x.1 ∧ a' = { tmps := #[.agg #[.int .i64 S, .slice A1 n1 c1, .slice A2 n2 c2], .int .u32 (m : Int), .int .i64 c, .pointer (some ⟨w.heap.size, 0, none⟩), undef, .pointer (some ⟨w.heap.size + 1, 0, none⟩), .int .u32 0, .pointer (some ⟨w.heap.size + 1 + 1, 0, none⟩), .pointer (some ⟨Bx, 0, none⟩), .agg #[.int .i64 S, .slice A1 n1 c1, .slice A2 n2 c2], .int .u32 (m : Int), .func (.func 137) #[] #[.pointer (some ⟨V.heap.size, 0, none⟩), .pointer (some ⟨V.heap.size + 1, 0, none⟩)], Value.agg #[.int .i64 x.1.fr, .int .i64 x.1.cls, .int .i64 x.1.tgt], undef, undef, undef, undef, undef, undef, undef, undef, undef], defers := [] })
    (fun x a' _ X Y row hs hg hr => by obtain ⟨Bx, h1, h2, h3⟩ := hs; exact ⟨Bx, h1, sblk_own Bx x () X Y row h2 hg (fun r e => (hr r e).2), h3⟩)
    ?assign ?body ?done ?stop
  case assign =>
    rintro l pre x W K ⟨⟨bO1, bC1⟩, hB1⟩ hK
    have HK := Lib.hid hK
    clear hK
    rw [zip_one]
    simp only [List.setIfInBounds_toArray, List.set_cons_zero, List.set_cons_succ]
    gi_wp2
    exact HK.out _ _ ((KeepsOthers.alloc _ _).from _) ((KB.refl _ _ W).alloc hB1.size _) ⟨⟨bO1.alloc _, bC1.alloc _⟩, hB1.alloc hB1.size _⟩ ⟨W.heap.size, bO1.lt, heap_alloc_new W _, rfl⟩
  case body =>
    rintro l pre x a' W hl ⟨r, hr⟩ ⟨⟨bO1, bC1⟩, hB1⟩ ⟨Bx, hBx, bX, rfl⟩ hlt
    have hok := hG.step x.1 x.2
    obtain ⟨x0, x1, x2, hxl⟩ := bX.facts
    have cO := bO1.cell
    have fO := bO1.frozen
    have cC := bC1.cell
    obtain ⟨q, hq⟩ : ∃ q : Nat, x.1.tgt = (q : Int) := ⟨x.1.tgt.toNat, by have := hok.t0; omega⟩
    have hq24 : q < 32 := by have := hok.t1; have := HS.out; omega
    have HO := Lib.hid bO1
    have HC := Lib.hid bC1
    have HB := Lib.hid hB1
    have HOK := Lib.hid hok
    have hne : V.heap.size + 1 ≠ w.heap.size + 1 + 1 := by omega
    obtain ⟨M, hM⟩ : ∃ M, (pre.map Subtype.val).foldl (addC c) 0 = M := ⟨_, rfl⟩
    have hMl : M < 2 ^ S := by rw [← hM]; exact fold_lt hG (addC c) (fun o s h1 h2 => addC_lt HS.out c o s h1 h2) _ (vals_in pre) 0 (Nat.two_pow_pos S)
    have hM32 := lt32 hS24 hMl
    have HM : Hid (((pre ++ [x]).map Subtype.val).foldl (addC c) 0 = addC c M x.1) := by rw [Hid, List.map_append, List.foldl_append, hM]; rfl
    rw [hM] at cO
    have HMP := Lib.hid hM
    clear hM bO1 bC1 hB1 hok hl hr hMl
    have HQ := Lib.hid hq
    rw [hq] at x2
    clear hq
    have HO2 : Hid (Boxed W (w.heap.size + 1 + 1) 148 (.int .u32 (M : Int))) := by have := HO.out; rw [HMP.out] at this; exact this
    cases hcc : (x.1.cls == c)
    · have e : ((pre ++ [x]).map Subtype.val).foldl (addC c) 0 = M := by rw [HM.out, addC, if_neg (by simpa using hcc)]
      have HE := Lib.hid e
      clear e
      gi_wp2_with fail
      exact ⟨KeepsFrom.refl _ _, KB.refl _ _ _, ⟨⟨by rw [HE.out]; exact HO2.out, HC.out⟩, HB.out⟩⟩
    · have e : ((pre ++ [x]).map Subtype.val).foldl (addC c) 0 = M ||| 1 <<< q := by rw [HM.out, addC, if_pos (by simpa using hcc), withB, HQ.out]; simp
      have HE := Lib.hid e
      clear e
      gi_wp2_with (refine ⟨trivial, ?_⟩; gi_at_call 106; refine (CallsIn.inRound l (callsIn_wide.2 (with_any M q _ hM32 hq24))).mono ?_; rintro e w' ⟨rfl, rfl⟩; dsimp only)
      exact ⟨(KeepsOthers.setCell _ _ _).from _, (KB.refl _ _ _).set _ (by omega) (by omega) _ _, ⟨⟨by rw [HE.out]; exact HO2.out.set _, HC.out.other (by omega) _⟩, HB.out.setCell (p := ⟨w.heap.size + 1 + 1, 0, none⟩) (by simp; omega) _⟩⟩
  case done =>
    rintro D ys W hD hys ⟨⟨bO1, bC1⟩, hB1⟩ hK
    have cO := bO1.cell
    rw [hys] at cO
    have HB := Lib.hid hB1
    have HK := Lib.hid hK
    clear bO1 bC1 hB1 hK hys
    gi_wp2
    refine ⟨by simp, .inl ⟨_, _, rfl, run_takeDeferred HK.out, ?_⟩⟩
    exact ⟨_, results_tmp rfl _ _ _, rfl, HB.out.trans (belowK_b (w := w) (Nat.le_refl _) W D _ _ (by omega) HK.out rfl rfl)⟩
  case stop =>
    rintro D c pre W _ _ h _
    exact h.elim
end Go.Proofs.YtiopgbbggeimaaaGreat

/-
  Sets of states that are reached: plain laws.
-/
namespace Go.Proofs.YtiopgbbggeimaaaGreat
theorem withB_bit (m : Nat) (t : Int) (q : Nat) : (withB m t).testBit q = (m.testBit q || decide (t.toNat = q)) := by
  unfold withB
  rw [Nat.testBit_or, Nat.one_shiftLeft, Nat.testBit_two_pow]
theorem fold_bit (f : PStep → Bool) (l : List PStep) (o q : Nat) : (l.foldl (fun o s => if f s then withB o s.tgt else o) o).testBit q = (o.testBit q || l.any fun s => f s && decide (s.tgt.toNat = q)) := by
  induction l generalizing o with
  | nil => simp
  | cons s l ih =>
    rw [List.foldl_cons, ih, List.any_cons]
    cases hf : f s <;> simp [withB_bit, Bool.or_assoc]
theorem addC_eq (c : Int) : addC c = fun o s => if decide (s.cls = c) then withB o s.tgt else o := by funext o s; unfold addC; by_cases h : s.cls = c <;> simp [h]
theorem after_bit (L : List PStep) (m : Nat) (c : Int) (q : Nat) : (afterF L m c).testBit q = L.any fun s => bitI m s.fr && (decide (s.cls = c) && decide (s.tgt.toNat = q)) := by
  rw [afterF, addC_eq, fold_bit, fromL, List.any_filter]
  simp [Nat.zero_testBit]
def cnt (S m : Nat) : Nat := ((List.range S).filter fun q => m.testBit q).length
section
variable {N : PNet} (hG : GoodN N) {S : Nat} (hS : N.states = (S : Int))
include hG hS
theorem after_lt (m : Nat) (c : Int) : afterF N.steps m c < 2 ^ S :=
  fold_lt hG (addC c) (fun o s h1 h2 => addC_lt hS c o s h1 h2) _ (fun _ hs => (List.mem_filter.1 hs).1) 0 (Nat.two_pow_pos S)
end
end Go.Proofs.YtiopgbbggeimaaaGreat

/-
  reached of tactics.
-/
namespace Go.Proofs.YtiopgbbggeimaaaGreat
open Go.ChangeShapes Go.WideShapes Go.ChangeAt Go.RowKit Go.Shelf
attribute [local go_sem] Oper.semAt_some
/-- all blocks of A but one are as they were -/
def Same1 (o : Nat) (A W : World) : Prop := A.heap.size ≤ W.heap.size ∧ ∀ k, k < A.heap.size → k ≠ o → W.heap[k]? = A.heap[k]?
theorem Same1.refl (o : Nat) (A : World) : Same1 o A A := ⟨Nat.le_refl _, fun _ _ _ => rfl⟩
theorem Same1.alloc {o : Nat} {A W : World} (h : Same1 o A W) (x : Obj) : Same1 o A (W.alloc x) := ⟨by have := h.1; simp; omega, fun k hk hne => (Below.heap_alloc W x k (by have := h.1; omega)).trans (h.2 k hk hne)⟩
theorem Same1.set {o : Nat} {A W : World} (h : Same1 o A W) (j : Nat) (u : Value) : Same1 o A (W.setCell ⟨o, j, none⟩ u) := ⟨by have := h.1; simpa using this, fun k hk hne => (Below.heap_setCell W ⟨o, j, none⟩ u k hne).trans (h.2 k hk hne)⟩
theorem Same1.call {o : Nat} {A W W' : World} (h : Same1 o A W) (k : Below W.heap.size W W') : Same1 o A W' := ⟨Nat.le_trans h.1 k.size, fun i hi hne => (k.block i (by have := h.1; omega)).trans (h.2 i hi hne)⟩
/-- marks of loops that are over -/
def Marks (B : Nat) (ds : List Deferred) (w : World) : Prop := ∃ Ds : List Nat, Ds.Nodup ∧ ds = Ds.map (fun D => { target := .collected D, args := #[] }) ∧ ∀ D, D ∈ Ds → B ≤ D ∧ w.heap[D]? = some (.deferred (some []))
theorem Marks.nil (B : Nat) (w : World) : Marks B [] w := ⟨[], by simp, rfl, by simp⟩
theorem Marks.cons {B : Nat} {ds : List Deferred} {A w : World} {D : Nat} (h : Marks B ds A) (hB : B ≤ D) (hD : A.heap.size ≤ D) (hk : w.heap[D]? = some (.deferred (some []))) (hs : ∀ (k : Nat) (o : Obj), A.heap[k]? = some o → o.isCells = false → w.heap[k]? = some o) : Marks B ({ target := .collected D, args := #[] } :: ds) w := by
  obtain ⟨Ds, h1, h2, h3⟩ := h
  refine ⟨D :: Ds, List.nodup_cons.2 ⟨fun hm => ?_, h1⟩, by rw [h2]; rfl, fun x hx => ?_⟩
  · have := (Array.getElem?_eq_some_iff.1 (h3 D hm).2).1; omega
  · rcases List.mem_cons.1 hx with rfl | hx
    · exact ⟨hB, hk⟩
    · exact ⟨(h3 x hx).1, hs x _ (h3 x hx).2 rfl⟩
end Go.Proofs.YtiopgbbggeimaaaGreat

/-
  final, living, run, Accepts of tactics.
-/
namespace Go.Proofs.YtiopgbbggeimaaaGreat
open Go.ChangeShapes Go.WideShapes Go.ChangeAt Go.RowKit
def finalF (l : List Int) : Nat := l.foldl withB 0
def runF (L : List PStep) (m : Nat) (l : List Int) : Nat := l.foldl (afterF L) m
def accF (N : PNet) (l : List Int) : Bool := (runF N.steps 1 l &&& finalF N.final) != 0
theorem take_of_dropI {l : List Int} {k : Nat} {x : Int} {r : List Int} (h : l.drop k = x :: r) : l.take (k + 1) = l.take k ++ [x] := by
  have hk : k < l.length := by
    rcases Nat.lt_or_ge k l.length with h1 | h1
    · exact h1
    · rw [List.drop_of_length_le h1] at h; cases h
  rw [List.drop_eq_getElem_cons hk] at h
  rw [List.take_succ_eq_append_getElem hk, (List.cons.inj h).1]
theorem finalF_lt {S : Nat} (l : List Int) (h : ∀ q, q ∈ l → 0 ≤ q ∧ q < (S : Int)) : finalF l < 2 ^ S := by
  have key : ∀ (l : List Int) (o : Nat), o < 2 ^ S → (∀ q, q ∈ l → 0 ≤ q ∧ q < (S : Int)) → l.foldl withB o < 2 ^ S := by
    intro l
    induction l with
    | nil => intro o h _; exact h
    | cons q l ih => intro o h hl; exact ih _ (withB_lt h (hl q (by simp)).2 (hl q (by simp)).1) (fun x hx => hl x (by simp [hx]))
  exact key l 0 (Nat.two_pow_pos S) h
theorem finalG_lt {N : PNet} (hG : GoodN N) {S : Nat} (hS : N.states = (S : Int)) : finalF N.final < 2 ^ S := finalF_lt _ (fun q hq => by have := hG.fin q hq; omega)
theorem runF_lt {N : PNet} (hG : GoodN N) {S : Nat} (hS : N.states = (S : Int)) (l : List Int) (m : Nat) (hm : m < 2 ^ S) : runF N.steps m l < 2 ^ S := by
  induction l generalizing m with
  | nil => exact hm
  | cons c l ih => exact ih _ (after_lt hG hS m c)
set_option maxHeartbeats 1000000 in
theorem final_any (v : Value) (N : PNet) (S : Nat) (w : World) (hv : RdN w v N) (hG : GoodN N) (hS : N.states = (S : Int)) :
    Calls Tryz.prog 84 #[v] w fun e w' => e = .returned (.int .u32 ((finalF N.final : Nat) : Int)) ∧ Below w.heap.size w w' := by
  obtain ⟨vs, vf, rfl, hs, hf⟩ := hv
  obtain ⟨A1, n1, c1, rfl, _, _, _, _⟩ := hs.op
  obtain ⟨A2, n2, c2, rfl, h1, h2, HN, HR⟩ := hf.op
  have hS24 : S ≤ 24 := by have := hG.s2; omega
  have HS := Lib.hid hS
  clear hs hf hS
  go_enter Tryz.func84, Tryz.ntmps84
  go_wp2_with fail
  generalize hW : World.alloc w _ = W
  have HBW : Hid (Below w.heap.size w W) := by rw [← hW]; repeat (first | assumption | exact Below.refl _ _ | refine Below.alloc ?_ (by first | omega | (simp; done) | (simp; omega)) _ | refine Below.drew ?_ | refine below_drewN ?_ _ | refine Below.setCell ?_ (by first | omega | (simp; done) | (simp; omega)) _)
  clear hW
  go_loop [3, 9] (fun o i => ∃ k : Nat, k ≤ n2 ∧ i = .int .i64 k ∧ o = .int .u32 ((finalF (N.final.take k) : Nat) : Int)) (fun _ i => n2 - (intOf i).toNat)
  case atStart => exact ⟨0, Nat.zero_le _, rfl, rfl⟩
  case round =>
    obtain ⟨k, hk, rfl, rfl⟩ := hrel
    by_cases hlt : k < n2
    · obtain ⟨b, off, x, rfl, hb, hd, hck⟩ := (HR.out k hlt).below HBW.out
      obtain ⟨hx0, hx1⟩ := hG.fin x (List.mem_of_mem_drop (by rw [hd.out]; exact List.mem_cons_self))
      obtain ⟨q, rfl⟩ : ∃ q : Nat, x = (q : Int) := ⟨x.toNat, by omega⟩
      have hq : q < 32 := by have := HS.out; omega
      have HF : Hid (finalF (N.final.take (k + 1)) = finalF (N.final.take k) ||| 1 <<< q) := by rw [Hid, take_of_dropI hd.out, finalF, List.foldl_append]; simp [withB, finalF]
      have hml := lt32 hS24 (finalF_lt (N.final.take k) (fun y hy => by have := hG.fin y (List.mem_of_mem_take hy); have := HS.out; omega))
      go_wp2_with fail
      refine (with_any _ q _ hml hq).mono ?_
      rintro e w1 ⟨rfl, rfl⟩
      go_wp2_with fail
      go_round
      case rel => exact ⟨k + 1, by omega, by go_num, by rw [HF.out]⟩
      case measure => simp [intOf]; omega
    · go_wp2_with fail
      go_ret
      exact ⟨by rw [List.take_of_length_le (by rw [HN.out]; omega)]; rfl, HBW.out⟩
/-- a net in a box -/
def NBox (w : World) (R : Nat) (S : Nat) (N : PNet) : Prop := ∃ A1 n1 c1 A2 n2 c2, NBlk w R (.int .i64 S) (.slice A1 n1 c1) (.slice A2 n2 c2) ∧ RdN w (.agg #[.int .i64 S, .slice A1 n1 c1, .slice A2 n2 c2]) N
theorem NBox.below {w w' : World} {R S : Nat} {N : PNet} (h : NBox w R S N) (hb : Below w.heap.size w w') : NBox w' R S N := by
  obtain ⟨A1, n1, c1, A2, n2, c2, h1, h2⟩ := h
  exact ⟨A1, n1, c1, A2, n2, c2, h1.below hb, h2.below hb⟩
theorem aliveB_cast (a b : Nat) : (((a &&& b : Nat) : Int) != 0) = ((a &&& b) != 0) := by
  generalize a &&& b = z
  rw [Bool.eq_iff_iff]
  simp
set_option maxHeartbeats 2000000 in
theorem run_any (v u : Value) (N : PNet) (S : Nat) (l : List Int) (w : World) (hv : RdN w v N) (hu : RdI w u l) (hG : GoodN N) (hS : N.states = (S : Int)) :
    Calls Tryz.prog 83 #[v, u] w fun e w' => e = .returned (.int .u32 ((runF N.steps 1 l : Nat) : Int)) ∧ Below w.heap.size w w' := by
  have HV := Lib.hid hv
  obtain ⟨vs, vf, rfl, hs, hf⟩ := hv
  obtain ⟨A1, n1, c1, rfl, _, _, _, _⟩ := hs.op
  obtain ⟨A2, n2, c2, rfl, _, _, _, _⟩ := hf.op
  obtain ⟨L1, nl, cl, rfl, h1, h2, HN, HR⟩ := hu.op
  have HS' := Lib.hid hS
  have h1S : (1 : Nat) < 2 ^ S := by have := hG.s1; exact Nat.one_lt_two_pow (by omega)
  have H1S := Lib.hid h1S
  rw [hS] at HV ⊢
  clear hs hf hS hu h1S
  go_enter Tryz.func83, Tryz.ntmps83
  go_wp2_with fail
  generalize hW : World.alloc w _ = W
  have HBW : Hid (Below w.heap.size w W) := by rw [← hW]; repeat (first | assumption | exact Below.refl _ _ | refine Below.alloc ?_ (by first | omega | (simp; done) | (simp; omega)) _ | refine Below.drew ?_ | refine below_drewN ?_ _ | refine Below.setCell ?_ (by first | omega | (simp; done) | (simp; omega)) _)
  have HNB : Hid (NBlk W w.heap.size (.int .i64 S) (.slice A1 n1 c1) (.slice A2 n2 c2)) := by rw [← hW]; exact heap_alloc_new w _
  clear hW
  go_loopw [5, 10] (fun o i wr => ∃ k : Nat, k ≤ nl ∧ i = .int .i64 k ∧ o = .int .u32 ((runF N.steps 1 (l.take k) : Nat) : Int) ∧ Hid (Below W.heap.size W wr)) (fun _ i _ => nl - (intOf i).toNat)
  case atStart => exact ⟨0, Nat.zero_le _, rfl, rfl, Below.refl _ _⟩
  case round =>
    obtain ⟨k, hk, rfl, rfl, HB⟩ := hrel
    by_cases hlt : k < nl
    · obtain ⟨b, off, x, rfl, hb, hd, hck⟩ := (HR.out k hlt).below (bchain HBW.out HB.out)
      have HF : Hid (runF N.steps 1 (l.take (k + 1)) = afterF N.steps (runF N.steps 1 (l.take k)) x) := by rw [Hid, take_of_dropI hd.out, runF, List.foldl_append]; rfl
      obtain ⟨p0, p1, p2, hpl⟩ := (HNB.out.below HB.out).facts
      go_wp2_with fail
      refine (after_any _ N S _ x _ (HV.out.below (bchain HBW.out HB.out)) hG HS'.out (runF_lt hG HS'.out _ 1 H1S.out)).mono ?_
      rintro e w1 ⟨rfl, hb1⟩
      have HB1 := Lib.hid (bchain HB.out hb1)
      clear hb1 p0 p1 p2 hpl
      go_wp2_with fail
      go_roundw
      case rel => exact ⟨k + 1, by omega, by go_num, by rw [HF.out], HB1.out⟩
      case measure => simp [intOf]; omega
    · go_wp2_with fail
      go_ret
      exact ⟨by rw [List.take_of_length_le (by rw [HN.out]; omega)]; rfl, bchain HBW.out HB.out⟩
set_option maxHeartbeats 2000000 in
theorem accepts_any (v u : Value) (N : PNet) (S : Nat) (l : List Int) (w : World) (hv : RdN w v N) (hu : RdI w u l) (hG : GoodN N) (hS : N.states = (S : Int)) :
    Calls Tryz.prog 45 #[v, u] w fun e w' => e = .returned (.bool (accF N l)) ∧ Below w.heap.size w w' := by
  have HV := Lib.hid hv
  obtain ⟨vs, vf, rfl, hs, hf⟩ := hv
  obtain ⟨A1, n1, c1, rfl, _, _, _, _⟩ := hs.op
  obtain ⟨A2, n2, c2, rfl, _, _, _, _⟩ := hf.op
  obtain ⟨L1, nl, cl, rfl, h1, h2, _, _⟩ := hu.op
  have HU := Lib.hid hu
  have HS' := Lib.hid hS
  have hS24 : S ≤ 24 := by have := hG.s2; omega
  have h1S : (1 : Nat) < 2 ^ S := by have := hG.s1; exact Nat.one_lt_two_pow (by omega)
  have HRL := Lib.hid (lt32 hS24 (runF_lt hG hS l 1 h1S))
  have HFL := Lib.hid (lt32 hS24 (finalG_lt hG hS))
  rw [hS] at HV ⊢
  clear hs hf hS hu h1S
  go_enter Tryz.func45, Tryz.ntmps45
  go_wp2_with fail
  generalize hW : World.alloc w _ = W
  have HBW : Hid (Below w.heap.size w W) := by rw [← hW]; repeat (first | assumption | exact Below.refl _ _ | refine Below.alloc ?_ (by first | omega | (simp; done) | (simp; omega)) _ | refine Below.drew ?_ | refine below_drewN ?_ _ | refine Below.setCell ?_ (by first | omega | (simp; done) | (simp; omega)) _)
  have HNB : Hid (NBlk W w.heap.size (.int .i64 S) (.slice A1 n1 c1) (.slice A2 n2 c2)) := by rw [← hW]; exact heap_alloc_new w _
  clear hW
  refine wp_region_ord 4 [0, 1, 2, 3] [] [0, 1, 3] [2, 4, 5, 6, 7] (fun w' => Below W.heap.size W w') (by kernel_rfl) (by kernel_rfl) ?_
  rintro D hD
  have HSD : Hid (Below W.heap.size W D) := by rw [hD]; exact (Below.refl _ _).drew
  clear hD
  refine ⟨HSD.out, ?_⟩
  have HS : Hid (∀ w' : World, Below W.heap.size W w' → w'.cell? ⟨w.heap.size, 0, none⟩ = some (.int .i64 S) ∧ w'.cell? ⟨w.heap.size, 1, none⟩ = some (.slice A1 n1 c1) ∧ w'.cell? ⟨w.heap.size, 2, none⟩ = some (.slice A2 n2 c2)) := by
    intro w' h
    obtain ⟨f0, f1, f2, _⟩ := (HNB.out.below h).facts
    exact ⟨f0, f1, f2⟩
  iterate 3 (refine wpHead_cons (v := ?_) rfl rfl (fun w' hS => ?_) ?_; rotate_left; (focus ((try obtain ⟨s0, s1, s2⟩ := HS.out _ (hS rfl)); clear hS; go_simp; try with_reducible rfl; done)); (try simp only [Act.put, List.setIfInBounds_toArray, List.set_cons_zero, List.set_cons_succ]))
  refine wpHead_nil ?_
  refine wpTail_cons rfl rfl (fun K hK => ?_)
  go_simp
  refine (run_any _ _ N S l _ (HV.out.below (bchain HBW.out HSD.out)) (HU.out.below (bchain HBW.out HSD.out)) hG HS'.out).mono ?_
  rintro e Y1 ⟨rfl, hb⟩
  refine hK.out _ _ (fun _ => bchain HSD.out hb) ?_
  clear hK K
  (try simp only [Act.put, List.setIfInBounds_toArray, List.set_cons_zero, List.set_cons_succ])
  have HSY1 := Lib.hid (bchain HSD.out hb)
  clear hb
  refine wpTail_cons rfl rfl (fun K hK => ?_)
  go_simp
  refine (final_any _ N S _ (HV.out.below (bchain HBW.out HSY1.out)) hG HS'.out).mono ?_
  rintro e Y2 ⟨rfl, hb⟩
  refine hK.out _ _ (fun h => absurd h (by decide)) ?_
  clear hK K
  (try simp only [Act.put, List.setIfInBounds_toArray, List.set_cons_zero, List.set_cons_succ])
  have HSY2 := Lib.hid (bchain HSY1.out hb)
  clear hb
  have hba := bits_and (runF N.steps 1 l) (finalF N.final) HRL.out HFL.out
  have hac := aliveB_cast (runF N.steps 1 l) (finalF N.final)
  refine wpTail_rest 5 rfl ?_
  simp only [List.drop_succ_cons, List.drop_zero]
  go_wp2_with fail
  refine NoPanic.normal ?_
  go_wp2_with fail
  go_ret
  exact ⟨rfl, bchain HBW.out HSY2.out⟩
end Go.Proofs.YtiopgbbggeimaaaGreat

/-
  slices.Contains of ints and of steps; Check of tactics.
-/
namespace Go.Proofs.YtiopgbbggeimaaaGreat
open Go.ChangeShapes Go.WideShapes Go.ChangeAt Go.RowKit
theorem take_of_dropS {l : List PStep} {k : Nat} {x : PStep} {r : List PStep} (h : l.drop k = x :: r) : l.take (k + 1) = l.take k ++ [x] := by
  have hk : k < l.length := by
    rcases Nat.lt_or_ge k l.length with h1 | h1
    · exact h1
    · rw [List.drop_of_length_le h1] at h; cases h
  rw [List.drop_eq_getElem_cons hk] at h
  rw [List.take_succ_eq_append_getElem hk, (List.cons.inj h).1]
theorem fieldsS : Tryz.prog.underlying 97 = some (.struct (Tryz.prog.fieldsOf 97)) := by kernel_rfl
set_option maxRecDepth 100000 in
theorem eqS (w : World) (x0 x1 x2 y0 y1 y2 : Int) : (binOp .eql 97 (.agg #[.int .i64 x0, .int .i64 x1, .int .i64 x2]) (.agg #[.int .i64 y0, .int .i64 y1, .int .i64 y2])).run Tryz.prog w = .ok (.bool (x0 == y0 && (x1 == y1 && x2 == y2))) w := by
  rw [run_eql_struct, run_equalIn_agg w 9999 _ _ _ fieldsS (by kernel_rfl)]
  have hf : (Tryz.prog.fieldsOf 97).toList = (match Tryz.prog.underlying 97 with | some (.struct fs) => fs | _ => #[]).toList := rfl
  rw [hf, Tryz.underlying97]
  simp only [Op.eqFields]
  cases h0 : (x0 == y0) <;> cases h1 : (x1 == y1) <;> cases h2 : (x2 == y2) <;> simp_all [go_sem, Tryz.underlying3]
/-! Check -/
def stB (n q : Int) : Bool := decide (0 ≤ q) && decide (q < n)
def stepsErr (n : Int) : List PStep → List PStep → Int
  | _, [] => 0
  | b, s :: l => if stB n s.fr && stB n s.tgt then (if s.cls < 1 ∨ 20 < s.cls then 21 else if s ∈ b then 8 else stepsErr n (b ++ [s]) l) else 2
def ordE : List Int → Int
  | x :: y :: l => if y ≤ x then 10 else ordE (y :: l)
  | _ => 0
def finE (n : Int) : List Int → Int
  | [] => 0
  | a :: l => if stB n a then finE n l else 2
def chkN (N : PNet) : Int :=
  if N.states < 1 ∨ 24 < N.states then 2 else if 200 < N.steps.length then 11 else
  if stepsErr N.states [] N.steps ≠ 0 then stepsErr N.states [] N.steps else
  if ordE N.final ≠ 0 then 10 else finE N.states N.final
end Go.Proofs.YtiopgbbggeimaaaGreat

/-
  Check of tactics.
-/
namespace Go.Proofs.YtiopgbbggeimaaaGreat
open Go.ChangeShapes Go.WideShapes Go.ChangeAt Go.RowKit
theorem chkN_of (S : Int) (L : List PStep) (M : List Int) (h0 : ¬ S < 1) (h4 : ¬ 24 < S) (h5 : ¬ 200 < L.length) : chkN ⟨S, L, M⟩ = if stepsErr S [] L ≠ 0 then stepsErr S [] L else if ordE M ≠ 0 then 10 else finE S M := by
  simp [chkN, h0, h4, h5]
theorem RdSN.take {w : World} {A : Option Addr} {n c : Nat} {l : List PStep} (h : RdSN w (.slice A n c) l) (k : Nat) (hk : k ≤ n) : RdSN w (.slice A k c) (l.take k) := by
  obtain ⟨A', c', he, h1, h2, h3, h4⟩ := h
  cases he
  have hl : (l.take k).length = k := by rw [List.length_take]; omega
  refine ⟨A, c, by rw [hl], by omega, h2, stepsCells_length _, fun hk0 => ?_⟩
  rw [hl] at hk0
  obtain ⟨b, off, rfl, hb, hc⟩ := h4 (by omega)
  refine ⟨b, off, rfl, hb, fun j u hu => hc j u ?_⟩
  have e : stepsCells l = stepsCells (l.take k) ++ stepsCells (l.drop k) := by rw [stepsCells, stepsCells, stepsCells, ← List.flatMap_append, List.take_append_drop]
  rw [e, List.getElem?_append_left (List.getElem?_eq_some_iff.1 hu).1]
  exact hu
end Go.Proofs.YtiopgbbggeimaaaGreat

