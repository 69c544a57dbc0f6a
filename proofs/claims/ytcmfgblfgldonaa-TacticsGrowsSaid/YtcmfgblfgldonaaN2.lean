/-
  Nets in memory; the iterator over the steps that begin in a set.
-/
import Derived.Test.YtcmfgblfgldonaaN1
import Derived.RangeFuncNested
import Derived.RangeFuncBound
import Derived.RangeFuncCalls
import Derived.RangeFuncLeaves
import Derived.Shelf.Abstract
import Derived.Shelf.RegionOpen
import Derived.OwnWalkIn
import Derived.TacticsInMore
import Derived.LoopNIn
import Derived.LoopIn
namespace Go.Proofs.Ytcmfgblfgldonaa
open Go.ChangeShapes Go.WideShapes Go.ChangeAt Go.RowKit Go.Shelf
attribute [local go_sem] Oper.semAt_some
structure PStep where
  fr : Int
  cls : Int
  tgt : Int
  deriving DecidableEq
structure PNet where
  states : Int
  steps : List PStep
  final : List Int
def stepCells (s : PStep) : List Value := [.int .i64 s.fr, .int .i64 s.cls, .int .i64 s.tgt]
def stepV (s : PStep) : Value := .agg #[.int .i64 s.fr, .int .i64 s.cls, .int .i64 s.tgt]
def stepsCells (l : List PStep) : List Value := l.flatMap stepCells
theorem stepsCells_length (l : List PStep) : (stepsCells l).length = l.length * 3 := by
  induction l with
  | nil => rfl
  | cons a l ih => simp only [stepsCells, List.flatMap_cons, List.length_append] at ih ⊢; rw [ih]; simp [stepCells]; omega
theorem stepsCells_at (l : List PStep) (k : Nat) (h : k < l.length) (j : Nat) (hj : j < 3) : (stepsCells l)[k * 3 + j]? = (stepCells l[k])[j]? := by
  induction l generalizing k with
  | nil => simp at h
  | cons a l ih =>
    cases k with
    | zero => simp only [stepsCells, List.flatMap_cons]; rw [List.getElem?_append_left (by simp [stepCells]; omega)]; simp
    | succ k =>
      simp only [stepsCells, List.flatMap_cons]
      rw [List.getElem?_append_right (by simp [stepCells]; omega)]
      have e : (k + 1) * 3 + j - (stepCells a).length = k * 3 + j := by simp [stepCells]; omega
      rw [e]
      exact ih k (by simpa using h)
def RdS (w : World) (v : Value) (l : List PStep) : Prop := Rd w 3 v l.length (stepsCells l)
theorem RdS.below {w w' : World} {v : Value} {l : List PStep} (h : RdS w v l) (hb : Below w.heap.size w w') : RdS w' v l := Rd.below h hb
def SAt (w : World) (A : Option Addr) (l : List PStep) (k : Nat) : Prop :=
  ∃ b off x0 x1 x2, A = some ⟨b, off, none⟩ ∧ b < w.heap.size ∧ Hid (l.drop k = ⟨x0, x1, x2⟩ :: l.drop (k + 1)) ∧ w.cell? ⟨b, off + k * 3, none⟩ = some (.int .i64 x0) ∧
    w.cell? ⟨b, off + k * 3 + 1, none⟩ = some (.int .i64 x1) ∧ w.cell? ⟨b, off + k * 3 + 2, none⟩ = some (.int .i64 x2)
theorem RdS.op {w : World} {v : Value} {l : List PStep} (h : RdS w v l) : ∃ (A : Option Addr) (n c : Nat), v = .slice A n c ∧ n ≤ c ∧ c ≤ 9223372036854775807 ∧ Hid (l.length = n) ∧
    Hid (∀ k, k < n → SAt w A l k) := by
  obtain ⟨A, c, rfl, h1, h2, h3, h4⟩ := h
  refine ⟨A, _, c, rfl, h1, h2, rfl, fun k hk => ?_⟩
  obtain ⟨b, off, rfl, hb, hc⟩ := h4 (by omega)
  refine ⟨b, off, l[k].fr, l[k].cls, l[k].tgt, rfl, hb, List.drop_eq_getElem_cons hk, ?_, ?_, ?_⟩
  · exact hc (k * 3 + 0) _ (stepsCells_at l k hk 0 (by omega))
  · exact hc (k * 3 + 1) _ (stepsCells_at l k hk 1 (by omega))
  · exact hc (k * 3 + 2) _ (stepsCells_at l k hk 2 (by omega))
theorem SAt.below {w w' : World} {A : Option Addr} {l : List PStep} {k : Nat} (h : SAt w A l k) (hb : Below w.heap.size w w') : SAt w' A l k := by
  obtain ⟨b, off, x0, x1, x2, rfl, hl, hd, c0, c1, c2⟩ := h
  exact ⟨b, off, x0, x1, x2, rfl, by have := hb.size; omega, hd, (hb.cell hl).trans c0, (hb.cell hl).trans c1, (hb.cell hl).trans c2⟩
/-- a net in memory -/
def RdN (w : World) (v : Value) (N : PNet) : Prop := ∃ vs vf, v = .agg #[.int .i64 N.states, vs, vf] ∧ RdS w vs N.steps ∧ RdI w vf N.final
theorem RdN.below {w w' : World} {v : Value} {N : PNet} (h : RdN w v N) (hb : Below w.heap.size w w') : RdN w' v N := by
  obtain ⟨vs, vf, rfl, h1, h2⟩ := h
  exact ⟨vs, vf, rfl, h1.below hb, h2.below hb⟩
def NBlk (w : World) (R : Nat) (x y z : Value) : Prop := w.heap[R]? = some (.cells #[x, y, z] 25 (0, 0))
section
variable {w w' : World} {R : Nat} {x y z : Value}
theorem NBlk.lt (h : NBlk w R x y z) : R < w.heap.size := (Array.getElem?_eq_some_iff.1 h).1
theorem NBlk.below (h : NBlk w R x y z) (hb : Below w.heap.size w w') : NBlk w' R x y z := (hb.block R h.lt).trans h
theorem NBlk.facts (h : NBlk w R x y z) : w.cell? ⟨R, 0, none⟩ = some x ∧ w.cell? ⟨R, 1, none⟩ = some y ∧ w.cell? ⟨R, 2, none⟩ = some z ∧ R < w.heap.size := by
  refine ⟨?_, ?_, ?_, h.lt⟩ <;> rw [cell_of_row w R _ _ _ (0, 0) h] <;> rfl
end
def SBlk (w : World) (R : Nat) (s : PStep) : Prop := w.heap[R]? = some (.cells #[.int .i64 s.fr, .int .i64 s.cls, .int .i64 s.tgt] 42 (0, 0))
theorem SBlk.facts {w : World} {R : Nat} {s : PStep} (h : SBlk w R s) : w.cell? ⟨R, 0, none⟩ = some (.int .i64 s.fr) ∧ w.cell? ⟨R, 1, none⟩ = some (.int .i64 s.cls) ∧ w.cell? ⟨R, 2, none⟩ = some (.int .i64 s.tgt) ∧ R < w.heap.size := by
  refine ⟨?_, ?_, ?_, (Array.getElem?_eq_some_iff.1 h).1⟩ <;> rw [cell_of_row w R _ _ _ (0, 0) h] <;> rfl
/-- a net that is right -/
structure StepOk (n : Int) (s : PStep) : Prop where
  f0 : 0 ≤ s.fr
  f1 : s.fr < n
  t0 : 0 ≤ s.tgt
  t1 : s.tgt < n
  c0 : 1 ≤ s.cls
  c1 : s.cls ≤ 20
structure GoodN (N : PNet) : Prop where
  s1 : 1 ≤ N.states
  s2 : N.states ≤ 24
  len : N.steps.length ≤ 200
  step : ∀ s, s ∈ N.steps → StepOk N.states s
  once : N.steps.Pairwise (· ≠ ·)
  ord : N.final.Pairwise (· < ·)
  fin : ∀ q, q ∈ N.final → 0 ≤ q ∧ q < N.states
def bitI (m : Nat) (q : Int) : Bool := m.testBit q.toNat
def fromL (L : List PStep) (m : Nat) : List PStep := L.filter fun s => bitI m s.fr
theorem steps_any (v : Value) (N : PNet) (m : Nat) (w : World) (vs vf : Value) (hv : v = .agg #[.int .i64 N.states, vs, vf]) (hs : RdS w vs N.steps) (hf : RdI w vf N.final) :
    Calls Try.prog 46 #[v, .int .u32 (m : Int)] w fun e w' => e = .returned (.func (.func 53) #[] #[.pointer (some ⟨w.heap.size, 0, none⟩), .pointer (some ⟨w.heap.size + 1, 0, none⟩)]) ∧
      w' = (w.alloc (.cells #[.int .i64 N.states, vs, vf] 25)).alloc (.cells #[.int .u32 (m : Int)] 47) := by
  subst hv
  obtain ⟨A, n, c, rfl, _, _, _, _⟩ := hs.op
  obtain ⟨A', n', c', rfl, _, _, _, _⟩ := hf.op
  clear hs hf
  go_enter Try.func46, Try.ntmps46
  go_wp2_with fail
  go_ret
  exact ⟨rfl, rfl⟩
abbrev VStep (N : PNet) := { s : PStep // s ∈ N.steps }
/-- what a round keeps: what lay below n₀, and block Bm -/
def KB (n₀ Bm : Nat) (W W' : World) : Prop := Below n₀ W W' ∧ (Bm < W.heap.size → W'.heap[Bm]? = W.heap[Bm]?)
theorem KB.refl (n₀ Bm : Nat) (W : World) : KB n₀ Bm W W := ⟨Below.refl _ _, fun _ => rfl⟩
theorem KB.tr {n₀ Bm : Nat} {A B C : World} (h : KB n₀ Bm A B) (k : KB n₀ Bm B C) : KB n₀ Bm A C := ⟨h.1.trans k.1, fun hl => (k.2 (Nat.lt_of_lt_of_le hl h.1.size)).trans (h.2 hl)⟩
theorem KB.b {n₀ Bm : Nat} {w : World} (hn : n₀ ≤ w.heap.size) (hb : Bm < w.heap.size) (W : World) (l : Nat) (o o' : Obj) (hl : w.heap.size ≤ l) (h : W.heap[l]? = some o) (h1 : o.isCells = false) (h2 : o.isWalk = false) : KB n₀ Bm W (W.putObj l o') :=
  ⟨belowK_b hn W l o o' hl h h1 h2, fun _ => World.putObj_heap_other (by omega)⟩
theorem KB.alloc {n₀ Bm : Nat} {A W : World} (h : KB n₀ Bm A W) (hn : n₀ ≤ A.heap.size) (o : Obj) : KB n₀ Bm A (W.alloc o) :=
  ⟨h.1.alloc (Nat.le_trans hn h.1.size) o, fun hl => (Below.heap_alloc W o Bm (Nat.lt_of_lt_of_le hl h.1.size)).trans (h.2 hl)⟩
theorem KB.call {n₀ Bm : Nat} {A W W' : World} (h : KB n₀ Bm A W) (hn : n₀ ≤ A.heap.size) (hb : Below W.heap.size W W') : KB n₀ Bm A W' :=
  ⟨h.1.trans (hb.mono (Nat.le_trans hn h.1.size)), fun hl => (hb.block Bm (Nat.lt_of_lt_of_le hl h.1.size)).trans (h.2 hl)⟩
theorem KB.set {n₀ Bm : Nat} {A W : World} (h : KB n₀ Bm A W) (B : Nat) (hB : n₀ ≤ B) (hne : B ≠ Bm) (j : Nat) (u : Value) : KB n₀ Bm A (W.setCell ⟨B, j, none⟩ u) :=
  ⟨h.1.setCell (p := ⟨B, j, none⟩) hB u, fun hl => (Below.heap_setCell W ⟨B, j, none⟩ u Bm (Ne.symm hne)).trans (h.2 hl)⟩
theorem fromL_take (L : List PStep) (m : Nat) (k : Nat) (x : PStep) (r : List PStep) (h : L.drop k = x :: r) : fromL (L.take (k + 1)) m = fromL (L.take k) m ++ if bitI m x.fr then [x] else [] := by
  have hk : k < L.length := by
    rcases Nat.lt_or_ge k L.length with h1 | h1
    · exact h1
    · rw [List.drop_of_length_le h1] at h; cases h
  rw [List.drop_eq_getElem_cons hk] at h
  rw [fromL, List.take_succ_eq_append_getElem hk, (List.cons.inj h).1, List.filter_append]
  simp [fromL, List.filter_cons]
theorem fromL_pre (L : List PStep) (m k : Nat) : fromL (L.take k) m <+: fromL L m := ⟨fromL (L.drop k) m, by rw [fromL, fromL, ← List.filter_append, List.take_append_drop]; rfl⟩
theorem fromL_len (L : List PStep) (m k : Nat) : (fromL (L.take k) m).length ≤ k := Nat.le_trans (List.length_filter_le _ _) (List.length_take_le _ _)
set_option maxHeartbeats 2000000 in
set_option maxRecDepth 100000 in
theorem steps1_in (n : Nat) (hn : 1 ≤ n) (l g Bm n₀ : Nat) (N : PNet) (m : Nat) (y z : Value) (hm : m < 4294967296) (hN : N.states ≤ 24) (hS : ∀ s, s ∈ N.steps → StepOk N.states s) (J Jx : List (VStep N) → World → Prop) (w0 W : World)
    (hJ : ∀ s W1 W' row, J s W1 → W1.grownBy W' row → (∀ r, row = some r → W.heap.size ≤ r ∧ ∃ o : Obj, W1.heap[r]? = some o ∧ o.isWalk = true) → J s W')
    (hY : ∀ pre x W1, J pre W1 → pre.length < N.steps.length → YieldAt Fence.wide (n - 1) Try.prog l #[stepV x.1] W1 fun e W' =>
      (e = .returned (.bool true) ∧ J (pre ++ [x]) W' ∧ KB n₀ Bm W1 W') ∨ (e = .returned (.bool false) ∧ Jx (pre ++ [x]) W'))
    (hw0 : w0.heap.size ≤ n₀) (hWw : Below w0.heap.size w0 W) (hB : Bm < W.heap.size) (hn0 : n₀ ≤ W.heap.size) (hG : NBlk W g (.int .i64 N.states) y z) (hM : W.heap[Bm]? = some (.cells #[.int .u32 (m : Int)] 47 (0, 0))) (hy : RdS w0 y N.steps) (h0 : J [] W) :
    CallsIn Fence.wide n Try.prog 53 #[.func (.yield l) #[] #[], .pointer (some ⟨g, 0, none⟩), .pointer (some ⟨Bm, 0, none⟩)] W fun e W' => (∃ v, e = .returned v) ∧
      ((∃ ys, ys.map Subtype.val = fromL N.steps m ∧ J ys W') ∨ (∃ pre, pre.map Subtype.val <+: fromL N.steps m ∧ Jx pre W')) := by
  obtain ⟨A, k, c, rfl, h1, h2, HN, HR⟩ := hy.op
  refine callsIn_of_wp Try.func53 rfl trivial ?_ rfl
  simp only [Try.ntmps53, List.size_toArray, List.length_cons, List.length_nil, Nat.reduceAdd, Nat.reduceSub, Array.replicate_succ, Array.replicate_zero, List.push_toArray, List.append_toArray, List.nil_append, List.cons_append]
  obtain ⟨p0, p1, p2, hgl⟩ := hG.facts
  gi_wp2
  gi_loopw [9] (fun i wr => ∃ (j : Nat) (pre : List (VStep N)), j ≤ k ∧ i = .int .i64 j ∧ pre.map Subtype.val = fromL (N.steps.take j) m ∧ J pre wr ∧ Hid (KB n₀ Bm W wr)) (fun i _ => k - (intOf i).toNat)
  case atStart => exact ⟨0, [], Nat.zero_le _, rfl, rfl, h0, KB.refl _ _ _⟩
  case round =>
    obtain ⟨j, pre, hj, rfl, hpre, hJs, HB⟩ := hrel
    have HPRE := Lib.hid hpre
    have HJ := Lib.hid hJs
    clear hpre hJs
    by_cases hlt : j < k
    · obtain ⟨bb, off, x0, x1, x2, rfl, hbb, hdr, e0, e1, e2⟩ := (HR.out j hlt).below (hWw.trans (HB.out.1.mono hw0))
      have hmem : (⟨x0, x1, x2⟩ : PStep) ∈ N.steps := List.mem_of_mem_drop (by rw [hdr.out]; exact List.mem_cons_self)
      have hok := hS _ hmem
      have hx0 := hok.f0
      have hx1 := hok.f1
      simp only at hx0 hx1
      obtain ⟨q, rfl⟩ : ∃ q : Nat, x0 = (q : Int) := ⟨x0.toNat, by omega⟩
      have hq : q < 32 := by omega
      have HTK := Lib.hid (fromL_take N.steps m j ⟨(q : Int), x1, x2⟩ _ hdr.out)
      have HMEM := Lib.hid hmem
      have hbx : (wr.alloc (.cells #[.int .u32 (m : Int)] 0)).heap.size = wr.heap.size + 1 := by simp
      have c0 : wr.cell? ⟨Bm, 0, none⟩ = some (.int .u32 (m : Int)) := by
        have h : wr.heap[Bm]? = _ := (HB.out.2 hB).trans hM
        rw [cell_of_row wr Bm _ _ _ (0, 0) h]; rfl
      have hBl : Bm < wr.heap.size := by have := HB.out.1.size; omega
      clear hx0 hx1 hok hmem hbx
      have HJA : Hid (∀ o, J pre (wr.alloc o)) := fun o => hJ _ _ _ none HJ.out (World.grownBy_alloc wr o none) (fun r e => by cases e)
      have HBA : Hid (∀ o, KB n₀ Bm W (wr.alloc o)) := fun o => HB.out.alloc hn0 o
      cases hbit : m.testBit q
      · have HTK2 : Hid (fromL (N.steps.take (j + 1)) m = fromL (N.steps.take j) m) := by rw [Hid, HTK.out]; simp [bitI, hbit]
        have HBIT := Lib.hid hbit
        clear hbit
        gi_wp2_with (refine ⟨trivial, ?_⟩; gi_at_call 47; refine (callsIn_wide.2 (has_any m q _ hm hq)).mono ?_; rintro e w' ⟨rfl, rfl⟩; rw [HBIT.out])
        refine ⟨fun _ h => (by cases h), ?_⟩
        gi_wp2
        go_roundw
        case rel => exact ⟨j + 1, pre, by omega, by go_num, by rw [HTK2.out]; exact HPRE.out, HJA.out _, HBA.out _⟩
        case measure => simp [intOf]; omega
      · have HTK2 : Hid (fromL (N.steps.take (j + 1)) m = fromL (N.steps.take j) m ++ [⟨(q : Int), x1, x2⟩]) := by rw [Hid, HTK.out]; simp [bitI, hbit]
        have HBIT := Lib.hid hbit
        clear hbit
        obtain ⟨fn, tmps, assign, body, hy, hR⟩ := hY pre ⟨⟨(q : Int), x1, x2⟩, HMEM.out⟩ (wr.alloc (.cells #[.int .i64 (q : Int), .int .i64 x1, .int .i64 x2] 42)) (HJA.out _) (by have h1 := congrArg List.length HPRE.out; rw [List.length_map] at h1; have h2 := fromL_len N.steps m j; have h3 := HN.out; omega)
        simp only [stepV] at hy
        gi_wp2_with (refine ⟨trivial, ?_⟩; gi_at_call 47; refine (callsIn_wide.2 (has_any m q _ hm hq)).mono ?_; rintro e w' ⟨rfl, rfl⟩; rw [HBIT.out])
        refine hR.mono ?_
        rintro e W3 (⟨rfl, hJ3, hk3⟩ | ⟨rfl, hJx3⟩)
        · have HJ3 := Lib.hid hJ3
          have HK3 := Lib.hid hk3
          clear hJ3 hk3
          gi_wp2
          go_roundw
          case rel => exact ⟨j + 1, pre ++ [⟨⟨(q : Int), x1, x2⟩, HMEM.out⟩], by omega, by go_num, by rw [HTK2.out, List.map_append, HPRE.out]; rfl, HJ3.out, (HBA.out _).tr HK3.out⟩
          case measure => simp [intOf]; omega
        · have HJX := Lib.hid hJx3
          clear hJx3
          gi_wp2
          refine bodyPost_ret (results_none rfl _ _ _) rfl ?_
          refine ⟨⟨_, rfl⟩, .inr ⟨pre ++ [⟨⟨(q : Int), x1, x2⟩, HMEM.out⟩], ?_, HJX.out⟩⟩
          rw [List.map_append, HPRE.out]
          show fromL (N.steps.take j) m ++ [⟨(q : Int), x1, x2⟩] <+: _
          rw [← HTK2.out]
          exact fromL_pre _ _ _
    · gi_wp2
      go_end0
      refine ⟨⟨_, rfl⟩, .inl ⟨pre, ?_, HJ.out⟩⟩
      rw [HPRE.out, List.take_of_length_le (by rw [HN.out]; omega)]
theorem steps_stops (n : Nat) (hn : 1 ≤ n) (g Bm n₀ : Nat) (N : PNet) (m : Nat) (y z : Value) (hm : m < 4294967296) (hG : GoodN N) (w0 w : World) (hw0 : w0.heap.size ≤ n₀) (hWw : Below w0.heap.size w0 w) (hn0 : n₀ ≤ w.heap.size)
    (hGB : NBlk w g (.int .i64 N.states) y z) (hM : w.heap[Bm]? = some (.cells #[.int .u32 (m : Int)] 47 (0, 0))) (hy : RdS w0 y N.steps) :
    SeqStopsK Fence.wide n Try.prog 53 #[.pointer (some ⟨g, 0, none⟩), .pointer (some ⟨Bm, 0, none⟩)] (fun x : VStep N => #[Value.agg #[.int .i64 x.1.fr, .int .i64 x.1.cls, .int .i64 x.1.tgt]]) (KB n₀ Bm) (fun ys => ys.map Subtype.val = fromL N.steps m) (fun pre => pre.map Subtype.val <+: fromL N.steps m) N.steps.length w :=
  fun l J Jx W hW hJ _ hY h0 => steps1_in n hn l g Bm n₀ N m y z hm hG.s2 hG.step J Jx w0 W hJ hY hw0 (hWw.trans (hW.mono (by omega))) (by have := hW.size; have := (Array.getElem?_eq_some_iff.1 hM).1; omega) (by have := hW.size; omega) (hGB.below hW) ((hW.block Bm (Array.getElem?_eq_some_iff.1 hM).1).trans hM) hy h0
end Go.Proofs.Ytcmfgblfgldonaa
