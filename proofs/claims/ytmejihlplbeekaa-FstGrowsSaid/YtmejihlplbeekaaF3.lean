/-
  A map whose keys are the configurations of Accepts, and a row of configurations.
-/
import Derived.Test.YtmejihlplbeekaaF2
import Derived.Maps.Own
import Derived.Maps.OwnSet
import Derived.Maps.Views
import Derived.DeepKeys4
namespace Go.Proofs.Ytmejihlplbeekaa
open Go.ChangeShapes Go.WideShapes Go.ChangeAt Go.RowKit
open Go.Maps (Keyed)
set_option maxRecDepth 100000
structure Cfg where
  q : Int
  i : Int
  k : Int
  deriving DecidableEq
def cfgV (c : Cfg) : Value := .agg #[.int .i64 c.q, .int .i64 c.i, .int .i64 c.k]
def cfgCells (c : Cfg) : List Value := [.int .i64 c.q, .int .i64 c.i, .int .i64 c.k]
def InI (n : Int) : Prop := -9223372036854775808 ≤ n ∧ n ≤ 9223372036854775807
theorem wf_in {n : Int} (h : InI n) : (Lit.int .i64 n).wf = true :=
  WalkArith.wf_i64 h
structure Cfg.Wf (c : Cfg) : Prop where
  q : InI c.q
  i : InI c.i
  k : InI c.k
theorem rowC : (51 : TypeId) < Try.prog.types.size := of_decide_eq_true (by kernel_rfl)
theorem cellsC : Try.prog.cellsOf 51 = 3 := by kernel_rfl
theorem cellsInt : Try.prog.cellsOf 3 = 1 := by kernel_rfl
theorem wideC : (match Try.prog.underlying 51 with | some (.array _ _) | some (.struct _) => true | _ => false) = true := by rw [Try.underlying51]
theorem lawC : Keyed Try.prog 51 := Keyed.of_law (deep_law_laid laidOut (m := 2) (by omega) rowC (by kernel_rfl) wideC)
theorem key3 {P : Program} {k ti : TypeId} {f0 f1 f2 : Field} (hu : P.underlying k = some (.struct #[f0, f1, f2])) (hui : P.underlying ti = some (.int .i64)) (hk : P.keyType k = true) (hc : P.cellsOf k = 3) (hci : P.cellsOf ti = 1)
    (hf : (f0.type = ti ∧ f0.offset = 0 ∧ (f0.name != "_") = true) ∧ (f1.type = ti ∧ f1.offset = 1 ∧ (f1.name != "_") = true) ∧ (f2.type = ti ∧ f2.offset = 2 ∧ (f2.name != "_") = true)) (hs : 0 < P.types.size) {x y z : Int} (hx : InI x) (hy : InI y) (hz : InI z) :
    keyOf P k (.agg #[.int .i64 x, .int .i64 y, .int .i64 z]) = some (.string (keyBytes [.int .i64 x, .int .i64 y, .int .i64 z])) := by
  obtain ⟨⟨a0, a1, a2⟩, ⟨b0, b1, b2⟩, ⟨c0, c1, c2⟩⟩ := hf
  have hform : (Value.agg #[.int .i64 x, .int .i64 y, .int .i64 z]).formed P k = true := by simp [Value.formed, hu, hc]
  obtain ⟨m, hm⟩ : ∃ m, P.types.size = m + 1 := ⟨P.types.size - 1, by omega⟩
  have hi : ∀ n, InI n → P.keyLits (m + 1) ti [.int .i64 n] = some [.int .i64 n] := by
    intro n hn
    simp [Program.keyLits, hui, wf_in hn]
  generalize m + 1 = sz at hi hm
  have hl : P.keyLits (sz + 1) k (Value.agg #[.int .i64 x, .int .i64 y, .int .i64 z]).cells.toList = some [.int .i64 x, .int .i64 y, .int .i64 z] := by
    simp at a2 b2 c2
    simp [Program.keyLits, hu, hc, hci, Value.cells, a0, a1, a2, b0, b1, b2, c0, c1, c2, hi _ hx, hi _ hy, hi _ hz]
  unfold keyOf
  rw [hu]
  dsimp only
  rw [hk, hform, hm, hl]
  rfl
theorem keyC (c : Cfg) (h : c.Wf) : ∃ l, keyOf Try.prog 51 (cfgV c) = some l :=
  ⟨_, key3 Try.underlying51 Try.underlying3 (by kernel_rfl) cellsC cellsInt ⟨⟨rfl, rfl, by decide⟩, ⟨rfl, rfl, by decide⟩, ⟨rfl, rfl, by decide⟩⟩ (Nat.lt_of_le_of_lt (Nat.zero_le _) rowC) h.q h.i h.k⟩
noncomputable def boolR : Value → Option (DataW Unit × List MemPlace) := plainElem Try.prog 4
/-- block b is a map of at most n entries; true at the configurations of Vs alone -/
def OwnV (w : World) (b n : Nat) (Vs : List Cfg) : Prop :=
  ∃ D : DataW Unit, w.ownsMap Try.prog 51 boolR b n D ∧ ∀ c l, keyOf Try.prog 51 (cfgV c) = some l → D.atKey l (.lit (.bool false)) = .lit (.bool (decide (c ∈ Vs)))
theorem OwnV.made (w : World) : OwnV (w.alloc (.map #[] 0)) w.heap.size 0 [] := ⟨_, World.ownsMap_made _ _ _ _, fun c l _ => by simp; rfl⟩
theorem OwnV.kept {w w' : World} {b n : Nat} {Vs : List Cfg} (h : OwnV w b n Vs) {r : Option Nat} (hg : w.grownBy w' r) (hr : r ≠ some b) : OwnV w' b n Vs := by
  obtain ⟨D, h1, h2⟩ := h
  exact ⟨D, h1.kept hg (Ne.symm hr), h2⟩
theorem OwnV.block {w : World} {b n : Nat} {Vs : List Cfg} (h : OwnV w b n Vs) : ∃ es cl, w.heap[b]? = some (.map es cl) := by
  obtain ⟨D, ⟨es, cl, h1, _⟩, _⟩ := h
  exact ⟨es, cl, h1⟩
theorem OwnV.below {w w' : World} {b n : Nat} {Vs : List Cfg} (h : OwnV w b n Vs) (hb : Below w.heap.size w w') : OwnV w' b n Vs := by
  obtain ⟨D, ⟨es, cl, h1, h3⟩, h2⟩ := h
  exact ⟨D, ⟨es, cl, (hb.block b (Array.getElem?_eq_some_iff.1 h1).1).trans h1, h3⟩, h2⟩
theorem bool_inv {v : Value} {x : Bool} {ps : List MemPlace} (h : boolR v = some (.lit (.bool x), ps)) : v = .bool x := by
  unfold boolR plainElem at h
  rw [Try.underlying4] at h
  cases v <;> simp at h
  rw [h.1]
theorem zeroB (w : World) : (zeroValue 4).run Try.prog w = .ok (.bool false) w := by kernel_rfl
theorem OwnV.look {w : World} {b n : Nat} {Vs : List Cfg} (h : OwnV w b n Vs) (c : Cfg) (hc : c.Wf) : (Instr.lookup 52 (.map (some b)) (cfgV c) false).run Try.prog w = .ok (.bool (decide (c ∈ Vs))) w := by
  obtain ⟨D, h1, h2⟩ := h
  obtain ⟨l, hl⟩ := keyC c hc
  obtain ⟨v, ps, hrun, hv⟩ := h1.lookup lawC Try.underlying52 (zeroB w) (plainElem_bool (H := Unit) Try.underlying4 false) hl
  rw [h2 c l hl] at hv
  rw [hrun, bool_inv hv]
theorem OwnV.put {w : World} {b n : Nat} {Vs : List Cfg} (h : OwnV w b n Vs) (c : Cfg) (hc : c.Wf) (hn : n < maxLen) :
    ∃ w', (Instr.mapUpdate 52 (.map (some b)) (cfgV c) (.bool true)).run Try.prog w = .ok () w' ∧ OwnV w' b (n + 1) (c :: Vs) ∧ w.grownBy w' (some b) := by
  obtain ⟨D, h1, h2⟩ := h
  obtain ⟨l, hl⟩ := keyC c hc
  obtain ⟨w', hrun, h3, h4⟩ := h1.update lawC Try.underlying52 hn hl (plainElem_bool (H := Unit) Try.underlying4 true)
  refine ⟨w', hrun, ⟨_, h3, fun c' l' hl' => ?_⟩, h4⟩
  by_cases he : l' = l
  · subst he
    have : c' = c := by
      have := lawC.inj hl' hl
      simp [cfgV] at this
      cases c; cases c'; simp_all
    subst this
    rw [Maps.atKey_put_same h1.isMap (lawC.key hl)]
    simp
  · rw [Maps.atKey_put_other he, h2 c' l' hl']
    have : c' ≠ c := fun hcc => he (by subst hcc; rw [hl] at hl'; cases hl'; rfl)
    simp [this]
theorem wpList_putV {w : World} {ops : Array Oper} {rest : List Oper} {o : Oper} {a : Act} {Q : Exit → Act → World → Prop} (hg : o.guard = none) (m x v : Operand)
    (hop : o.op = Op.mapUpdate 52 m x v ∨ o.op = Op.insert 52 m x v) (b n : Nat) (Vs : List Cfg) (c : Cfg) (hm : a.eval m = .map (some b)) (hx : a.eval x = cfgV c) (hv : a.eval v = .bool true)
    (h : OwnV w b n Vs) (hc : c.Wf) (hn : n < maxLen) (hK : ∀ w', OwnV w' b (n + 1) (c :: Vs) → w.grownBy w' (some b) → wpList Try.prog ops Q rest (a.put o.dst undef) w') : wpList Try.prog ops Q (o :: rest) a w := by
  refine wpList_plain hg fun K' hK' => ?_
  obtain ⟨w', hrun, r1, r2⟩ := h.put c hc hn
  unfold Oper.wp
  rcases hop with hop | hop <;> (simp [execOp, hop, hm, hx, hv, hrun, Result.andThen]; exact hK' _ _ (hK w' r1 r2))
/-- a row of configurations that the call owns -/
def cfgsCells (l : List Cfg) : List Value := l.flatMap cfgCells
def OwnC (w : World) (base : Nat) (v : Value) (l : List Cfg) : Prop := w.ownsRow base 51 3 v l.length (cfgsCells l)
theorem cfgsCells_snoc (l : List Cfg) (c : Cfg) : cfgsCells (l ++ [c]) = cfgsCells l ++ cfgCells c := by simp [cfgsCells]
theorem cfgsCells_length (l : List Cfg) : (cfgsCells l).length = l.length * 3 := by
  induction l with
  | nil => rfl
  | cons a l ih => simp only [cfgsCells, List.flatMap_cons, List.length_append] at ih ⊢; rw [ih]; simp [cfgCells]; omega
theorem OwnC.last {w : World} {base : Nat} {v : Value} {l : List Cfg} {c : Cfg} (h : OwnC w base v (l ++ [c])) :
    ∃ g cap, v = .slice (some ⟨g, 0, none⟩) (l.length + 1) cap ∧ l.length + 1 ≤ cap ∧ cap ≤ 9223372036854775807 ∧ g < w.heap.size ∧ w.cell? ⟨g, l.length * 3, none⟩ = some (.int .i64 c.q) ∧ w.cell? ⟨g, l.length * 3 + 1, none⟩ = some (.int .i64 c.i) ∧ w.cell? ⟨g, l.length * 3 + 2, none⟩ = some (.int .i64 c.k) ∧
      OwnC w base (.slice (some ⟨g, 0, none⟩) l.length cap) l := by
  obtain ⟨h1, h2⟩ := h
  rcases h2 with ⟨_, h0⟩ | ⟨g, cap, cur, rfl, hg, hh, hnc, hcap, hsz, hx⟩
  · simp at h0
  · simp only [List.length_append, List.length_cons, List.length_nil, Nat.zero_add] at hnc hx ⊢
    have hcell : ∀ j, j < 3 → w.cell? ⟨g, l.length * 3 + j, none⟩ = (cfgCells c)[j]? := by
      intro j hj
      rw [cell_of_row w g _ cur _ (0, 0) hh]
      have e : (cfgsCells (l ++ [c]))[l.length * 3 + j]? = (cfgCells c)[j]? := by
        rw [cfgsCells_snoc, List.getElem?_append_right (by rw [cfgsCells_length]; omega), cfgsCells_length]
        congr 1; omega
      rw [← e, ← hx, List.getElem?_take, if_pos (by omega)]
      simp
    refine ⟨g, cap, rfl, hnc, hcap, (Array.getElem?_eq_some_iff.1 hh).1, hcell 0 (by omega), hcell 1 (by omega), hcell 2 (by omega), cfgsCells_length l, .inr ⟨g, cap, cur, rfl, hg, hh, by omega, hcap, hsz, ?_⟩⟩
    have e2 : (cfgsCells (l ++ [c])).take (l.length * 3) = cfgsCells l := by rw [cfgsCells_snoc, List.take_append_of_le_length (by rw [cfgsCells_length]; omega), List.take_of_length_le (by rw [cfgsCells_length]; omega)]
    rw [← e2, ← hx, List.take_take]
    congr 1; omega
end Go.Proofs.Ytmejihlplbeekaa
