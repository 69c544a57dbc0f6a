/-
  The part of older texts that this seat needs (printed by shake.py): Mem Reg Reg2 Reg3 Own RegR RB
-/
import Derived.Test.YtiopgbbggeimaaaGreatYS
import Derived.Test.YtiopgbbggeimaaaGreatRows
import Derived.WalkKit
import Derived.ProofKit
import Derived.OpenShut
import Derived.Deep.QuietTactic
import Derived.BigQuiet
import Derived.Deep.Draws
import Derived.Lib.Hide
import Derived.StillTailTactics
import Derived.Deep.RegionHeld3
import Derived.WalkSpells
import Derived.WalkLawsBesides
import Derived.Maps.AppendAt
import Derived.Deep.AppendLies
import Derived.Deep.LoopGhost
import Derived.Deep.DeepCutAuto
import Derived.Deep.DeepFit
import Derived.OrdersHeld
import Derived.StillTail
import Derived.KernelRfl
import Derived.Lib.AppendZeros
import Derived.Laws.OwnMore
import Derived.OrdersIn
import Derived.RangeFuncCalls
import Derived.RangeFuncNested
import Derived.RangeFuncBound
import Derived.RangeFuncLeaves
import Derived.Shelf.Abstract
import Derived.Shelf.RegionOpen
import Derived.OwnWalkIn
import Derived.TacticsInMore
import Derived.LoopNIn
import Derived.LoopIn
/-
  Words for memory: a slice that reads as a list of cells; what keeps it.
-/
namespace Go.Proofs.YtiopgbbggeimaaaGreat
open Go.ChangeShapes Go.WideShapes Go.ChangeAt Go.RowKit

/-- The slice value v reads in w as the cells xs, each element of `size` cells. -/
def Rd (w : World) (size : Nat) (v : Value) (n : Nat) (xs : List Value) : Prop :=
  ∃ (A : Option Addr) (c : Nat), v = .slice A n c ∧ n ≤ c ∧ c ≤ 9223372036854775807 ∧ xs.length = n * size ∧
    (0 < n → ∃ b off, A = some ⟨b, off, none⟩ ∧ b < w.heap.size ∧ ∀ j u, xs[j]? = some u → w.cell? ⟨b, off + j, none⟩ = some u)

theorem Rd.keep {w w' : World} {size n : Nat} {v : Value} {xs : List Value} (h : Rd w size v n xs) (hs : w.heap.size ≤ w'.heap.size)
    (hk : ∀ b o, b < w.heap.size → w'.cell? ⟨b, o, none⟩ = w.cell? ⟨b, o, none⟩) : Rd w' size v n xs := by
  obtain ⟨A, c, rfl, h1, h2, h3, h4⟩ := h
  refine ⟨A, c, rfl, h1, h2, h3, fun hn => ?_⟩
  obtain ⟨b, off, rfl, hb, hc⟩ := h4 hn
  exact ⟨b, off, rfl, by omega, fun j u hu => (hk _ _ hb).trans (hc j u hu)⟩
theorem Rd.below {w w' : World} {size n : Nat} {v : Value} {xs : List Value} (h : Rd w size v n xs) (hb : Below w.heap.size w w') : Rd w' size v n xs :=
  h.keep hb.size fun b o hl => hb.cell (p := ⟨b, o, none⟩) hl
theorem Rd.alloc {w : World} {size n : Nat} {v : Value} {xs : List Value} (h : Rd w size v n xs) (o : Obj) : Rd (w.alloc o) size v n xs :=
  h.below ((Below.refl _ _).alloc (Nat.le_refl _) _)
theorem Rd.drew {w : World} {size n : Nat} {v : Value} {xs : List Value} (h : Rd w size v n xs) : Rd w.drew size v n xs := h
theorem Rd.drewN {w : World} {size n : Nat} {v : Value} {xs : List Value} (h : Rd w size v n xs) (k : Nat) : Rd (w.drewN k) size v n xs := h
theorem Rd.own {w : World} {base : Nat} {e : TypeId} {size n : Nat} {v : Value} {xs : List Value} (h : w.ownsRow base e size v n xs) : Rd w size v n xs := by
  have h1 := h.1
  rcases h.2 with ⟨rfl, rfl⟩ | ⟨g, cap, cur, rfl, hg, hh, hnc, hcap, hsz, hx⟩
  · exact ⟨none, 0, rfl, Nat.le_refl _, by omega, h1, fun h => absurd h (Nat.lt_irrefl 0)⟩
  · refine ⟨_, cap, rfl, hnc, hcap, h1, fun hn => ⟨g, 0, rfl, (Array.getElem?_eq_some_iff.1 hh).1, fun j u hu => ?_⟩⟩
    rw [cell_of_row w g (0 + j) cur e (0, 0) hh]
    subst hx
    rw [List.getElem?_take] at hu
    split at hu
    · simpa using hu
    · cases hu

/-- a slice of ints -/
def RdI (w : World) (v : Value) (xs : List Int) : Prop := Rd w 1 v xs.length (xs.map (Value.int .i64))
theorem RdI.below {w w' : World} {v : Value} {xs : List Int} (h : RdI w v xs) (hb : Below w.heap.size w w') : RdI w' v xs := Rd.below h hb
/-- element k of a list of ints, in memory -/
def IAt (w : World) (A : Option Addr) (xs : List Int) (k : Nat) : Prop :=
  ∃ b off x, A = some ⟨b, off, none⟩ ∧ b < w.heap.size ∧ Hid (xs.drop k = x :: xs.drop (k + 1)) ∧ w.cell? ⟨b, off + k, none⟩ = some (.int .i64 x)
theorem RdI.op {w : World} {v : Value} {xs : List Int} (h : RdI w v xs) : ∃ (A : Option Addr) (n c : Nat), v = .slice A n c ∧ n ≤ c ∧ c ≤ 9223372036854775807 ∧ Hid (xs.length = n) ∧
    Hid (∀ k, k < n → IAt w A xs k) := by
  obtain ⟨A, c, rfl, h1, h2, h3, h4⟩ := h
  refine ⟨A, _, c, rfl, h1, h2, rfl, fun k hk => ?_⟩
  obtain ⟨b, off, rfl, hb, hc⟩ := h4 (by omega)
  exact ⟨b, off, xs[k], rfl, hb, List.drop_eq_getElem_cons hk, hc k _ (by simp [hk])⟩

/-- an arc, and a transducer, as plain data -/
structure PArc where
  fr : Int
  inp : Int
  out : Int
  tgt : Int

structure PFst where
  states : Int
  arcs : List PArc
  final : List Int
def arcCells (a : PArc) : List Value := [.int .i64 a.fr, .int .i64 a.inp, .int .i64 a.out, .int .i64 a.tgt]
def arcsCells (l : List PArc) : List Value := l.flatMap arcCells
theorem arcsCells_length (l : List PArc) : (arcsCells l).length = l.length * 4 := by
  induction l with
  | nil => rfl
  | cons a l ih => simp only [arcsCells, List.flatMap_cons, List.length_append] at ih ⊢; rw [ih]; simp [arcCells]; omega
theorem arcsCells_at (l : List PArc) (k : Nat) (h : k < l.length) (j : Nat) (hj : j < 4) : (arcsCells l)[k * 4 + j]? = (arcCells l[k])[j]? := by
  induction l generalizing k with
  | nil => simp at h
  | cons a l ih =>
    cases k with
    | zero => simp only [arcsCells, List.flatMap_cons]; rw [List.getElem?_append_left (by simp [arcCells]; omega)]; simp
    | succ k =>
      simp only [arcsCells, List.flatMap_cons]
      rw [List.getElem?_append_right (by simp [arcCells]; omega)]
      have e : (k + 1) * 4 + j - (arcCells a).length = k * 4 + j := by simp [arcCells]; omega
      rw [e]
      exact ih k (by simpa using h)
def RdA (w : World) (v : Value) (l : List PArc) : Prop := Rd w 4 v l.length (arcsCells l)
theorem RdA.below {w w' : World} {v : Value} {l : List PArc} (h : RdA w v l) (hb : Below w.heap.size w w') : RdA w' v l := Rd.below h hb
def AAt (w : World) (A : Option Addr) (l : List PArc) (k : Nat) : Prop :=
  ∃ b off x0 x1 x2 x3, A = some ⟨b, off, none⟩ ∧ b < w.heap.size ∧ Hid (l.drop k = ⟨x0, x1, x2, x3⟩ :: l.drop (k + 1)) ∧ w.cell? ⟨b, off + k * 4, none⟩ = some (.int .i64 x0) ∧
    w.cell? ⟨b, off + k * 4 + 1, none⟩ = some (.int .i64 x1) ∧ w.cell? ⟨b, off + k * 4 + 2, none⟩ = some (.int .i64 x2) ∧ w.cell? ⟨b, off + k * 4 + 3, none⟩ = some (.int .i64 x3)
theorem RdA.op {w : World} {v : Value} {l : List PArc} (h : RdA w v l) : ∃ (A : Option Addr) (n c : Nat), v = .slice A n c ∧ n ≤ c ∧ c ≤ 9223372036854775807 ∧ Hid (l.length = n) ∧
    Hid (∀ k, k < n → AAt w A l k) := by
  obtain ⟨A, c, rfl, h1, h2, h3, h4⟩ := h
  refine ⟨A, _, c, rfl, h1, h2, rfl, fun k hk => ?_⟩
  obtain ⟨b, off, rfl, hb, hc⟩ := h4 (by omega)
  refine ⟨b, off, l[k].fr, l[k].inp, l[k].out, l[k].tgt, rfl, hb, List.drop_eq_getElem_cons hk, ?_, ?_, ?_, ?_⟩
  · exact hc (k * 4 + 0) _ (arcsCells_at l k hk 0 (by omega))
  · exact hc (k * 4 + 1) _ (arcsCells_at l k hk 1 (by omega))
  · exact hc (k * 4 + 2) _ (arcsCells_at l k hk 2 (by omega))
  · exact hc (k * 4 + 3) _ (arcsCells_at l k hk 3 (by omega))
/-- a transducer in memory -/
def RdF (w : World) (v : Value) (F : PFst) : Prop := ∃ va vf, v = .agg #[.int .i64 F.states, va, vf] ∧ RdA w va F.arcs ∧ RdI w vf F.final
theorem RdF.below {w w' : World} {v : Value} {F : PFst} (h : RdF w v F) (hb : Below w.heap.size w w') : RdF w' v F := by
  obtain ⟨va, vf, rfl, h1, h2⟩ := h
  exact ⟨va, vf, rfl, h1.below hb, h2.below hb⟩
theorem below_of {w w' : World} {B : Nat} (hB : w.heap.size ≤ B) (h : Below B w w') : Below w.heap.size w w' := h.mono hB

theorem AAt.below {w w' : World} {A : Option Addr} {l : List PArc} {k : Nat} (h : AAt w A l k) (hb : Below w.heap.size w w') : AAt w' A l k := by
  obtain ⟨b, off, x0, x1, x2, x3, rfl, hl, hd, c0, c1, c2, c3⟩ := h
  exact ⟨b, off, x0, x1, x2, x3, rfl, by have := hb.size; omega, hd, (hb.cell hl).trans c0, (hb.cell hl).trans c1, (hb.cell hl).trans c2, (hb.cell hl).trans c3⟩
theorem IAt.below {w w' : World} {A : Option Addr} {l : List Int} {k : Nat} (h : IAt w A l k) (hb : Below w.heap.size w w') : IAt w' A l k := by
  obtain ⟨b, off, x, rfl, hl, hd, c0⟩ := h
  exact ⟨b, off, x, rfl, by have := hb.size; omega, hd, (hb.cell hl).trans c0⟩
theorem below_drewN {B : Nat} {a w : World} (h : Below B a w) (n : Nat) : Below B a (w.drewN n) := ⟨h.os, h.tape, h.output, h.size, h.block⟩
/-- what one call leaves, and then another -/
theorem bchain {a b c : World} (h : Below a.heap.size a b) (k : Below b.heap.size b c) : Below a.heap.size a c := h.trans (k.mono h.size)

theorem IAt.two {w : World} {A : Option Addr} {xs : List Int} {k : Nat} (h : IAt w A xs k) (h' : IAt w A xs (k + 1)) :
    ∃ b off x y, A = some ⟨b, off, none⟩ ∧ b < w.heap.size ∧ Hid (xs.drop k = x :: y :: xs.drop (k + 2)) ∧ w.cell? ⟨b, off + k, none⟩ = some (.int .i64 x) ∧ w.cell? ⟨b, off + (k + 1), none⟩ = some (.int .i64 y) := by
  obtain ⟨b, off, x, rfl, hl, hd, c0⟩ := h
  obtain ⟨b', off', y, e, hl', hd', c0'⟩ := h'
  cases e
  exact ⟨b, off, x, y, rfl, hl, hd.out.trans (by rw [hd'.out]), c0, c0'⟩

end Go.Proofs.YtiopgbbggeimaaaGreat

/-
  A region that draws its order: some operations only read ('head': they may be taken first, because what they read stays as it is till operation number n, which waits for all of them), the others come in one forced order ('tail').
-/
namespace Go
section
variable {P : Program} {ops : Array Oper} {Q : Exit → Act → World → Prop} {md : Region.Mode} {S : World → Prop}

theorem wanted_plain {o : Oper} (h : o.guard = none) (y : Nat → Option Bool) : Region.wanted o y = true := by simp [Region.wanted, h]

/-- whatever order is picked; an operation of U leaves the world as it is; S holds behind every other operation below number n -/
def wpAnyE (P : Program) (md : Region.Mode) (ops : Array Oper) (Q : Exit → Act → World → Prop) (S : World → Prop) (n : Nat) (U : List Nat) : Nat → Array Bool → Act → World → Prop
  | 0, listed, a, w => Region.ready md ops listed = [] ∧ Q .normal a w
  | fuel + 1, listed, a, w =>
    (Region.ready md ops listed = [] → Q .normal a w) ∧
    ∀ i ∈ Region.ready md ops listed, wpOp P ops Q i (fun a' w' => ((i ∈ U → w' = w) ∧ (i ∉ U → i < n → S w')) ∧ wpAnyE P md ops Q S n U fuel (listed.setIfInBounds i true) a' w') a w

theorem wpAny_of_E {n : Nat} {U : List Nat} : ∀ (fuel : Nat) (listed : Array Bool) (a : Act) (w : World), wpAnyE P md ops Q S n U fuel listed a w → wpAny P md ops Q fuel listed a w
  | 0, _, _, _, h => h
  | fuel + 1, _, _, _, h => ⟨h.1, fun i hi => wpOp_mono (fun a' w' h' => wpAny_of_E fuel _ a' w' h'.2) (h.2 i hi)⟩

def Region.sinkA (md : Region.Mode) (ops : Array Oper) (n : Nat) (A : List Nat) : Bool :=
  A.all fun i => decide (i < n) && (List.range (n + 1)).any fun j => decide (i < j) && ((decide (j = n) || A.contains j) && Region.waitsFor md ops j i)
theorem tail_waitsA {n : Nat} {A : List Nat} {listed : Array Bool} (hs : Region.sinkA md ops n A = true) (hc : Region.chainB md ops n = true) (inv : HeadInv md ops n listed) :
    ∀ (d i : Nat), n - i = d → i ∈ A → listed.getD i true = false → ∀ t, n ≤ t → t ∉ Region.ready md ops listed := by
  intro d
  induction d using Nat.strongRecOn with
  | _ d ih =>
    intro i hd hi hun t ht hr
    obtain ⟨_, ot, hot, hall⟩ := mem_ready.1 hr
    have htlt : t < ops.size := (Array.getElem?_eq_some_iff.1 hot).1
    have h0 := List.all_eq_true.1 hs i hi
    simp only [Bool.and_eq_true, decide_eq_true_eq] at h0
    by_cases htn : t = n
    · subst htn
      obtain ⟨j, hj, hj2⟩ := List.any_eq_true.1 h0.2
      simp only [Bool.and_eq_true, decide_eq_true_eq, Bool.or_eq_true] at hj2
      obtain ⟨hij, hjA, hjw⟩ := hj2
      obtain ⟨oj, hoj, e, he, hb, hon⟩ := Region.waitsFor_spec hjw
      by_cases hjt : j = t
      · subst hjt
        have : oj = ot := Option.some.inj (hoj.symm.trans hot)
        subst this
        have h2 := hall e he hb
        rw [hon, getD_both hun] at h2
        cases h2
      · have hjA' : j ∈ A := by
          rcases hjA with h | h
          · exact absurd h hjt
          · simpa using h
        cases hl : listed.getD j false with
        | true =>
          have h2 := inv.closed j oj hoj hl e he hb
          rw [hon, getD_both hun] at h2
          cases h2
        | false =>
          have hjs : j < listed.size := by rw [inv.size]; exact (Array.getElem?_eq_some_iff.1 hoj).1
          have hjn := (List.mem_range.1 hj)
          exact ih (t - j) (by omega) j rfl hjA' (getD_in hjs hl) t (Nat.le_refl _) hr
    · have h1 := List.all_eq_true.1 hc t (List.mem_range.2 htlt)
      simp only [Bool.or_eq_true, decide_eq_true_eq] at h1
      rcases h1 with h1 | h1
      · omega
      · obtain ⟨o', ho', e, he, hb, hon⟩ := Region.waitsFor_spec h1
        have : o' = ot := Option.some.inj (ho'.symm.trans hot)
        subst this
        have h2 := hall e he hb
        rw [hon, getD_both (inv.tail (t - 1) (by omega) (by omega))] at h2
        cases h2

theorem hfree_set {i j : Nat} {oi : Oper} {listed : Array Bool} (hjun : listed.getD j true = false)
    (hfree : ∀ j oj, ops[j]? = some oj → j ≠ i → listed.getD j true = false → (∀ e ∈ oj.after, Region.binds md e = true → e.on ≠ i) → oi.apart ops oj = true) :
    ∀ k ok, ops[k]? = some ok → k ≠ i → (listed.setIfInBounds j true).getD k true = false → (∀ e ∈ ok.after, Region.binds md e = true → e.on ≠ i) → oi.apart ops ok = true := fun k ok hk hki hun hno => by
  refine hfree k ok hk hki ?_ hno
  by_cases hjk : j = k
  · subst hjk; exact hjun
  · rw [getD_set_ne true hjk] at hun; exact hun
theorem wpAnyE_pure {n i : Nat} {U : List Nat} {oi : Oper} {v : Value} (hi : ops[i]? = some oi) (hsel : ∀ (j : Nat) (o : Oper) cs b, ops[j]? = some o → o.op ≠ .select cs b) (hU : i ∈ U)
    (hQ : ∀ c a w, Q (.panic c) (a.put oi.dst v) w → Q (.panic c) a w) :
    ∀ (fuel : Nat) (listed : Array Bool) (a : Act) (w : World),
      (∀ j oj, ops[j]? = some oj → j ≠ i → listed.getD j true = false → (∀ e ∈ oj.after, Region.binds md e = true → e.on ≠ i) → oi.apart ops oj = true) →
      i ∈ Region.ready md ops listed → YieldsIf P ops (fun _ => True) oi v a →
      wpAnyE P md ops Q S n U fuel (listed.setIfInBounds i true) (a.put oi.dst v) w → wpAnyE P md ops Q S n U (fuel + 1) listed a w := by
  intro fuel
  induction fuel with
  | zero =>
    intro listed a w _ hr hy H
    refine ⟨fun h => (by rw [h] at hr; cases hr), fun j hj => ?_⟩
    by_cases hji : j = i
    · subst hji; exact hy.wpOp hi trivial ⟨⟨fun _ => rfl, fun h => absurd hU h⟩, H⟩
    · have := ready_mono hj hji
      rw [H.1] at this
      cases this
  | succ fuel ih =>
    intro listed a w hfree hr hy H
    have hun := (mem_ready.1 hr).1
    refine ⟨fun h => (by rw [h] at hr; cases hr), fun j hj => ?_⟩
    by_cases hji : j = i
    · subst hji; exact hy.wpOp hi trivial ⟨⟨fun _ => rfl, fun h => absurd hU h⟩, H⟩
    · have h1 := H.2 j (ready_mono hj hji)
      obtain ⟨hjun, oj, hoj, hall⟩ := mem_ready.1 hj
      have hnot : ∀ e ∈ oj.after, Region.binds md e = true → e.on ≠ i := fun e he hb heq => by
        have h1 := hall e he hb
        rw [heq, getD_both hun] at h1
        cases h1
      have h2 := wpOp_putIf hoj (hfree j oj hoj hji hjun hnot) (fun cs b => hsel i oi cs b hi) (fun cs b => hsel j oj cs b hoj) hQ hy h1
      refine wpOp_mono (fun a' w' h3 => ⟨h3.2.1, ih (listed.setIfInBounds j true) a' w' (hfree_set hjun hfree) (ready_mono hr (Ne.symm hji)) h3.1 ?_⟩) h2
      rw [Array.setIfInBounds_comm _ _ hji]
      exact h3.2.2
theorem wpAnyE_first {n i : Nat} {A U : List Nat} {oi : Oper} {v : Value} (hi : ops[i]? = some oi) (hsel : ∀ (j : Nat) (o : Oper) cs b, ops[j]? = some o → o.op ≠ .select cs b)
    (hs : Region.sinkA md ops n A = true) (hc : Region.chainB md ops n = true) (hiA : i ∈ A)
    (hQ : ∀ c a w, Q (.panic c) (a.put oi.dst v) w → Q (.panic c) a w) :
    ∀ (fuel : Nat) (listed : Array Bool) (a : Act) (w : World), HeadInv md ops n listed →
      (∀ j oj, ops[j]? = some oj → j ≠ i → listed.getD j true = false → (∀ e ∈ oj.after, Region.binds md e = true → e.on ≠ i) → oi.apart ops oj = true) →
      i ∈ Region.ready md ops listed → YieldsIf P ops S oi v a → S w →
      wpAnyE P md ops Q S n U fuel (listed.setIfInBounds i true) (a.put oi.dst v) w → wpAnyE P md ops Q S n U (fuel + 1) listed a w := by
  intro fuel
  induction fuel with
  | zero =>
    intro listed a w _ _ hr hy hS H
    refine ⟨fun h => (by rw [h] at hr; cases hr), fun j hj => ?_⟩
    by_cases hji : j = i
    · subst hji; exact hy.wpOp hi hS ⟨⟨fun _ => rfl, fun _ _ => hS⟩, H⟩
    · have := ready_mono hj hji
      rw [H.1] at this
      cases this
  | succ fuel ih =>
    intro listed a w inv hfree hr hy hS H
    have hun := (mem_ready.1 hr).1
    refine ⟨fun h => (by rw [h] at hr; cases hr), fun j hj => ?_⟩
    have hjn : j < n := by
      rcases Nat.lt_or_ge j n with h | h
      · exact h
      · exact absurd hj (tail_waitsA hs hc inv _ i rfl hiA hun j h)
    by_cases hji : j = i
    · subst hji; exact hy.wpOp hi hS ⟨⟨fun _ => rfl, fun _ _ => hS⟩, H⟩
    · have h1 := H.2 j (ready_mono hj hji)
      obtain ⟨hjun, oj, hoj, hall⟩ := mem_ready.1 hj
      have hnot : ∀ e ∈ oj.after, Region.binds md e = true → e.on ≠ i := fun e he hb heq => by
        have h1 := hall e he hb
        rw [heq, getD_both hun] at h1
        cases h1
      have h2 := wpOp_putIf hoj (hfree j oj hoj hji hjun hnot) (fun cs b => hsel i oi cs b hi) (fun cs b => hsel j oj cs b hoj) hQ hy h1
      have hSw : ∀ w' : World, ((j ∈ U → w' = w) ∧ (j ∉ U → j < n → S w')) → S w' := fun w' h => by
        by_cases hjU : j ∈ U
        · rw [h.1 hjU]; exact hS
        · exact h.2 hjU hjn
      refine wpOp_mono (fun a' w' h3 => ⟨h3.2.1, ih (listed.setIfInBounds j true) a' w' (inv.set hj hjn) (hfree_set hjun hfree) (ready_mono hr (Ne.symm hji)) h3.1 (hSw w' h3.2.1) ?_⟩) h2
      rw [Array.setIfInBounds_comm _ _ hji]
      exact h3.2.2

/-- the operations of the head, taken one by one -/
def wpHead (P : Program) (ops : Array Oper) (S : World → Prop) (A : List Nat) (K : Act → World → Prop) : List Nat → Act → World → Prop
  | [], a, w => K a w
  | i :: r, a, w => ∃ o v, ops[i]? = some o ∧ YieldsIf P ops (fun w' => A.contains i = true → S w') o v a ∧ wpHead P ops S A K r (a.put o.dst v) w
/-- the operations of the tail, one by one; S is shown anew behind each below number n -/
def wpTail (P : Program) (ops : Array Oper) (Q : Exit → Act → World → Prop) (S : World → Prop) (n : Nat) : List Nat → Act → World → Prop
  | [], a, w => Q .normal a w
  | i :: r, a, w => wpOp P ops Q i (fun a' w' => (i < n → S w') ∧ wpTail P ops Q S n r a' w') a w
def Region.tailB (md : Region.Mode) (ops : Array Oper) (U : List Nat) : Array Bool → List Nat → Bool
  | listed, [] => (Region.ready md ops listed).isEmpty
  | listed, t :: r => decide (Region.ready md ops listed = [t]) && (!U.contains t && Region.tailB md ops U (listed.setIfInBounds t true) r)
def Region.headB (md : Region.Mode) (ops : Array Oper) (n : Nat) (A U T : List Nat) : Array Bool → List Nat → Bool
  | listed, [] => Region.tailB md ops U listed T
  | listed, i :: r => (Region.ready md ops listed).contains i && (decide (i < n) && ((A.contains i || U.contains i) && (Region.free md ops listed i && Region.headB md ops n A U T (listed.setIfInBounds i true) r)))
def Region.ordB (md : Region.Mode) (ops : Array Oper) (n : Nat) (A U H T : List Nat) : Bool :=
  Region.noSelect ops && (decide (H.length + T.length = ops.size) && (Region.sinkA md ops n A && (Region.chainB md ops n && Region.headB md ops n A U T (Array.replicate ops.size false) H)))

theorem wpAnyE_tail {n : Nat} {U : List Nat} : ∀ (T : List Nat) (listed : Array Bool) (a : Act) (w : World), Region.tailB md ops U listed T = true → wpTail P ops Q S n T a w → wpAnyE P md ops Q S n U T.length listed a w
  | [], listed, a, w, hB, h => ⟨by simpa [Region.tailB] using hB, h⟩
  | t :: T, listed, a, w, hB, h => by
    simp only [Region.tailB, Bool.and_eq_true, decide_eq_true_eq] at hB
    refine ⟨fun h0 => (by rw [hB.1] at h0; cases h0), fun i hi => ?_⟩
    rw [hB.1] at hi
    have hit : i = t := by simpa using hi
    subst hit
    have hiU : i ∉ U := by simpa using hB.2.1
    exact wpOp_mono (fun a' w' h' => ⟨⟨fun h => absurd h hiU, fun _ => h'.1⟩, wpAnyE_tail T _ a' w' hB.2.2 h'.2⟩) h
theorem YieldsIf.weaken {S S' : World → Prop} {o : Oper} {v : Value} {a : Act} (h : YieldsIf P ops S o v a) (hS : ∀ w, S' w → S w) : YieldsIf P ops S' o v a :=
  h.imp (fun ⟨h1, h2⟩ => ⟨h1, fun w hw => h2 w (hS w hw)⟩) id
theorem wpAnyE_head {n : Nat} {A U T : List Nat} (hsel : Region.noSelect ops = true) (hs : Region.sinkA md ops n A = true) (hc : Region.chainB md ops n = true)
    (hQ : ∀ c a d v w, Q (.panic c) (Act.put a d v) w → Q (.panic c) a w) : ∀ (H : List Nat) (listed : Array Bool) (a : Act) (w : World), HeadInv md ops n listed → Region.headB md ops n A U T listed H = true → S w →
      wpHead P ops S A (wpTail P ops Q S n T) H a w → wpAnyE P md ops Q S n U (H.length + T.length) listed a w
  | [], listed, a, w, _, hB, _, h => by
    simp only [List.length_nil, Nat.zero_add]
    exact wpAnyE_tail T listed a w hB h
  | i :: H, listed, a, w, inv, hB, hS, h => by
    simp only [Region.headB, Bool.and_eq_true, decide_eq_true_eq] at hB
    obtain ⟨h1, h2, hAU, h3, h4⟩ := hB
    obtain ⟨o, v, ho, hy, hr⟩ := h
    have hrd : i ∈ Region.ready md ops listed := by simpa using h1
    rw [show (i :: H).length + T.length = (H.length + T.length) + 1 by simp; omega]
    have hrec := wpAnyE_head hsel hs hc hQ H _ _ w (inv.set hrd h2) h4 hS hr
    cases hA : A.contains i with
    | true =>
      exact wpAnyE_first ho (Region.noSelect_spec hsel) hs hc (by simpa using hA) (fun c a w h => hQ c a _ _ w h) _ listed a w inv (Region.free_spec ho h3) hrd (hy.weaken fun w hw _ => hw) hS hrec
    | false =>
      have hU : i ∈ U := by rw [hA] at hAU; simpa using hAU
      exact wpAnyE_pure ho (Region.noSelect_spec hsel) hU (fun c a w h => hQ c a _ _ w h) _ listed a w (Region.free_spec ho h3) hrd (hy.weaken fun w _ h => absurd h (by rw [hA]; simp)) hrec
/-- A region by its head and its tail; it is shown not to panic. -/
theorem wp_region_ord {id : Nat} {a : Act} {w : World} (n : Nat) (A U H T : List Nat) (S : World → Prop) (hm : P.follows .mixedOrders = true) (hB : Region.ordB .any ops n A U H T = true)
    (h : ∀ D : World, D = w.drew → S D ∧ wpHead P ops S A (wpTail P ops (NoPanic Q) S n T) H a D) : (Code.region id ops true).wp P Q a w := by
  obtain ⟨hS, h⟩ := h _ rfl
  simp only [Region.ordB, Bool.and_eq_true, decide_eq_true_eq] at hB
  obtain ⟨h1, h3, h4, h5, h6⟩ := hB
  refine wp_region_noPanic (wp_region_any hm ?_)
  have inv0 : HeadInv .any ops n (Array.replicate ops.size false) :=
    ⟨by simp, fun j oj _ hl => (by rw [getD_replicate_false] at hl; cases hl), fun t _ ht => getD_in (by simpa using ht) (getD_replicate_false _ _)⟩
  have := wpAnyE_head h1 h4 h5 (fun _ _ _ _ _ h => h) H _ a w.drew inv0 h6 hS h
  rw [h3] at this
  exact wpAny_of_E _ _ _ _ this

theorem wpHead_nil {A : List Nat} {K : Act → World → Prop} {a : Act} {w : World} (h : K a w) : wpHead P ops S A K [] a w := h
theorem wpHead_cons {l : List Oper} {A : List Nat} {K : Act → World → Prop} {a : Act} {w : World} {i : Nat} {r : List Nat} {o : Oper} {v : Value} (hi : l[i]? = some o) (hg : o.guard = none)
    (hy : ∀ w', (A.contains i = true → S w') → (execOp a.eval o).run P w' = .ok (.value v) w') (h : wpHead P l.toArray S A K r (a.put o.dst v) w) : wpHead P l.toArray S A K (i :: r) a w :=
  ⟨o, v, by simpa using hi, .inl ⟨wanted_plain hg _, hy⟩, h⟩
theorem wpTail_nil {n : Nat} {a : Act} {w : World} (h : Q .normal a w) : wpTail P ops Q S n [] a w := h
theorem wpTail_cons {l : List Oper} {n : Nat} {a : Act} {w : World} {i : Nat} {r : List Nat} {o : Oper} (hi : l[i]? = some o) (hg : o.guard = none)
    (h : ∀ K : Act → World → Prop, RowKit.Hid (∀ a' w', (i < n → S w') → wpTail P l.toArray Q S n r a' w' → K a' w') → o.wp P a w K Q) : wpTail P l.toArray Q S n (i :: r) a w := by
  show wpOp P l.toArray Q i _ a w
  unfold wpOp
  have hi : l.toArray[i]? = some o := by simpa using hi
  simp only [hi, wanted_plain hg, if_true]
  exact .inl (h _ (fun a' w' h1 h2 => ⟨h1, h2⟩))
theorem wpTail_list {l : List Oper} {n : Nat} : ∀ (m k : Nat) (a : Act) (w : World), n ≤ k → k + m = l.length → wpList P l.toArray Q (l.drop k) a w → wpTail P l.toArray Q S n (List.range' k m) a w
  | 0, k, a, w, _, hk, h => by
    rw [List.drop_of_length_le (by omega)] at h
    exact h
  | m + 1, k, a, w, hn, hk, h => by
    have hlt : k < l.length := by omega
    rw [List.drop_eq_getElem_cons hlt] at h
    rw [List.range'_succ]
    show wpOp P l.toArray Q k _ a w
    unfold wpList at h
    unfold wpOp
    have ho : l.toArray[k]? = some l[k] := by simp [hlt]
    simp only [ho]
    by_cases hw : Region.wanted l[k] (yielded l.toArray a.tmps) = true
    · rw [if_pos hw] at h ⊢
      exact h.imp (Oper.wp_mono fun a' w' h' => ⟨fun hc => absurd hc (by omega), wpTail_list m (k + 1) a' w' (by omega) (by omega) h'⟩) id
    · rw [if_neg hw] at h ⊢
      exact ⟨fun hc => absurd hc (by omega), wpTail_list m (k + 1) _ w (by omega) (by omega) h⟩
/-- behind the head and the tail's first part: a plain walk -/
theorem wpTail_rest {l : List Oper} {n : Nat} (k : Nat) {T : List Nat} {a : Act} {w : World} (hT : (decide (n ≤ k) && decide (k ≤ l.length) && T == List.range' k (l.length - k)) = true) (h : wpList P l.toArray Q (l.drop k) a w) : wpTail P l.toArray Q S n T a w := by
  simp only [Bool.and_eq_true, decide_eq_true_eq, beq_iff_eq] at hT
  rw [hT.2]
  exact wpTail_list _ k a w hT.1.1 (by have := hT.1.2; omega) h
end
end Go

/-
  A region that draws its order, with guards: steps that only read (taken as soon as they may come up) and steps that come in one forced order, mixed.
-/
namespace Go
section
variable {P : Program} {ops : Array Oper} {Q : Exit → Act → World → Prop} {md : Region.Mode} {S : World → Prop}
def wpMix (P : Program) (ops : Array Oper) (Q : Exit → Act → World → Prop) (S : World → Prop) (n : Nat) (A : List Nat) : List (Bool × Nat) → Act → World → Prop
  | [], a, w => Q .normal a w
  | (true, i) :: r, a, w => ∃ o v, ops[i]? = some o ∧ YieldsIf P ops (fun w' => A.contains i = true → S w') o v a ∧ wpMix P ops Q S n A r (a.put o.dst v) w
  | (false, i) :: r, a, w => wpOp P ops Q i (fun a' w' => (i < n → S w') ∧ wpMix P ops Q S n A r a' w') a w
def Region.mixB (md : Region.Mode) (ops : Array Oper) (n : Nat) (A U : List Nat) : Array Bool → List (Bool × Nat) → Bool
  | listed, [] => (Region.ready md ops listed).isEmpty
  | listed, (true, i) :: r => (Region.ready md ops listed).contains i && (decide (i < n) && ((A.contains i || U.contains i) && (Region.free md ops listed i && Region.mixB md ops n A U (listed.setIfInBounds i true) r)))
  | listed, (false, i) :: r => decide (Region.ready md ops listed = [i]) && (!U.contains i && ((decide (i < n) || r.all (fun p => !p.1)) && Region.mixB md ops n A U (listed.setIfInBounds i true) r))
def Region.mixOk (md : Region.Mode) (ops : Array Oper) (n : Nat) (A U : List Nat) (L : List (Bool × Nat)) : Bool :=
  Region.noSelect ops && (decide (L.length = ops.size) && (Region.sinkA md ops n A && (Region.chainB md ops n && Region.mixB md ops n A U (Array.replicate ops.size false) L)))
theorem wpAnyE_mix {n : Nat} {A U : List Nat} (hsel : Region.noSelect ops = true) (hs : Region.sinkA md ops n A = true) (hc : Region.chainB md ops n = true)
    (hQ : ∀ c a d v w, Q (.panic c) (Act.put a d v) w → Q (.panic c) a w) : ∀ (L : List (Bool × Nat)) (listed : Array Bool) (a : Act) (w : World), Region.mixB md ops n A U listed L = true →
      ((HeadInv md ops n listed ∧ S w) ∨ L.all (fun p => !p.1) = true) → wpMix P ops Q S n A L a w → wpAnyE P md ops Q S n U L.length listed a w
  | [], listed, a, w, hB, _, h => ⟨by simpa [Region.mixB] using hB, h⟩
  | (true, i) :: L, listed, a, w, hB, hI, h => by
    rcases hI with ⟨inv, hS⟩ | hI
    · simp only [Region.mixB, Bool.and_eq_true, decide_eq_true_eq] at hB
      obtain ⟨h1, h2, hAU, h3, h4⟩ := hB
      obtain ⟨o, v, ho, hy, hr⟩ := h
      have hrd : i ∈ Region.ready md ops listed := by simpa using h1
      have hrec := wpAnyE_mix hsel hs hc hQ L _ _ w h4 (.inl ⟨inv.set hrd h2, hS⟩) hr
      cases hA : A.contains i with
      | true =>
        exact wpAnyE_first ho (Region.noSelect_spec hsel) hs hc (by simpa using hA) (fun c a w h => hQ c a _ _ w h) _ listed a w inv (Region.free_spec ho h3) hrd (hy.weaken fun w hw _ => hw) hS hrec
      | false =>
        have hU : i ∈ U := by rw [hA] at hAU; simpa using hAU
        exact wpAnyE_pure ho (Region.noSelect_spec hsel) hU (fun c a w h => hQ c a _ _ w h) _ listed a w (Region.free_spec ho h3) hrd (hy.weaken fun w _ h => absurd h (by rw [hA]; simp)) hrec
    · simp at hI
  | (false, t) :: L, listed, a, w, hB, hI, h => by
    simp only [Region.mixB, Bool.and_eq_true, decide_eq_true_eq, Bool.or_eq_true] at hB
    obtain ⟨h1, h2, h3, h4⟩ := hB
    have hrd : t ∈ Region.ready md ops listed := by rw [h1]; simp
    refine ⟨fun h0 => (by rw [h1] at h0; cases h0), fun i hi => ?_⟩
    rw [h1] at hi
    have hit : i = t := by simpa using hi
    subst hit
    have hiU : i ∉ U := by simpa using h2
    refine wpOp_mono (fun a' w' h' => ⟨⟨fun h => absurd h hiU, fun _ => h'.1⟩, wpAnyE_mix hsel hs hc hQ L _ a' w' h4 ?_ h'.2⟩) h
    rcases hI with ⟨inv, _⟩ | hI
    · by_cases hin : i < n
      · exact .inl ⟨inv.set hrd hin, h'.1 hin⟩
      · rcases h3 with h3 | h3
        · exact absurd h3 hin
        · exact .inr h3
    · simp only [List.all_cons, Bool.and_eq_true] at hI
      exact .inr hI.2
/-- A region by its mixed steps; it is shown not to panic. -/
theorem wp_region_mix {id : Nat} {a : Act} {w : World} (n : Nat) (A U : List Nat) (L : List (Bool × Nat)) (S : World → Prop) (hm : P.follows .mixedOrders = true) (hB : Region.mixOk .any ops n A U L = true)
    (h : ∀ D : World, D = w.drew → S D ∧ wpMix P ops (NoPanic Q) S n A L a D) : (Code.region id ops true).wp P Q a w := by
  obtain ⟨hS, h⟩ := h _ rfl
  simp only [Region.mixOk, Bool.and_eq_true, decide_eq_true_eq] at hB
  obtain ⟨h1, h3, h4, h5, h6⟩ := hB
  refine wp_region_noPanic (wp_region_any hm ?_)
  have inv0 : HeadInv .any ops n (Array.replicate ops.size false) :=
    ⟨by simp, fun j oj _ hl => (by rw [getD_replicate_false] at hl; cases hl), fun t _ ht => getD_in (by simpa using ht) (getD_replicate_false _ _)⟩
  have := wpAnyE_mix h1 h4 h5 (fun _ _ _ _ _ h => h) L _ a w.drew h6 (.inl ⟨inv0, hS⟩) h
  rw [h3] at this
  exact wpAny_of_E _ _ _ _ this
section
variable {l : List Oper} {A : List Nat} {a : Act} {w : World} {i n : Nat} {r : List (Bool × Nat)} {o : Oper} {v : Value}
theorem wpMix_nil (h : Q .normal a w) : wpMix P ops Q S n A [] a w := h
theorem wpMix_q (hi : l[i]? = some o) (hw : Region.wanted o (yielded l.toArray a.tmps) = true)
    (hy : ∀ w', (A.contains i = true → S w') → (execOp a.eval o).run P w' = .ok (.value v) w') (h : wpMix P l.toArray Q S n A r (a.put o.dst v) w) : wpMix P l.toArray Q S n A ((true, i) :: r) a w :=
  ⟨o, v, by simpa using hi, .inl ⟨hw, hy⟩, h⟩
theorem wpMix_qskip (hi : l[i]? = some o) (hw : Region.wanted o (yielded l.toArray a.tmps) = false)
    (h : wpMix P l.toArray Q S n A r (a.put o.dst undef) w) : wpMix P l.toArray Q S n A ((true, i) :: r) a w :=
  ⟨o, undef, by simpa using hi, .inr ⟨hw, rfl⟩, h⟩
theorem wpMix_e (hi : l[i]? = some o) (hw : Region.wanted o (yielded l.toArray a.tmps) = true)
    (h : ∀ K : Act → World → Prop, RowKit.Hid (∀ a' w', (i < n → S w') → wpMix P l.toArray Q S n A r a' w' → K a' w') → o.wp P a w K Q) : wpMix P l.toArray Q S n A ((false, i) :: r) a w := by
  show wpOp P l.toArray Q i _ a w
  unfold wpOp
  have hi : l.toArray[i]? = some o := by simpa using hi
  simp only [hi, hw, if_true]
  exact .inl (h _ (fun a' w' h1 h2 => ⟨h1, h2⟩))
theorem wpMix_eskip (hi : l[i]? = some o) (hw : Region.wanted o (yielded l.toArray a.tmps) = false) (hS : S w)
    (h : wpMix P l.toArray Q S n A r (a.put o.dst undef) w) : wpMix P l.toArray Q S n A ((false, i) :: r) a w := by
  show wpOp P l.toArray Q i _ a w
  unfold wpOp
  have hi : l.toArray[i]? = some o := by simpa using hi
  simp only [hi, hw, Bool.false_eq_true, if_false]
  exact ⟨fun _ => hS, h⟩
end
end
end Go

/-
  A region that draws its order, step by step: what only reads is taken first; where several others may come up, each is walked.
-/
namespace Go
section
variable {P : Program} {l : List Oper} {Q : Exit → Act → World → Prop} {S : World → Prop} {n f : Nat} {A U : List Nat} {listed : Array Bool} {a : Act} {w : World}
def wpE (P : Program) (l : List Oper) (Q : Exit → Act → World → Prop) (S : World → Prop) (n : Nat) (A U : List Nat) (f : Nat) (listed : Array Bool) (a : Act) (w : World) : Prop :=
  (HeadInv .any l.toArray n listed ∧ Region.noSelect l.toArray = true ∧ Region.sinkA .any l.toArray n A = true ∧ Region.chainB .any l.toArray n = true) → (∀ c a d v w, Q (.panic c) (Act.put a d v) w → Q (.panic c) a w) → wpAnyE P .any l.toArray Q S n U f listed a w
def Region.qB (l : List Oper) (n : Nat) (A U : List Nat) (listed : Array Bool) (i : Nat) : Bool :=
  (Region.ready .any l.toArray listed).contains i && (decide (i < n) && ((A.contains i || U.contains i) && Region.free .any l.toArray listed i))
def Region.startB (l : List Oper) (N n : Nat) (A : List Nat) : Bool :=
  Region.noSelect l.toArray && (decide (l.toArray.size = N) && (Region.sinkA .any l.toArray n A && Region.chainB .any l.toArray n))
theorem wp_region_steps {id : Nat} (N n : Nat) (A U : List Nat) (S : World → Prop) (hm : P.follows .mixedOrders = true) (hB : Region.startB l N n A = true)
    (h : ∀ D : World, D = w.drew → wpE P l (NoPanic Q) S n A U N (Array.replicate N false) a D) : (Code.region id l.toArray true).wp P Q a w := by
  simp only [Region.startB, Bool.and_eq_true, decide_eq_true_eq] at hB
  obtain ⟨h1, h3, h4, h5⟩ := hB
  subst h3
  refine wp_region_noPanic (wp_region_any hm ?_)
  have inv0 : HeadInv .any l.toArray n (Array.replicate l.toArray.size false) :=
    ⟨by simp, fun j oj _ hl => (by rw [getD_replicate_false] at hl; cases hl), fun t _ ht => getD_in (by simpa using ht) (getD_replicate_false _ _)⟩
  exact wpAny_of_E _ _ _ _ (h _ rfl ⟨inv0, h1, h4, h5⟩ (fun _ _ _ _ _ h => h))
theorem wpE_take (i : Nat) {o : Oper} {v : Value} (hq : Region.qB l n A U listed i = true) (hi : l[i]? = some o) (hw : Region.wanted o (yielded l.toArray a.tmps) = true) (hS : S w)
    (hy : ∀ w', (A.contains i = true → S w') → (execOp a.eval o).run P w' = .ok (.value v) w') (h : wpE P l Q S n A U f (listed.setIfInBounds i true) (a.put o.dst v) w) : wpE P l Q S n A U (f + 1) listed a w := by
  intro ⟨inv, h1, h4, h5⟩ hQ
  simp only [Region.qB, Bool.and_eq_true, decide_eq_true_eq] at hq
  obtain ⟨q1, q2, q3, q4⟩ := hq
  have hrd : i ∈ Region.ready .any l.toArray listed := by simpa using q1
  have ho : l.toArray[i]? = some o := by simpa using hi
  have hrec := h ⟨inv.set hrd q2, h1, h4, h5⟩ hQ
  have hyy : YieldsIf P l.toArray (fun w' => A.contains i = true → S w') o v a := .inl ⟨hw, hy⟩
  cases hA : A.contains i with
  | true => exact wpAnyE_first ho (Region.noSelect_spec h1) h4 h5 (by simpa using hA) (fun c a w h => hQ c a _ _ w h) _ listed a w inv (Region.free_spec ho q4) hrd (hyy.weaken fun w hw _ => hw) hS hrec
  | false =>
    have hU : i ∈ U := by rw [hA] at q3; simpa using q3
    exact wpAnyE_pure ho (Region.noSelect_spec h1) hU (fun c a w h => hQ c a _ _ w h) _ listed a w (Region.free_spec ho q4) hrd (hyy.weaken fun w _ h => absurd h (by rw [hA]; simp)) hrec
def Region.brB (l : List Oper) (n : Nat) (U : List Nat) (listed : Array Bool) (rs : List Nat) : Bool :=
  decide (Region.ready .any l.toArray listed = rs) && (!rs.isEmpty && rs.all fun i => decide (i < n) && !U.contains i)
def AllE (P : Program) (l : List Oper) (Q : Exit → Act → World → Prop) (S : World → Prop) (n : Nat) (A U : List Nat) (f : Nat) (listed : Array Bool) (a : Act) (w : World) (rs : List Nat) : Prop :=
  ∀ i ∈ rs, wpOp P l.toArray Q i (fun a' w' => S w' ∧ wpE P l Q S n A U f (listed.setIfInBounds i true) a' w') a w
theorem wpE_br (rs : List Nat) (hr : Region.brB l n U listed rs = true) (h : AllE P l Q S n A U f listed a w rs) : wpE P l Q S n A U (f + 1) listed a w := by
  intro ⟨inv, h1, h4, h5⟩ hQ
  simp only [Region.brB, Bool.and_eq_true, decide_eq_true_eq] at hr
  obtain ⟨r1, r2, r3⟩ := hr
  have hne : rs ≠ [] := by intro he; simp [he] at r2
  refine ⟨fun h0 => absurd (r1 ▸ h0) hne, fun i hi => ?_⟩
  have hi' : i ∈ rs := r1 ▸ hi
  have h3 := List.all_eq_true.1 r3 i hi'
  simp only [Bool.and_eq_true, decide_eq_true_eq] at h3
  have hU : i ∉ U := by simpa using h3.2
  exact wpOp_mono (fun a' w' h' => ⟨⟨fun hc => absurd hc hU, fun _ _ => h'.1⟩, h'.2 ⟨inv.set hi h3.1, h1, h4, h5⟩ hQ⟩) (h i hi')
theorem AllE.nil : AllE P l Q S n A U f listed a w [] := fun _ h => by cases h
theorem AllE.cons {i : Nat} {rs : List Nat} {o : Oper} (hi : l[i]? = some o) (hw : Region.wanted o (yielded l.toArray a.tmps) = true)
    (h : ∀ K : Act → World → Prop, RowKit.Hid (∀ a' w', S w' → wpE P l Q S n A U f (listed.setIfInBounds i true) a' w' → K a' w') → o.wp P a w K Q) (hs : AllE P l Q S n A U f listed a w rs) : AllE P l Q S n A U f listed a w (i :: rs) := by
  intro j hj
  rcases List.mem_cons.1 hj with rfl | hj
  · unfold wpOp
    have hi : l.toArray[j]? = some o := by simpa using hi
    simp only [hi, hw, if_true]
    exact .inl (h _ (fun a' w' h1 h2 => ⟨h1, h2⟩))
  · exact hs j hj
/-- the rest, in one forced order -/
theorem wpE_rest (k : Nat) (hT : (decide (n ≤ k) && (decide (k + f = l.length) && Region.tailB .any l.toArray U listed (List.range' k f))) = true) (h : wpList P l.toArray Q (l.drop k) a w) : wpE P l Q S n A U f listed a w := by
  intro _ _
  simp only [Bool.and_eq_true, decide_eq_true_eq] at hT
  have h1 := wpTail_list (S := S) (n := n) f k a w hT.1 hT.2.1 h
  have h2 := wpAnyE_tail (md := .any) (U := U) _ listed a w hT.2.2 h1
  rwa [List.length_range'] at h2
end
end Go

/-
  Rows of the call's own: ints, bools; appending.
-/
namespace Go.Proofs.YtiopgbbggeimaaaGreat
open Go.ChangeShapes Go.WideShapes Go.ChangeAt Go.RowKit
theorem infoI0 : (Tryz.prog.info? 3).map (fun i => (i.zero, i.size, i.bytes)) = some (some (.int .i64 0), 1, 8) := by kernel_rfl
def OwnI (w : World) (base : Nat) (v : Value) (l : List Int) : Prop := w.ownsRow base 3 1 v l.length (l.map (Value.int .i64))
theorem OwnI.rd {w : World} {base : Nat} {v : Value} {l : List Int} (h : OwnI w base v l) : RdI w v l := Rd.own h

section
variable {w w1 : World} {base : Nat}
theorem row_type {size n : Nat} {e : TypeId} {v : Value} {xs : List Value} (h : w.ownsRow base e size v n xs) {k : Nat} (hk : v.ownBlock = some k) : ∃ cs, w.heap[k]? = some (.cells cs e (0, 0)) := by
  rcases h.2 with ⟨rfl, _⟩ | ⟨g, cap, cur, rfl, _, hh, _⟩
  · simp [Value.ownBlock] at hk
  · simp [Value.ownBlock] at hk; subst hk; exact ⟨cur, hh⟩
theorem ne_of_type {k k' : Nat} {cs cs' : Array Value} {t t' : TypeId} {m m' : Nat × Nat} (h : w.heap[k]? = some (.cells cs t m)) (h' : w.heap[k']? = some (.cells cs' t' m')) (hne : t ≠ t') : k ≠ k' := by
  rintro rfl
  rw [h] at h'
  cases h'
  exact hne rfl
theorem own_setCell {size n : Nat} {e : TypeId} {v : Value} {xs : List Value} (h : w.ownsRow base e size v n xs) {B : Nat} (hB : v.ownBlock ≠ some B) (j : Nat) (u : Value) : (w.setCell ⟨B, j, none⟩ u).ownsRow base e size v n xs := by
  refine ⟨h.1, ?_⟩
  rcases h.2 with hn | ⟨g, cap, cur, rfl, hb, hg, rest⟩
  · exact .inl hn
  · exact .inr ⟨g, cap, cur, rfl, hb, (Below.heap_setCell w ⟨B, j, none⟩ u g (by simp [Value.ownBlock] at hB; simpa using hB)).trans hg, rest⟩
theorem own_below {size n : Nat} {e : TypeId} {v : Value} {xs : List Value} (h : w.ownsRow base e size v n xs) (hb : Below w.heap.size w w1) : w1.ownsRow base e size v n xs := by
  refine ⟨h.1, ?_⟩
  rcases h.2 with hn | ⟨g, cap, cur, rfl, hb2, hg, rest⟩
  · exact .inl hn
  · exact .inr ⟨g, cap, cur, rfl, hb2, (hb.block g (Array.getElem?_eq_some_iff.1 hg).1).trans hg, rest⟩
end
theorem own_base {w : World} {base base' size n : Nat} {e : TypeId} {v : Value} {xs : List Value} (h : w.ownsRow base e size v n xs) (hb : base' ≤ base) : w.ownsRow base' e size v n xs :=
  ⟨h.1, h.2.imp id fun ⟨g, cap, cur, h1, h2, h3⟩ => ⟨g, cap, cur, h1, Nat.le_trans hb h2, h3⟩⟩
section
variable {P : Program} (w : World)
theorem run_append_nil_src (base : Nat) (t ty e : TypeId) (i : TypeInfo) (size : Nat) (ht : P.underlying t = some (.slice e)) (hi : P.info? e = some i)
    (v : Value) (n : Nat) (xs : List Value) (hown : w.ownsRow base e size v n xs) (c : Nat) : (Builtin.append_ #[t, t] ty #[v, .slice none 0 c]).run P w = .ok v w := by
  rcases hown.2 with ⟨rfl, rfl⟩ | ⟨g, cap, cur, rfl, _, _, hnc, _⟩
  · simp [Builtin.append_, run_underlying ht, sizeOf, typeInfo, hi, Builtin.lenOf, Builtin.firstCells]
  · simp [Builtin.append_, run_underlying ht, sizeOf, typeInfo, hi, Builtin.lenOf, Builtin.firstCells, hnc, storeCells]
theorem run_append_rd (base : Nat) (t ty e : TypeId) (i : TypeInfo) (z : Value) (size bytes : Nat) (ht : P.underlying t = some (.slice e)) (hi : P.info? e = some i) (hz : i.zero = some z)
    (hsize : i.size = size) (hby : i.bytes = bytes) (hzs : z.cells.size = size) (hsz : 0 < size)
    (v : Value) (n : Nat) (xs : List Value) (hown : w.ownsRow base e size v n xs) (vx : Value) (m : Nat) (news : List Value) (hr : Rd w size vx m news) (h1 : ∀ u ∈ news, u.oneCell' = true)
    (h63 : n + m ≤ maxLen) (hbytes : (n + m) * bytes ≤ 140737488355328) (hbase : base ≤ w.heap.size) :
    ∃ v' w', (Builtin.append_ #[t, t] ty #[v, vx]).run P w = .ok v' w' ∧ w'.ownsRow base e size v' (n + m) (xs ++ news) ∧ w.grownBy w' v.ownBlock ∧
      (v'.ownBlock = v.ownBlock ∨ v'.ownBlock = some w.heap.size) := by
  obtain ⟨A, c, rfl, hmc, hc, hlen, hcell⟩ := hr
  rcases A with _ | ad
  · have hm : m = 0 := by
      rcases Nat.eq_zero_or_pos m with h0 | h0
      · exact h0
      · obtain ⟨_, _, h, _⟩ := hcell h0
        cases h
    subst hm
    have hn : news = [] := List.eq_nil_of_length_eq_zero (by simpa using hlen)
    subst hn
    exact ⟨v, w, run_append_nil_src w base t ty e i size ht hi v n xs hown c, by simpa using hown, World.grownBy.refl w _, .inl rfl⟩
  · have hcells : ∀ j u, news[j]? = some u → w.cell? (ad.add j) = some u := by
      intro j u hu
      rcases Nat.eq_zero_or_pos m with h0 | h0
      · subst h0
        have hn : news = [] := List.eq_nil_of_length_eq_zero (by simpa using hlen)
        subst hn
        simp at hu
      · obtain ⟨b, off, h, _, hcc⟩ := hcell h0
        cases h
        have he : (⟨b, off, none⟩ : Addr).add j = ⟨b, off + j, none⟩ := by unfold Addr.add; split <;> simp_all
        rw [he]
        exact hcc j u hu
    obtain ⟨v', w', hrun, h2, h3, _, h5⟩ := run_append_own_at (P := P) w base t ty e i z size bytes ht hi hz hsize hby hzs hsz v n xs hown ad m c news hlen hcells h1 h63 hbytes hbase
    exact ⟨v', w', hrun, h2, h3, h5⟩
theorem wp_append_rd {o : Oper} {a : Act} {K : Act → World → Prop} {Q : Exit → Act → World → Prop} (s x : Operand) (t : TypeId)
    (ho : o.op = .call { callee := .builtin .append, args := #[s, x], argTypes := #[t, t] })
    (base : Nat) (e : TypeId) (i : TypeInfo) (z : Value) (size bytes : Nat) (ht : P.underlying t = some (.slice e)) (hi : P.info? e = some i) (hz : i.zero = some z)
    (hsize : i.size = size) (hby : i.bytes = bytes) (hzs : z.cells.size = size) (hsz : 0 < size)
    (v : Value) (n : Nat) (xs : List Value) (hs : a.eval s = v) (hown : w.ownsRow base e size v n xs) (vx : Value) (m : Nat) (news : List Value) (hx : a.eval x = vx) (hr : Rd w size vx m news) (h1 : ∀ u ∈ news, u.oneCell' = true)
    (h63 : n + m ≤ maxLen) (hbytes : (n + m) * bytes ≤ 140737488355328) (hbase : base ≤ w.heap.size)
    (h : ∀ v' w', w'.ownsRow base e size v' (n + m) (xs ++ news) → w.grownBy w' v.ownBlock → (v'.ownBlock = v.ownBlock ∨ v'.ownBlock = some w.heap.size) → K (a.put o.dst v') w') : o.wp P a w K Q := by
  obtain ⟨v', w', hrun, h2, h3, h4⟩ := run_append_rd (P := P) w base t o.type e i z size bytes ht hi hz hsize hby hzs hsz v n xs hown vx m news hr h1 h63 hbytes hbase
  unfold Oper.wp execOp
  simp only [ho, resolve, invoke, builtin, Sem.run_bind, Sem.run_pure, Result.andThen_ok, List.map_toArray, List.map_cons, List.map_nil, hs, hx, hrun]
  exact h v' w' h2 h3 h4
end
theorem oneCell_ints (l : List Int) : ∀ u ∈ l.map (Value.int .i64), u.oneCell' = true := by
  intro u hu
  obtain ⟨x, _, rfl⟩ := List.mem_map.1 hu
  rfl
/-- append of a slice of ints that is read, onto an owned row of ints -/
theorem wp_app_ints {w : World} {o : Oper} {a : Act} {K : Act → World → Prop} {Q : Exit → Act → World → Prop} (s x : Operand)
    (ho : o.op = .call { callee := .builtin .append, args := #[s, x], argTypes := #[31, 31] })
    (base : Nat) (v : Value) (l : List Int) (hs : a.eval s = v) (hown : OwnI w base v l) (vx : Value) (xs : List Int) (hx : a.eval x = vx) (hr : RdI w vx xs) (hl : l.length + xs.length ≤ 300000000) (hbase : base ≤ w.heap.size)
    (h : ∀ v' w', OwnI w' base v' (l ++ xs) → w.grownBy w' v.ownBlock → (v'.ownBlock = v.ownBlock ∨ v'.ownBlock = some w.heap.size) → K (a.put o.dst v') w') : o.wp Tryz.prog a w K Q := by
  obtain ⟨i0, hi, hz0, hz1, hz2⟩ := info_parts infoI0
  refine wp_append_rd w s x 31 ho base 3 i0 _ 1 8 Tryz.underlying31 hi hz0 hz1 hz2 rfl (by decide) v l.length _ hs hown vx xs.length _ hx hr (oneCell_ints xs) (by simp only [maxLen]; omega) (by omega) hbase ?_
  intro v' w' h1 h2 h3
  refine h v' w' ?_ h2 h3
  unfold OwnI
  rw [List.map_append, List.length_append]
  exact h1
theorem wpList_app_ints {w : World} {ops : Array Oper} {rest : List Oper} {o : Oper} {a : Act} {Q : Exit → Act → World → Prop} (hgd : o.guard = none) (s x : Operand)
    (ho : o.op = .call { callee := .builtin .append, args := #[s, x], argTypes := #[31, 31] })
    (base : Nat) (v : Value) (l : List Int) (hs : a.eval s = v) (hown : OwnI w base v l) (vx : Value) (xs : List Int) (hx : a.eval x = vx) (hr : RdI w vx xs) (hl : l.length + xs.length ≤ 300000000) (hbase : base ≤ w.heap.size)
    (h : ∀ v' w', OwnI w' base v' (l ++ xs) → w.grownBy w' v.ownBlock → (v'.ownBlock = v.ownBlock ∨ v'.ownBlock = some w.heap.size) → wpList Tryz.prog ops Q rest (a.put o.dst v') w') : wpList Tryz.prog ops Q (o :: rest) a w :=
  wpList_plain hgd fun _ hK => wp_app_ints s x ho base v l hs hown vx xs hx hr hl hbase fun v' w' h1 h2 h3 => hK _ _ (h v' w' h1 h2 h3)
theorem wpList_app_int {ops : Array Oper} {rest : List Oper} {o : Oper} {a : Act} {Q : Exit → Act → World → Prop} {w : World} (hgd : o.guard = none) (s x : Operand)
    (ho : o.op = .call { callee := .builtin .append, args := #[s, x], argTypes := #[31, 31] })
    (base : Nat) (v : Value) (l : List Int) (hs : a.eval s = v) (hown : OwnI w base v l) (x0 : Int) (m : Nat) (hm : Hid (l.length = m)) (hl : m ≤ 1000000) (hbase : base ≤ w.heap.size)
    (hx : a.eval x = .slice (some ⟨w.heap.size, 0, none⟩) 1 1)
    (h : ∀ g' cap w', OwnI w' base (.slice (some ⟨g', 0, none⟩) (m + 1) cap) (l ++ [x0]) → base ≤ g' → w.grownBy w' v.ownBlock → wpList Tryz.prog ops Q rest (a.put o.dst (.slice (some ⟨g', 0, none⟩) (m + 1) cap)) w') :
    wpList Tryz.prog ops Q (o :: rest) a (w.alloc (.cells #[.int .i64 x0] 3)) := by
  obtain rfl := hm.out
  obtain ⟨i0, hi, hz0, hz1, hz2⟩ := info_parts infoI0
  refine wpList_append_own _ hgd s x 31 ho base 3 i0 _ 1 8 Tryz.underlying31 hi hz0 hz1 hz2 rfl (by decide) v l.length (l.map (Value.int .i64)) hs (World.ownsRow.alloc hown _) ⟨w.heap.size, 0, none⟩ 1 1
    [.int .i64 x0] hx rfl ?_ ?_ (by simp only [maxLen]; omega) (by omega) (by simp; omega) ?_
  · intro j u hu
    match j, hu with
    | 0, hu => simp at hu; subst hu; simp [go_sem, Addr.add]
  · intro u hu
    simp at hu
    subst hu
    rfl
  · intro v' w' h1 h2 _
    obtain ⟨g', cap, rfl, hg1, hg2⟩ := h1.form (by omega)
    refine h g' cap w' ?_ hg1 ?_
    · unfold OwnI
      rw [List.map_append, List.length_append]
      exact h1
    · exact ⟨h2.os, h2.tape, h2.output, Nat.le_trans (by simp) h2.size, fun k hk hne => (h2.block k (by simp; omega) hne).trans (Below.heap_alloc w _ k hk)⟩
theorem own_newI (w : World) (base g : Nat) (hg : w.heap.size = g) (hb : base ≤ g) : OwnI (w.alloc (.cells #[] 3)) base (.slice (some ⟨g, 0, none⟩) 0 0) [] := by
  subst hg
  exact ⟨rfl, .inr ⟨w.heap.size, 0, #[], rfl, hb, heap_alloc_new w _, Nat.le_refl _, by simp [maxLen], rfl, rfl⟩⟩
theorem below_grown {W w w' : World} {base : Nat} {e : TypeId} {size n : Nat} {v : Value} {xs : List Value} (h : Below W.heap.size W w) (hB : W.heap.size ≤ base) (ho : w.ownsRow base e size v n xs) (hg : w.grownBy w' v.ownBlock) : Below W.heap.size W w' :=
  h.grown hg h.size (fun k hk => Nat.le_trans hB (World.ownsRow.lt ho k hk).1)
-- $1 world before, $2 world after, $3 number of the hypothesis Below before, $4 after, $5 own lemma, $6 name of the new fact
def Bls (w : World) (g : Nat) (M : List Bool) : Prop := w.heap[g]? = some (.cells (M.map Value.bool).toArray 4 (0, 0))
theorem Bls.lt {w : World} {g : Nat} {M : List Bool} (h : Bls w g M) : g < w.heap.size := (Array.getElem?_eq_some_iff.1 h).1
theorem Bls.cell {w : World} {g : Nat} {M : List Bool} (h : Bls w g M) {j : Nat} (hj : j < M.length) : w.cell? ⟨g, j, none⟩ = some (.bool (M.getD j false)) := by
  rw [cell_of_row w g j _ _ (0, 0) h]
  simp [hj]
theorem Bls.free {w : World} {g : Nat} {M : List Bool} (h : Bls w g M) (j : Nat) : w.frozen? ⟨g, j, none⟩ = false := by
  unfold Bls at h
  simp [World.frozen?, h]
theorem Bls.set_ {w : World} {g : Nat} {M : List Bool} (h : Bls w g M) (j : Nat) : Bls (w.setCell ⟨g, j, none⟩ (.bool true)) g (M.set j true) := by
  unfold Bls at h ⊢
  simp [World.setCell, Array.getElem?_modify, h, List.map_set]
theorem Bls.drewN {w : World} {g : Nat} {M : List Bool} (h : Bls w g M) (n : Nat) : Bls (w.drewN n) g M := h
theorem Bls.alloc {w : World} {g : Nat} {M : List Bool} (h : Bls w g M) (o : Obj) : Bls (w.alloc o) g M := (Below.heap_alloc w o g h.lt).trans h

def bArr (M : List Bool) : Array Value := (M.map Value.bool).toArray
theorem made_bools (n : Nat) : madeCells (Value.bool false).cells (n * 1) = bArr (List.replicate n false) := by
  have h := toList_madeCells_one (.bool false) n
  rw [Nat.mul_one]
  apply Array.toList_inj.1
  rw [show (Value.bool false).cells = #[Value.bool false] from rfl, h, bArr]
  simp
theorem bArr_set (M : List Bool) (j : Nat) : (bArr M).setIfInBounds j (.bool true) = bArr (M.set j true) := by simp [bArr, List.map_set]
theorem infoB0 : (Tryz.prog.info? 4).map (fun i => (i.zero, i.size, i.bytes)) = some (some (.bool false), 1, 1) := by kernel_rfl
theorem run_make_rowN {P : Program} (t e : TypeId) (i : TypeInfo) (z : Value) (ht : P.underlying t = some (.slice e)) (hi : P.info? e = some i) (hz : i.zero = some z)
    (kl kc : IntKind) (n c : Nat) (hnc : n ≤ c) (hbytes : i.bytes * c ≤ 281474976710656) (h63 : c ≤ 9223372036854775807) (w : World) :
    (Instr.makeSlice t (.int kl (n : Int)) (.int kc (c : Int))).run P w = .ok (.slice (some ⟨w.heap.size, 0, none⟩) n c) (w.alloc (.cells (madeCells z.cells (c * i.size)) e)) := by
  have hb : (i.bytes : Int) * (c : Int) ≤ 281474976710656 := by
    have h : ((i.bytes * c : Nat) : Int) ≤ 281474976710656 := by omega
    rwa [Int.natCast_mul] at h
  have hr := run_make (P := P) w t e i z ht hi hz kl kc n c (by omega) (by omega) hb (by omega)
  simp only [Int.toNat_natCast] at hr
  exact hr
end Go.Proofs.YtiopgbbggeimaaaGreat

/-
  A region that draws its order, in the round of a range over a function: out of the plain walk of the region.
-/
namespace Go
section
variable {P : Program} {ops : Array Oper} {Q : Exit → Act → World → Prop} {md : Region.Mode} {l n : Nat}
def Region.noLater (ops : Array Oper) : Bool := ops.toList.all fun o => match o.op with | .defer _ => false | _ => true
theorem Region.noLater_spec (h : Region.noLater ops = true) (j : Nat) (o : Oper) (c : Call) (hi : ops[j]? = some o) : o.op ≠ .defer c := by
  intro hc
  have hm : o ∈ ops.toList := by rw [← Array.getElem?_toList] at hi; exact List.mem_of_getElem? hi
  have := List.all_eq_true.1 h o hm
  rw [hc] at this
  cases this
theorem Oper.wpIn_round {o : Oper} {a : Act} {w : World} {K : Act → World → Prop} (hnd : ∀ c, o.op ≠ .defer c) (h : o.wp P a w K Q) : o.wpIn (Fence.wide.inRound l) n P a w K Q := by
  refine ⟨fun _ _ => trivial, ?_⟩
  rw [Oper.semAt_eq _ _ _ hnd]
  unfold Oper.wp at h
  generalize (execOp a.eval o).run P w = r at *
  cases r with
  | ok x w' =>
    cases x <;> simp only [Oper.upon] at h <;>
      first
        | exact h
        | exact ⟨fun h => (by cases h), CallsIn.inRound l (callsIn_wide.2 h)⟩
        | exact ⟨fun h => (by cases h), fun c cs _ => let ⟨v, w', r, s⟩ := h c cs; ⟨v, w', r, stepsIn_wide.2 s⟩⟩
        | exact h.elim
  | halt x w' => cases x <;> simp only [Oper.upon] at h <;> first | exact h | exact h.elim
theorem wpOpIn_round {i : Nat} {K : Act → World → Prop} {a : Act} {w : World} (hnd : ∀ (j : Nat) (o : Oper) c, ops[j]? = some o → o.op ≠ .defer c) (hlo : ¬ LetsOut Q) (h : wpOp P ops Q i K a w) : wpOpIn (Fence.wide.inRound l) n P ops Q i K a w := by
  unfold wpOp at h
  unfold wpOpIn
  cases ho : ops[i]? with
  | none => simpa [ho] using h
  | some o =>
    simp only [ho] at h ⊢
    by_cases hw : Region.wanted o (yielded ops a.tmps) = true
    · rw [if_pos hw] at h ⊢
      rcases h with h | h
      · exact Oper.wpIn_round (fun c => hnd i o c ho) h
      · exact absurd h.2 hlo
    · rw [if_neg hw] at h ⊢
      exact ⟨fun _ _ => trivial, h⟩
theorem wpAnyIn_round (hnd : ∀ (j : Nat) (o : Oper) c, ops[j]? = some o → o.op ≠ .defer c) (hlo : ¬ LetsOut Q) : ∀ (fuel : Nat) (listed : Array Bool) (a : Act) (w : World), wpAny P md ops Q fuel listed a w → wpAnyIn (Fence.wide.inRound l) n P md ops Q fuel listed a w
  | 0, _, _, _, h => h
  | fuel + 1, _, _, _, h => ⟨h.1, fun i hi => wpOpIn_mono (fun a' w' h' => wpAnyIn_round hnd hlo fuel _ a' w' h') (wpOpIn_round hnd hlo (h.2 i hi))⟩
theorem wpIn_region_mix {id : Nat} {a : Act} {w : World} (k : Nat) (A U : List Nat) (L : List (Bool × Nat)) (S : World → Prop) (hm : P.follows .mixedOrders = true) (hB : Region.mixOk .any ops k A U L = true)
    (hd : Region.noLater ops = true) (hlo : ¬ LetsOut Q)
    (h : ∀ D : World, D = w.drew → S D ∧ wpMix P ops (NoPanic Q) S k A L a D) : (Code.region id ops true).wpIn (Fence.wide.inRound l) n P Q a w := by
  obtain ⟨hS, h⟩ := h _ rfl
  simp only [Region.mixOk, Bool.and_eq_true, decide_eq_true_eq] at hB
  obtain ⟨h1, h3, h4, h5, h6⟩ := hB
  have inv0 : HeadInv .any ops k (Array.replicate ops.size false) :=
    ⟨by simp, fun j oj _ hl => (by rw [getD_replicate_false] at hl; cases hl), fun t _ ht => getD_in (by simpa using ht) (getD_replicate_false _ _)⟩
  have := wpAnyE_mix h1 h4 h5 (fun _ _ _ _ _ h => h) L _ a w.drew h6 (.inl ⟨inv0, hS⟩) h
  rw [h3] at this
  have hlo' : ¬ LetsOut (NoPanic Q) := fun ⟨a, w, h⟩ => hlo ⟨a, w, h⟩
  exact wpIn_mono (wpIn_region_any hm (wpAnyIn_round (Region.noLater_spec hd) hlo' _ _ _ _ (wpAny_of_E _ _ _ _ this))) NoPanic.imp
end
end Go

/-
  A range over a function whose iterator writes one variable of its own between two rounds: block Bi, a box that lay ahead of the loop.
  The iterator's contract SeqBox: the caller's word J abides new blocks and a write to Bi. The law wpIn_rangeFunc_box: the caller's word I abides besides a turn of the loop's two blocks of book-keeping, D and D + 1, where D is the heap's size where the loop begins.
-/
namespace Go
open Go.RowKit
variable {F : Fence} {n : Nat} {P : Program}
/-- a word that abides new blocks and a turn of the blocks that T names -/
def Stays {β : Type} (T : Nat → Prop) (I : β → World → Prop) : Prop := ∀ s A B row, I s A → A.grownBy B row → (∀ k, row = some k → T k) → I s B
theorem Stays.and {β : Type} {T : Nat → Prop} {I J : β → World → Prop} (h : Stays T I) (k : Stays T J) : Stays T (fun s W => I s W ∧ J s W) := fun s A B row hs hg hr => ⟨h s A B row hs.1 hg hr, k s A B row hs.2 hg hr⟩
theorem Stays.new {β : Type} {T : Nat → Prop} {I : β → World → Prop} (h : Stays T I) {s : β} {W : World} (hs : I s W) (o : Obj) : I s (W.alloc o) := h s W _ none hs (World.grownBy_alloc W o none) (fun k e => by cases e)
theorem Stays.put {β : Type} {T : Nat → Prop} {I : β → World → Prop} (h : Stays T I) {s : β} {W : World} (hs : I s W) {k : Nat} (hk : T k) (o : Obj) : I s (W.putObj k o) := h s W _ (some k) hs (grownBy_putObj' W k o) (fun j e => by cases e; exact hk)
theorem Stays.blk {β : Type} {T : Nat → Prop} (b : Nat) (o : Obj) (hb : ¬ T b) : Stays T (fun (_ : β) W => W.heap[b]? = some o) := fun _ _ _ _ hs hg hr =>
  (hg.block b (Array.getElem?_eq_some_iff.1 hs).1 (fun e => hb (hr b e.symm))).trans hs
theorem Stays.below {β : Type} {T : Nat → Prop} {m : Nat} {w : World} (hm : m ≤ w.heap.size) (hT : ∀ k, T k → m ≤ k) : Stays T (fun (_ : β) W => Below m w W) := fun _ _ _ _ hs hg hr =>
  hs.grown hg (Nat.le_trans hm hs.size) (fun k e => hT k (hr k e))
theorem grown_of_below {A B : World} (h : Below A.heap.size A B) (row : Option Nat) : A.grownBy B row := ⟨h.os, h.tape, h.output, h.size, fun k hk _ => h.block k hk⟩
theorem Stays.call {β : Type} {T : Nat → Prop} {I : β → World → Prop} (h : Stays T I) {s : β} {A B : World} (hs : I s A) (hb : Below A.heap.size A B) : I s B := h s A B none hs (grown_of_below hb none) (fun k e => by cases e)
theorem Stays.set {β : Type} {T : Nat → Prop} {I : β → World → Prop} (h : Stays T I) {s : β} {A : World} (hs : I s A) {b : Nat} (hb : T b) (u : Value) : I s (A.setCell ⟨b, 0, none⟩ u) := h s A _ (some b) hs (grownBy_setCell' A b u) (fun k e => by cases e; exact hb)
theorem Stays.pure {β : Type} {T : Nat → Prop} (p : β → Prop) : Stays T (fun s (_ : World) => p s) := fun _ _ _ _ hs _ _ => hs
/-- the contract of an iterator that writes block Bi between two rounds -/
def SeqBox {α : Type} (F : Fence) (n : Nat) (P : Program) (g : Nat) (lb : Array Value) (encs : α → Array Value) (Bi : Nat) (Kp : World → World → Prop) (S Sp : List α → Prop) (N : Nat) (w : World) : Prop :=
  ∀ (l : Nat) (J Jx : List α → World → Prop) (W : World), Below w.heap.size w W → W.heap.size = w.heap.size + 2 → Stays (fun k => k = Bi) J →
    (∀ pre x W1, J pre W1 → pre.length < N → YieldAt F (n - 1) P l (encs x) W1 fun e W' =>
      (e = .returned (.bool true) ∧ J (pre ++ [x]) W' ∧ Kp W1 W') ∨ (e = .returned (.bool false) ∧ Jx (pre ++ [x]) W')) →
    J [] W → CallsIn F n P g (#[.func (.yield l) #[] #[]] ++ lb) W fun e W' => (∃ v, e = .returned v) ∧ ((∃ xs, S xs ∧ J xs W') ∨ (∃ pre, Sp pre ∧ Jx pre W'))
/-- the loop's two blocks lie as they lay -/
def Books (D : Nat) (W W' : World) : Prop := W'.heap[D]? = W.heap[D]? ∧ W'.heap[D + 1]? = W.heap[D + 1]?
theorem Books.refl (D : Nat) (W : World) : Books D W W := ⟨rfl, rfl⟩
theorem Books.alloc {D : Nat} {W W' : World} (h : Books D W W') (hl : D + 1 < W'.heap.size) (o : Obj) : Books D W (W'.alloc o) := ⟨(Below.heap_alloc _ o D (by omega)).trans h.1, (Below.heap_alloc _ o (D + 1) hl).trans h.2⟩
theorem Books.set {D : Nat} {W W' : World} (h : Books D W W') {b : Nat} (hb : b < D) (j : Nat) (u : Value) : Books D W (W'.setCell ⟨b, j, none⟩ u) := ⟨(Below.heap_setCell W' ⟨b, j, none⟩ u D (by show D ≠ b; omega)).trans h.1, (Below.heap_setCell W' ⟨b, j, none⟩ u (D + 1) (by show D + 1 ≠ b; omega)).trans h.2⟩
theorem Books.call {D : Nat} {W W' W2 : World} (h : Books D W W') (hl : D + 1 < W'.heap.size) (hb : Below W'.heap.size W' W2) : Books D W W2 := ⟨(hb.block D (by omega)).trans h.1, (hb.block (D + 1) hl).trans h.2⟩
def boxPost {α : Type} (D : Nat) (Kp : World → World → Prop) (I : List α → World → Prop) (Ix : Code → List α → World → Prop) (xs : List α) (W : World) : Exit → Act → World → Prop
  | .normal, _, W' => Books D W W' ∧ Kp W W' ∧ I xs W'
  | .ret, _, W' => Books D W W' ∧ Ix .ret xs W'
  | .exit id, _, W' => Books D W W' ∧ Ix (.exit id) xs W'
  | .goto t, _, W' => Books D W W' ∧ Ix (.goto t) xs W'
  | .panic _, _, _ => False
  | .outgrown, _, _ => False
theorem wpIn_rangeFunc_box {α : Type} {g : Operand} {ps : Array Tmp} {assign body : Code} {Q : Exit → Act → World → Prop} {a : Act} {w : World} {D : Nat} (hD : w.heap.size = D)
    (hro : F.round = none) (h1 : 1 ≤ n) {gf : Nat} {lb : Array Value} (hg : a.eval g = .func (.func gf) #[] lb) (hFg : F.fn gf) (eg : ∀ args w, (callFunc gf args).run P w = .ok (.enter gf args) w)
    {encs : α → Array Value} {Bi : Nat} {Kp : World → World → Prop} {S Sp : List α → Prop} {N : Nat} (hBi : Bi < D) (hseq : SeqBox F (n - 1) P gf lb encs Bi Kp S Sp N w)
    (hKt : ∀ {A B C : World}, Kp A B → Kp B C → Kp A C) (hKb : ∀ (W : World) (r r' : Loop), W.heap[D + 1]? = some (.loop r) → Kp W (W.putObj (D + 1) (.loop r'))) (hps : ∀ x, (encs x).size = ps.size)
    (I : List α → World → Prop) (Ix : Code → List α → World → Prop) (hI : Stays (fun k => k = Bi ∨ k = D ∨ k = D + 1) I) (hIx : ∀ c, Stays (fun k => k = D ∨ k = D + 1) (Ix c)) (h0 : I [] w)
    (Ax : α → Act → World → Prop) (hAx : ∀ x a', Stays (fun k => k = D + 1) (fun (_ : Unit) W => Ax x a' W))
    (hassign : ∀ (l : Nat) (pre : List α) (x : α) (W : World) (K : Act → World → Prop), D + 1 < W.heap.size → I pre W → (∀ a' W', Books D W W' → Kp W W' → I pre W' → Ax x a' W' → K a' W') →
      assign.wpIn (F.inRound l) (n - 1 - 1) P (Exit.then K (fun _ _ _ => False)) { tmps := (ps.zip (encs x)).foldl (fun t (p, v) => t.setIfInBounds p v) a.tmps, defers := [] } W)
    (hbody : ∀ (l : Nat) (pre : List α) (x : α) (a' : Act) (W : World), D + 1 < W.heap.size → I pre W → Ax x a' W → pre.length < N → body.wpIn (F.inRound l) (n - 1 - 1) P (boxPost D Kp I Ix (pre ++ [x]) W) a' W)
    (hdone : ∀ (xs : List α) (W : World), S xs → I xs W → W.heap[D]? = some (.deferred (some [])) → Q .normal { a with defers := { target := .collected D, args := #[] } :: a.defers } W)
    (hstop : ∀ (c : Code) (pre : List α) (W : World), Sp pre → Ix c pre W → W.heap[D]? = some (.deferred (some [])) → c.wpIn F n P Q { a with defers := { target := .collected D, args := #[] } :: a.defers } W) :
    (Code.rangeFunc g ps assign body).wpIn F n P Q a w := by
  subst hD
  refine wpIn_rangeFunc fun fn hfn => ?_
  rw [hro]
  obtain ⟨R, hR⟩ : ∃ R : LoopState → Option Code → Loop, ∀ s p, R s p = { state := s, pending := p, fn, tmps := a.tmps, params := ps, assign, body, defers := w.heap.size } := ⟨_, fun _ _ => rfl⟩
  have hst : ∀ s p, (R s p).state = s := fun s p => by rw [hR]
  have hpe : ∀ s p, (R s p).pending = p := fun s p => by rw [hR]
  have htu : ∀ s p s' p', ({ R s p with state := s', pending := p' } : Loop) = R s' p' := fun s p s' p' => by rw [hR, hR]
  have htu1 : ∀ s p s', ({ R s p with state := s' } : Loop) = R s' p := fun s p s' => by rw [hR, hR]
  generalize hL : w.heap.size + 1 = L
  obtain ⟨V, hV⟩ : ∃ V, (w.alloc (.deferred (some []))).alloc (.loop (R .ready none)) = V := ⟨_, rfl⟩
  have vL : V.heap[L]? = some (.loop (R .ready none)) := by
    have := World.alloc_heap_new (w.alloc (.deferred (some []))) (.loop (R .ready none))
    rw [World.size_alloc, hV, hL] at this
    exact this
  have vD : V.heap[w.heap.size]? = some (.deferred (some [])) := by
    rw [← hV]
    exact (Below.heap_alloc _ _ _ (by simp)).trans (World.alloc_heap_new w _)
  have vb : Below w.heap.size w V := by rw [← hV]; exact ((Below.refl _ w).alloc (Nat.le_refl _) _).alloc (by simp) _
  have vz : V.heap.size = w.heap.size + 2 := by rw [← hV]; simp
  refine ⟨L, [{ target := .collected w.heap.size, args := #[] }], V, { target := .fn (.func gf) lb, args := #[.func (.yield L) #[] #[]] }, V, gf, #[.func (.yield L) #[] #[]] ++ lb, V, ?_, ?_, ?_, ?_, fun _ => h1, ?_⟩
  · rw [← hV, ← hL, hR]
    exact run_enterLoop_outer _ _ _ _ _
  · simp only [resolve, hg]
    simp [go_sem]
  · intro f' hf'
    simp [Target.leads] at hf'
    subst hf'
    exact hFg
  · simp [invoke, go_sem, eg]
  have hLD : L ≠ w.heap.size := by omega
  refine (hseq L (fun xs W => I xs W ∧ (W.heap[L]? = some (.loop (R .ready none)) ∧ W.heap[w.heap.size]? = some (.deferred (some []))))
    (fun xs W => ∃ c, Ix c xs W ∧ W.heap[L]? = some (.loop (R .done (some c))) ∧ W.heap[w.heap.size]? = some (.deferred (some []))) V vb vz ?_ ?_ ?_).mono ?_
  · refine Stays.and (fun s A B row hs hg' hr => hI s A B row hs hg' (fun k e => .inl (hr k e))) (Stays.and (Stays.blk _ _ (by omega)) (Stays.blk _ _ (by omega)))
  · rintro pre x W ⟨hi, hl, hd⟩ hlen
    have hlt := (Array.getElem?_eq_some_iff.1 hl).1
    have hy := run_yield (P := P) (args := encs x) hl (by rw [hR]; exact hps x)
    rw [hR] at hy
    refine ⟨fn, _, assign, body, hy, roundIn_of_wpIn hfn (hassign L pre x W _ (by omega) hi ?_)⟩
    clear hy
    intro a1 W1 k1 kp1 i1 ax1
    rw [Books, hL] at k1
    have hl1 := k1.2.trans hl
    have hd1 := k1.1.trans hd
    have hlt1 := (Array.getElem?_eq_some_iff.1 hl1).1
    refine ⟨_, run_beginRound hl1 (hst _ _), ?_⟩
    rw [htu1]
    have hl2 : (W1.putObj L (.loop (R .busy none))).heap[L]? = some (.loop (R .busy none)) := World.putObj_heap_same hlt1
    have hd2 : (W1.putObj L (.loop (R .busy none))).heap[w.heap.size]? = some (.deferred (some [])) := (World.putObj_heap_other (Ne.symm hLD)).trans hd1
    have kp2 : Kp W1 (W1.putObj L (.loop (R .busy none))) := by rw [← hL] at hl1 ⊢; exact hKb _ _ _ hl1
    refine wpIn_mono (hbody L pre x a1 _ (by simp; omega) (hI.put i1 (.inr (.inr hL.symm)) _) ((hAx x a1).put (s := ()) ax1 hL.symm _) hlen) ?_
    have fin : ∀ (j : Option Code) (W3 : World), Books w.heap.size (W1.putObj L (.loop (R .busy none))) W3 →
        (Instr.endRound L j).run P W3 = .ok (.bool j.isNone) (W3.putObj L (.loop (R (if j.isNone then .ready else .done) j))) ∧ W3.heap[L]? = some (.loop (R .busy none)) ∧
          (W3.putObj L (.loop (R (if j.isNone then .ready else .done) j))).heap[L]? = some (.loop (R (if j.isNone then .ready else .done) j)) ∧
          (W3.putObj L (.loop (R (if j.isNone then .ready else .done) j))).heap[w.heap.size]? = some (.deferred (some [])) := fun j W3 k3 => by
      rw [Books, hL] at k3
      have hl3 := k3.2.trans hl2
      have h := run_endRound (P := P) j hl3
      rw [htu] at h
      exact ⟨h, hl3, World.putObj_heap_same (Array.getElem?_eq_some_iff.1 hl3).1, (World.putObj_heap_other (Ne.symm hLD)).trans (k3.1.trans hd2)⟩
    intro e a3 W3 hp
    cases e with
    | normal =>
      obtain ⟨k3, kp3, i3⟩ := hp
      obtain ⟨hr, hl3, hl4, hd4⟩ := fin none W3 k3
      refine ⟨_, _, hr, .inl ⟨rfl, ⟨hI.put i3 (.inr (.inr hL.symm)) _, hl4, hd4⟩, hKt kp1 (hKt (hKt kp2 kp3) ?_)⟩⟩
      rw [← hL] at hl3 ⊢
      exact hKb _ _ _ hl3
    | ret =>
      obtain ⟨k3, i3⟩ := hp
      obtain ⟨hr, hl3, hl4, hd4⟩ := fin (some .ret) W3 k3
      exact ⟨_, _, hr, .inr ⟨rfl, .ret, (hIx _).put i3 (.inr hL.symm) _, hl4, hd4⟩⟩
    | exit id =>
      obtain ⟨k3, i3⟩ := hp
      obtain ⟨hr, hl3, hl4, hd4⟩ := fin (some (.exit id)) W3 k3
      exact ⟨_, _, hr, .inr ⟨rfl, .exit id, (hIx _).put i3 (.inr hL.symm) _, hl4, hd4⟩⟩
    | goto t =>
      obtain ⟨k3, i3⟩ := hp
      obtain ⟨hr, hl3, hl4, hd4⟩ := fin (some (.goto t)) W3 k3
      exact ⟨_, _, hr, .inr ⟨rfl, .goto t, (hIx _).put i3 (.inr hL.symm) _, hl4, hd4⟩⟩
    | panic ch => exact hp.elim
    | outgrown => exact hp.elim
  · refine ⟨?_, vL, vD⟩
    rw [← hV]
    exact hI.new (hI.new h0 _) _
  · rintro e W2 ⟨⟨v, rfl⟩, (⟨xs, hS, hi, hl, hd⟩ | ⟨pre, hSp, c, hi, hl, hd⟩)⟩
    · have h := run_endLoop (P := P) hl (by rw [hst]; simp)
      rw [hpe] at h
      exact ⟨none, _, h, hdone xs _ hS (hI.put hi (.inr (.inr hL.symm)) _) ((World.putObj_heap_other (Ne.symm hLD)).trans hd)⟩
    · have h := run_endLoop (P := P) hl (by rw [hst]; simp)
      rw [hpe] at h
      exact ⟨some c, _, h, hstop c pre _ hSp ((hIx c).put hi (.inr hL.symm) _) ((World.putObj_heap_other (Ne.symm hLD)).trans hd)⟩
end Go

