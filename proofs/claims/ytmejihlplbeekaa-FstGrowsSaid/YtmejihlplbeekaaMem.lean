/-
  Words for memory: a slice that reads as a list of cells; what keeps it.
-/
import Derived.Test.YtmejihlplbeekaaRows
import Derived.WalkKit
import Derived.ProofKit
import Derived.OpenShut
import Derived.Deep.QuietTactic
import Derived.BigQuiet
import Derived.Deep.Draws
import Derived.Lib.Hide
import Derived.StillTailTactics
import Derived.Deep.RegionHeld3
import Derived.WalkSpells
import Derived.WalkLawsBesides
import Derived.Maps.AppendAt
import Derived.Deep.AppendLies
import Derived.Deep.LoopGhost
import Derived.Deep.DeepCutAuto
import Derived.Deep.DeepFit
namespace Go.Proofs.Ytmejihlplbeekaa
open Go.ChangeShapes Go.WideShapes Go.ChangeAt Go.RowKit

/-- The slice value v reads in w as the cells xs, each element of `size` cells. -/
def Rd (w : World) (size : Nat) (v : Value) (n : Nat) (xs : List Value) : Prop :=
  ∃ (A : Option Addr) (c : Nat), v = .slice A n c ∧ n ≤ c ∧ c ≤ 9223372036854775807 ∧ xs.length = n * size ∧
    (0 < n → ∃ b off, A = some ⟨b, off, none⟩ ∧ b < w.heap.size ∧ ∀ j u, xs[j]? = some u → w.cell? ⟨b, off + j, none⟩ = some u)

theorem Rd.keep {w w' : World} {size n : Nat} {v : Value} {xs : List Value} (h : Rd w size v n xs) (hs : w.heap.size ≤ w'.heap.size)
    (hk : ∀ b o, b < w.heap.size → w'.cell? ⟨b, o, none⟩ = w.cell? ⟨b, o, none⟩) : Rd w' size v n xs := by
  obtain ⟨A, c, rfl, h1, h2, h3, h4⟩ := h
  refine ⟨A, c, rfl, h1, h2, h3, fun hn => ?_⟩
  obtain ⟨b, off, rfl, hb, hc⟩ := h4 hn
  exact ⟨b, off, rfl, by omega, fun j u hu => (hk _ _ hb).trans (hc j u hu)⟩
theorem Rd.below {w w' : World} {size n : Nat} {v : Value} {xs : List Value} (h : Rd w size v n xs) (hb : Below w.heap.size w w') : Rd w' size v n xs :=
  h.keep hb.size fun b o hl => hb.cell (p := ⟨b, o, none⟩) hl
theorem Rd.alloc {w : World} {size n : Nat} {v : Value} {xs : List Value} (h : Rd w size v n xs) (o : Obj) : Rd (w.alloc o) size v n xs :=
  h.below ((Below.refl _ _).alloc (Nat.le_refl _) _)
theorem Rd.drew {w : World} {size n : Nat} {v : Value} {xs : List Value} (h : Rd w size v n xs) : Rd w.drew size v n xs := h
theorem Rd.drewN {w : World} {size n : Nat} {v : Value} {xs : List Value} (h : Rd w size v n xs) (k : Nat) : Rd (w.drewN k) size v n xs := h
theorem Rd.own {w : World} {base : Nat} {e : TypeId} {size n : Nat} {v : Value} {xs : List Value} (h : w.ownsRow base e size v n xs) : Rd w size v n xs := by
  have h1 := h.1
  rcases h.2 with ⟨rfl, rfl⟩ | ⟨g, cap, cur, rfl, hg, hh, hnc, hcap, hsz, hx⟩
  · exact ⟨none, 0, rfl, Nat.le_refl _, by omega, h1, fun h => absurd h (Nat.lt_irrefl 0)⟩
  · refine ⟨_, cap, rfl, hnc, hcap, h1, fun hn => ⟨g, 0, rfl, (Array.getElem?_eq_some_iff.1 hh).1, fun j u hu => ?_⟩⟩
    rw [cell_of_row w g (0 + j) cur e (0, 0) hh]
    subst hx
    rw [List.getElem?_take] at hu
    split at hu
    · simpa using hu
    · cases hu

/-- a slice of ints -/
def RdI (w : World) (v : Value) (xs : List Int) : Prop := Rd w 1 v xs.length (xs.map (Value.int .i64))
theorem RdI.below {w w' : World} {v : Value} {xs : List Int} (h : RdI w v xs) (hb : Below w.heap.size w w') : RdI w' v xs := Rd.below h hb
/-- element k of a list of ints, in memory -/
def IAt (w : World) (A : Option Addr) (xs : List Int) (k : Nat) : Prop :=
  ∃ b off x, A = some ⟨b, off, none⟩ ∧ b < w.heap.size ∧ Hid (xs.drop k = x :: xs.drop (k + 1)) ∧ w.cell? ⟨b, off + k, none⟩ = some (.int .i64 x)
theorem RdI.op {w : World} {v : Value} {xs : List Int} (h : RdI w v xs) : ∃ (A : Option Addr) (n c : Nat), v = .slice A n c ∧ n ≤ c ∧ c ≤ 9223372036854775807 ∧ Hid (xs.length = n) ∧
    Hid (∀ k, k < n → IAt w A xs k) := by
  obtain ⟨A, c, rfl, h1, h2, h3, h4⟩ := h
  refine ⟨A, _, c, rfl, h1, h2, rfl, fun k hk => ?_⟩
  obtain ⟨b, off, rfl, hb, hc⟩ := h4 (by omega)
  exact ⟨b, off, xs[k], rfl, hb, List.drop_eq_getElem_cons hk, hc k _ (by simp [hk])⟩

/-- an arc, and a transducer, as plain data -/
structure PArc where
  fr : Int
  inp : Int
  out : Int
  tgt : Int

structure PFst where
  states : Int
  arcs : List PArc
  final : List Int
def arcCells (a : PArc) : List Value := [.int .i64 a.fr, .int .i64 a.inp, .int .i64 a.out, .int .i64 a.tgt]
def arcsCells (l : List PArc) : List Value := l.flatMap arcCells
theorem arcsCells_length (l : List PArc) : (arcsCells l).length = l.length * 4 := by
  induction l with
  | nil => rfl
  | cons a l ih => simp only [arcsCells, List.flatMap_cons, List.length_append] at ih ⊢; rw [ih]; simp [arcCells]; omega
theorem arcsCells_at (l : List PArc) (k : Nat) (h : k < l.length) (j : Nat) (hj : j < 4) : (arcsCells l)[k * 4 + j]? = (arcCells l[k])[j]? := by
  induction l generalizing k with
  | nil => simp at h
  | cons a l ih =>
    cases k with
    | zero => simp only [arcsCells, List.flatMap_cons]; rw [List.getElem?_append_left (by simp [arcCells]; omega)]; simp
    | succ k =>
      simp only [arcsCells, List.flatMap_cons]
      rw [List.getElem?_append_right (by simp [arcCells]; omega)]
      have e : (k + 1) * 4 + j - (arcCells a).length = k * 4 + j := by simp [arcCells]; omega
      rw [e]
      exact ih k (by simpa using h)
def RdA (w : World) (v : Value) (l : List PArc) : Prop := Rd w 4 v l.length (arcsCells l)
theorem RdA.below {w w' : World} {v : Value} {l : List PArc} (h : RdA w v l) (hb : Below w.heap.size w w') : RdA w' v l := Rd.below h hb
def AAt (w : World) (A : Option Addr) (l : List PArc) (k : Nat) : Prop :=
  ∃ b off x0 x1 x2 x3, A = some ⟨b, off, none⟩ ∧ b < w.heap.size ∧ Hid (l.drop k = ⟨x0, x1, x2, x3⟩ :: l.drop (k + 1)) ∧ w.cell? ⟨b, off + k * 4, none⟩ = some (.int .i64 x0) ∧
    w.cell? ⟨b, off + k * 4 + 1, none⟩ = some (.int .i64 x1) ∧ w.cell? ⟨b, off + k * 4 + 2, none⟩ = some (.int .i64 x2) ∧ w.cell? ⟨b, off + k * 4 + 3, none⟩ = some (.int .i64 x3)
theorem RdA.op {w : World} {v : Value} {l : List PArc} (h : RdA w v l) : ∃ (A : Option Addr) (n c : Nat), v = .slice A n c ∧ n ≤ c ∧ c ≤ 9223372036854775807 ∧ Hid (l.length = n) ∧
    Hid (∀ k, k < n → AAt w A l k) := by
  obtain ⟨A, c, rfl, h1, h2, h3, h4⟩ := h
  refine ⟨A, _, c, rfl, h1, h2, rfl, fun k hk => ?_⟩
  obtain ⟨b, off, rfl, hb, hc⟩ := h4 (by omega)
  refine ⟨b, off, l[k].fr, l[k].inp, l[k].out, l[k].tgt, rfl, hb, List.drop_eq_getElem_cons hk, ?_, ?_, ?_, ?_⟩
  · exact hc (k * 4 + 0) _ (arcsCells_at l k hk 0 (by omega))
  · exact hc (k * 4 + 1) _ (arcsCells_at l k hk 1 (by omega))
  · exact hc (k * 4 + 2) _ (arcsCells_at l k hk 2 (by omega))
  · exact hc (k * 4 + 3) _ (arcsCells_at l k hk 3 (by omega))
/-- a transducer in memory -/
def RdF (w : World) (v : Value) (F : PFst) : Prop := ∃ va vf, v = .agg #[.int .i64 F.states, va, vf] ∧ RdA w va F.arcs ∧ RdI w vf F.final
theorem RdF.below {w w' : World} {v : Value} {F : PFst} (h : RdF w v F) (hb : Below w.heap.size w w') : RdF w' v F := by
  obtain ⟨va, vf, rfl, h1, h2⟩ := h
  exact ⟨va, vf, rfl, h1.below hb, h2.below hb⟩
theorem below_of {w w' : World} {B : Nat} (hB : w.heap.size ≤ B) (h : Below B w w') : Below w.heap.size w w' := h.mono hB

theorem AAt.below {w w' : World} {A : Option Addr} {l : List PArc} {k : Nat} (h : AAt w A l k) (hb : Below w.heap.size w w') : AAt w' A l k := by
  obtain ⟨b, off, x0, x1, x2, x3, rfl, hl, hd, c0, c1, c2, c3⟩ := h
  exact ⟨b, off, x0, x1, x2, x3, rfl, by have := hb.size; omega, hd, (hb.cell hl).trans c0, (hb.cell hl).trans c1, (hb.cell hl).trans c2, (hb.cell hl).trans c3⟩
theorem IAt.below {w w' : World} {A : Option Addr} {l : List Int} {k : Nat} (h : IAt w A l k) (hb : Below w.heap.size w w') : IAt w' A l k := by
  obtain ⟨b, off, x, rfl, hl, hd, c0⟩ := h
  exact ⟨b, off, x, rfl, by have := hb.size; omega, hd, (hb.cell hl).trans c0⟩
theorem below_drewN {B : Nat} {a w : World} (h : Below B a w) (n : Nat) : Below B a (w.drewN n) := ⟨h.os, h.tape, h.output, h.size, h.block⟩
/-- what one call leaves, and then another -/
theorem bchain {a b c : World} (h : Below a.heap.size a b) (k : Below b.heap.size b c) : Below a.heap.size a c := h.trans (k.mono h.size)

theorem IAt.two {w : World} {A : Option Addr} {xs : List Int} {k : Nat} (h : IAt w A xs k) (h' : IAt w A xs (k + 1)) :
    ∃ b off x y, A = some ⟨b, off, none⟩ ∧ b < w.heap.size ∧ Hid (xs.drop k = x :: y :: xs.drop (k + 2)) ∧ w.cell? ⟨b, off + k, none⟩ = some (.int .i64 x) ∧ w.cell? ⟨b, off + (k + 1), none⟩ = some (.int .i64 y) := by
  obtain ⟨b, off, x, rfl, hl, hd, c0⟩ := h
  obtain ⟨b', off', y, e, hl', hd', c0'⟩ := h'
  cases e
  exact ⟨b, off, x, y, rfl, hl, hd.out.trans (by rw [hd'.out]), c0, c0'⟩

end Go.Proofs.Ytmejihlplbeekaa
