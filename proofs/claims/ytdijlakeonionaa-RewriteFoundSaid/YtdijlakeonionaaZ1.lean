/-
  The part of older texts that this seat needs (printed by shake.py): Mem Acc T1 T4 T2 T3 Pl1 Reg Reg2 Reg3
-/
import Derived.Test.YtdijlakeonionaaZS
import Derived.Test.YtdijlakeonionaaRows
import Derived.WalkKit
import Derived.ProofKit
import Derived.OpenShut
import Derived.Deep.QuietTactic
import Derived.BigQuiet
import Derived.Deep.Draws
import Derived.Lib.Hide
import Derived.StillTailTactics
import Derived.Deep.RegionHeld3
import Derived.WalkSpells
import Derived.WalkLawsBesides
import Derived.Maps.AppendAt
import Derived.Deep.AppendLies
import Derived.Deep.LoopGhost
import Derived.Deep.DeepCutAuto
import Derived.Deep.DeepFit
import Derived.OrdersHeld
import Derived.StillTail
import Derived.KernelRfl
/-
  Words for memory: a slice that reads as a list of cells; what keeps it.
-/
namespace Go.Proofs.Ytdijlakeonionaa
open Go.ChangeShapes Go.WideShapes Go.ChangeAt Go.RowKit

/-- The slice value v reads in w as the cells xs, each element of `size` cells. -/
def Rd (w : World) (size : Nat) (v : Value) (n : Nat) (xs : List Value) : Prop :=
  ∃ (A : Option Addr) (c : Nat), v = .slice A n c ∧ n ≤ c ∧ c ≤ 9223372036854775807 ∧ xs.length = n * size ∧
    (0 < n → ∃ b off, A = some ⟨b, off, none⟩ ∧ b < w.heap.size ∧ ∀ j u, xs[j]? = some u → w.cell? ⟨b, off + j, none⟩ = some u)

theorem Rd.keep {w w' : World} {size n : Nat} {v : Value} {xs : List Value} (h : Rd w size v n xs) (hs : w.heap.size ≤ w'.heap.size)
    (hk : ∀ b o, b < w.heap.size → w'.cell? ⟨b, o, none⟩ = w.cell? ⟨b, o, none⟩) : Rd w' size v n xs := by
  obtain ⟨A, c, rfl, h1, h2, h3, h4⟩ := h
  refine ⟨A, c, rfl, h1, h2, h3, fun hn => ?_⟩
  obtain ⟨b, off, rfl, hb, hc⟩ := h4 hn
  exact ⟨b, off, rfl, by omega, fun j u hu => (hk _ _ hb).trans (hc j u hu)⟩
theorem Rd.below {w w' : World} {size n : Nat} {v : Value} {xs : List Value} (h : Rd w size v n xs) (hb : Below w.heap.size w w') : Rd w' size v n xs :=
  h.keep hb.size fun b o hl => hb.cell (p := ⟨b, o, none⟩) hl
theorem Rd.alloc {w : World} {size n : Nat} {v : Value} {xs : List Value} (h : Rd w size v n xs) (o : Obj) : Rd (w.alloc o) size v n xs :=
  h.below ((Below.refl _ _).alloc (Nat.le_refl _) _)
theorem Rd.drew {w : World} {size n : Nat} {v : Value} {xs : List Value} (h : Rd w size v n xs) : Rd w.drew size v n xs := h
theorem Rd.drewN {w : World} {size n : Nat} {v : Value} {xs : List Value} (h : Rd w size v n xs) (k : Nat) : Rd (w.drewN k) size v n xs := h
theorem Rd.own {w : World} {base : Nat} {e : TypeId} {size n : Nat} {v : Value} {xs : List Value} (h : w.ownsRow base e size v n xs) : Rd w size v n xs := by
  have h1 := h.1
  rcases h.2 with ⟨rfl, rfl⟩ | ⟨g, cap, cur, rfl, hg, hh, hnc, hcap, hsz, hx⟩
  · exact ⟨none, 0, rfl, Nat.le_refl _, by omega, h1, fun h => absurd h (Nat.lt_irrefl 0)⟩
  · refine ⟨_, cap, rfl, hnc, hcap, h1, fun hn => ⟨g, 0, rfl, (Array.getElem?_eq_some_iff.1 hh).1, fun j u hu => ?_⟩⟩
    rw [cell_of_row w g (0 + j) cur e (0, 0) hh]
    subst hx
    rw [List.getElem?_take] at hu
    split at hu
    · simpa using hu
    · cases hu

/-- a slice of ints -/
def RdI (w : World) (v : Value) (xs : List Int) : Prop := Rd w 1 v xs.length (xs.map (Value.int .i64))
theorem RdI.below {w w' : World} {v : Value} {xs : List Int} (h : RdI w v xs) (hb : Below w.heap.size w w') : RdI w' v xs := Rd.below h hb
/-- element k of a list of ints, in memory -/
def IAt (w : World) (A : Option Addr) (xs : List Int) (k : Nat) : Prop :=
  ∃ b off x, A = some ⟨b, off, none⟩ ∧ b < w.heap.size ∧ Hid (xs.drop k = x :: xs.drop (k + 1)) ∧ w.cell? ⟨b, off + k, none⟩ = some (.int .i64 x)
theorem RdI.op {w : World} {v : Value} {xs : List Int} (h : RdI w v xs) : ∃ (A : Option Addr) (n c : Nat), v = .slice A n c ∧ n ≤ c ∧ c ≤ 9223372036854775807 ∧ Hid (xs.length = n) ∧
    Hid (∀ k, k < n → IAt w A xs k) := by
  obtain ⟨A, c, rfl, h1, h2, h3, h4⟩ := h
  refine ⟨A, _, c, rfl, h1, h2, rfl, fun k hk => ?_⟩
  obtain ⟨b, off, rfl, hb, hc⟩ := h4 (by omega)
  exact ⟨b, off, xs[k], rfl, hb, List.drop_eq_getElem_cons hk, hc k _ (by simp [hk])⟩

/-- an arc, and a transducer, as plain data -/
structure PArc where
  fr : Int
  inp : Int
  out : Int
  tgt : Int

structure PFst where
  states : Int
  arcs : List PArc
  final : List Int
def arcCells (a : PArc) : List Value := [.int .i64 a.fr, .int .i64 a.inp, .int .i64 a.out, .int .i64 a.tgt]
def arcsCells (l : List PArc) : List Value := l.flatMap arcCells
theorem arcsCells_length (l : List PArc) : (arcsCells l).length = l.length * 4 := by
  induction l with
  | nil => rfl
  | cons a l ih => simp only [arcsCells, List.flatMap_cons, List.length_append] at ih ⊢; rw [ih]; simp [arcCells]; omega
theorem arcsCells_at (l : List PArc) (k : Nat) (h : k < l.length) (j : Nat) (hj : j < 4) : (arcsCells l)[k * 4 + j]? = (arcCells l[k])[j]? := by
  induction l generalizing k with
  | nil => simp at h
  | cons a l ih =>
    cases k with
    | zero => simp only [arcsCells, List.flatMap_cons]; rw [List.getElem?_append_left (by simp [arcCells]; omega)]; simp
    | succ k =>
      simp only [arcsCells, List.flatMap_cons]
      rw [List.getElem?_append_right (by simp [arcCells]; omega)]
      have e : (k + 1) * 4 + j - (arcCells a).length = k * 4 + j := by simp [arcCells]; omega
      rw [e]
      exact ih k (by simpa using h)
def RdA (w : World) (v : Value) (l : List PArc) : Prop := Rd w 4 v l.length (arcsCells l)
theorem RdA.below {w w' : World} {v : Value} {l : List PArc} (h : RdA w v l) (hb : Below w.heap.size w w') : RdA w' v l := Rd.below h hb
def AAt (w : World) (A : Option Addr) (l : List PArc) (k : Nat) : Prop :=
  ∃ b off x0 x1 x2 x3, A = some ⟨b, off, none⟩ ∧ b < w.heap.size ∧ Hid (l.drop k = ⟨x0, x1, x2, x3⟩ :: l.drop (k + 1)) ∧ w.cell? ⟨b, off + k * 4, none⟩ = some (.int .i64 x0) ∧
    w.cell? ⟨b, off + k * 4 + 1, none⟩ = some (.int .i64 x1) ∧ w.cell? ⟨b, off + k * 4 + 2, none⟩ = some (.int .i64 x2) ∧ w.cell? ⟨b, off + k * 4 + 3, none⟩ = some (.int .i64 x3)
theorem RdA.op {w : World} {v : Value} {l : List PArc} (h : RdA w v l) : ∃ (A : Option Addr) (n c : Nat), v = .slice A n c ∧ n ≤ c ∧ c ≤ 9223372036854775807 ∧ Hid (l.length = n) ∧
    Hid (∀ k, k < n → AAt w A l k) := by
  obtain ⟨A, c, rfl, h1, h2, h3, h4⟩ := h
  refine ⟨A, _, c, rfl, h1, h2, rfl, fun k hk => ?_⟩
  obtain ⟨b, off, rfl, hb, hc⟩ := h4 (by omega)
  refine ⟨b, off, l[k].fr, l[k].inp, l[k].out, l[k].tgt, rfl, hb, List.drop_eq_getElem_cons hk, ?_, ?_, ?_, ?_⟩
  · exact hc (k * 4 + 0) _ (arcsCells_at l k hk 0 (by omega))
  · exact hc (k * 4 + 1) _ (arcsCells_at l k hk 1 (by omega))
  · exact hc (k * 4 + 2) _ (arcsCells_at l k hk 2 (by omega))
  · exact hc (k * 4 + 3) _ (arcsCells_at l k hk 3 (by omega))
/-- a transducer in memory -/
def RdF (w : World) (v : Value) (F : PFst) : Prop := ∃ va vf, v = .agg #[.int .i64 F.states, va, vf] ∧ RdA w va F.arcs ∧ RdI w vf F.final
theorem RdF.below {w w' : World} {v : Value} {F : PFst} (h : RdF w v F) (hb : Below w.heap.size w w') : RdF w' v F := by
  obtain ⟨va, vf, rfl, h1, h2⟩ := h
  exact ⟨va, vf, rfl, h1.below hb, h2.below hb⟩
theorem below_of {w w' : World} {B : Nat} (hB : w.heap.size ≤ B) (h : Below B w w') : Below w.heap.size w w' := h.mono hB

theorem AAt.below {w w' : World} {A : Option Addr} {l : List PArc} {k : Nat} (h : AAt w A l k) (hb : Below w.heap.size w w') : AAt w' A l k := by
  obtain ⟨b, off, x0, x1, x2, x3, rfl, hl, hd, c0, c1, c2, c3⟩ := h
  exact ⟨b, off, x0, x1, x2, x3, rfl, by have := hb.size; omega, hd, (hb.cell hl).trans c0, (hb.cell hl).trans c1, (hb.cell hl).trans c2, (hb.cell hl).trans c3⟩
theorem IAt.below {w w' : World} {A : Option Addr} {l : List Int} {k : Nat} (h : IAt w A l k) (hb : Below w.heap.size w w') : IAt w' A l k := by
  obtain ⟨b, off, x, rfl, hl, hd, c0⟩ := h
  exact ⟨b, off, x, rfl, by have := hb.size; omega, hd, (hb.cell hl).trans c0⟩
theorem below_drewN {B : Nat} {a w : World} (h : Below B a w) (n : Nat) : Below B a (w.drewN n) := ⟨h.os, h.tape, h.output, h.size, h.block⟩
/-- what one call leaves, and then another -/
theorem bchain {a b c : World} (h : Below a.heap.size a b) (k : Below b.heap.size b c) : Below a.heap.size a c := h.trans (k.mono h.size)

theorem IAt.two {w : World} {A : Option Addr} {xs : List Int} {k : Nat} (h : IAt w A xs k) (h' : IAt w A xs (k + 1)) :
    ∃ b off x y, A = some ⟨b, off, none⟩ ∧ b < w.heap.size ∧ Hid (xs.drop k = x :: y :: xs.drop (k + 2)) ∧ w.cell? ⟨b, off + k, none⟩ = some (.int .i64 x) ∧ w.cell? ⟨b, off + (k + 1), none⟩ = some (.int .i64 y) := by
  obtain ⟨b, off, x, rfl, hl, hd, c0⟩ := h
  obtain ⟨b', off', y, e, hl', hd', c0'⟩ := h'
  cases e
  exact ⟨b, off, x, y, rfl, hl, hd.out.trans (by rw [hd'.out]), c0, c0'⟩

end Go.Proofs.Ytdijlakeonionaa

/-
  Plain mathematics of acceptance: paths, and the table of what is reached. No program in sight.
-/
namespace Go.Proofs.Ytdijlakeonionaa

def plainB (l : List Int) : Bool := l.all fun x => decide (1 ≤ x)
def sym (x : Int) : List Int := if x = 0 then [] else [x]
def ins (p : List PArc) : List Int := p.flatMap fun a => sym a.inp
def outs (p : List PArc) : List Int := p.flatMap fun a => sym a.out
def chain : Int → List PArc → Int → Prop
  | s, [], t => s = t
  | s, a :: p, t => a.fr = s ∧ chain a.tgt p t
/-- a path of L from s to t that reads xs and writes ys -/
def Path (L : List PArc) (s t : Int) (xs ys : List Int) : Prop := ∃ p, (∀ a, a ∈ p → a ∈ L) ∧ chain s p t ∧ ins p = xs ∧ outs p = ys
def Acc (F : PFst) (xs ys : List Int) : Prop := plainB xs = true ∧ plainB ys = true ∧ ∃ q, q ∈ F.final ∧ Path F.arcs 0 q xs ys

theorem chain_append (p p' : List PArc) (s t : Int) : chain s (p ++ p') t ↔ ∃ m, chain s p m ∧ chain m p' t := by
  induction p generalizing s with
  | nil => simp [chain]
  | cons a p ih =>
    simp only [List.cons_append, chain, ih]
    constructor
    · rintro ⟨h, m, h1, h2⟩; exact ⟨m, ⟨h, h1⟩, h2⟩
    · rintro ⟨m, ⟨h, h1⟩, h2⟩; exact ⟨h, m, h1, h2⟩
theorem ins_append (p p' : List PArc) : ins (p ++ p') = ins p ++ ins p' := by simp [ins]
theorem outs_append (p p' : List PArc) : outs (p ++ p') = outs p ++ outs p' := by simp [outs]
theorem Path.nil (L : List PArc) (s : Int) : Path L s s [] [] := ⟨[], by simp, rfl, rfl, rfl⟩
theorem Path.trans {L : List PArc} {s m t : Int} {xs ys xs' ys' : List Int} (h : Path L s m xs ys) (h' : Path L m t xs' ys') : Path L s t (xs ++ xs') (ys ++ ys') := by
  obtain ⟨p, h1, h2, h3, h4⟩ := h
  obtain ⟨p', h1', h2', h3', h4'⟩ := h'
  refine ⟨p ++ p', ?_, (chain_append _ _ _ _).2 ⟨m, h2, h2'⟩, by rw [ins_append, h3, h3'], by rw [outs_append, h4, h4']⟩
  intro a ha
  rcases List.mem_append.1 ha with h | h
  · exact h1 a h
  · exact h1' a h
theorem Path.one {L : List PArc} {a : PArc} (h : a ∈ L) : Path L a.fr a.tgt (sym a.inp) (sym a.out) :=
  ⟨[a], by simpa using h, ⟨rfl, rfl⟩, by simp [ins], by simp [outs]⟩

/-- one step over an arc reads symbol x at place i of l -/
def stepOk (l : List Int) (i : Nat) (x : Int) : Bool := x == 0 || l[i]? == some x
def stepD (x : Int) : Nat := if x = 0 then 0 else 1
theorem step_take (l : List Int) (i : Nat) (x : Int) (h : stepOk l i x = true) : l.take (i + stepD x) = l.take i ++ sym x := by
  unfold stepOk at h
  unfold stepD sym
  by_cases hx : x = 0
  · simp [hx]
  · simp only [hx, if_false]
    have h2 : l[i]? = some x := by simpa [hx] using h
    rw [List.take_add_one, h2]
    rfl
theorem step_le (l : List Int) (i : Nat) (x : Int) (hi : i ≤ l.length) (h : stepOk l i x = true) : i + stepD x ≤ l.length := by
  unfold stepOk at h
  unfold stepD
  by_cases hx : x = 0
  · simp [hx, hi]
  · have h2 : l[i]? = some x := by simpa [hx] using h
    have := (List.getElem?_eq_some_iff.1 h2).1
    simp only [hx, if_false]
    omega
theorem step_drop (l : List Int) (i : Nat) (x : Int) (r : List Int) (h : sym x ++ r = l.drop i) : stepOk l i x = true ∧ r = l.drop (i + stepD x) := by
  unfold sym at h
  unfold stepOk stepD
  by_cases hx : x = 0
  · simp only [hx, if_true, List.nil_append] at h
    simp [hx, h]
  · simp only [hx, if_false, List.cons_append, List.nil_append] at h
    have hi : l[i]? = some x := by
      have := congrArg (fun t => t[0]?) h
      simpa using this.symm
    have hd : r = l.drop (i + 1) := by
      have := congrArg (fun t => t.drop 1) h
      simpa using this
    simp [hx, hi, hd]

def idx (n m : Nat) (q i k : Nat) : Nat := (q * n + i) * m + k
theorem idx_inj {n m q i k q' i' k' : Nat} (hi : i < n) (hk : k < m) (hi' : i' < n) (hk' : k' < m) (h : idx n m q i k = idx n m q' i' k') : q = q' ∧ i = i' ∧ k = k' := by
  unfold idx at h
  have e1 : ((q * n + i) * m + k) / m = q * n + i := by rw [Nat.mul_comm, Nat.mul_add_div (by omega), Nat.div_eq_of_lt hk]; rfl
  have e2 : ((q' * n + i') * m + k') / m = q' * n + i' := by rw [Nat.mul_comm, Nat.mul_add_div (by omega), Nat.div_eq_of_lt hk']; rfl
  have e3 : q * n + i = q' * n + i' := by rw [← e1, ← e2, h]
  have f1 : (q * n + i) / n = q := by rw [Nat.mul_comm, Nat.mul_add_div (by omega), Nat.div_eq_of_lt hi]; rfl
  have f2 : (q' * n + i') / n = q' := by rw [Nat.mul_comm, Nat.mul_add_div (by omega), Nat.div_eq_of_lt hi']; rfl
  have e4 : q = q' := by rw [← f1, ← f2, e3]
  subst e4
  have e5 : i = i' := by omega
  subst e5
  exact ⟨rfl, rfl, by omega⟩
theorem idx_lt {n m S q i k : Nat} (hq : q < S) (hi : i < n) (hk : k < m) : idx n m q i k < S * n * m := by
  unfold idx
  have h1 : q * n + i < S * n := by
    have : (q + 1) * n ≤ S * n := Nat.mul_le_mul_right n hq
    rw [Nat.add_mul] at this
    omega
  have h2 : (q * n + i + 1) * m ≤ S * n * m := Nat.mul_le_mul_right m h1
  rw [Nat.add_mul (q * n + i) 1 m] at h2
  omega

/-- one place of the table that the reference fills: arc a, places i and k -/
def stf (xs ys : List Int) (a : PArc) (i k : Nat) (s : List Bool × Bool) : List Bool × Bool :=
  if stepOk xs i a.inp && stepOk ys k a.out && s.1.getD (idx (xs.length + 1) (ys.length + 1) a.fr.toNat i k) false then
    (s.1.set (idx (xs.length + 1) (ys.length + 1) a.tgt.toNat (i + stepD a.inp) (k + stepD a.out)) true, s.2 || !s.1.getD (idx (xs.length + 1) (ys.length + 1) a.tgt.toNat (i + stepD a.inp) (k + stepD a.out)) false)
  else s
def rowF (xs ys : List Int) (a : PArc) (i K : Nat) (s : List Bool × Bool) : List Bool × Bool := (List.range K).foldl (fun s k => stf xs ys a i k s) s
def arcF (xs ys : List Int) (a : PArc) (I : Nat) (s : List Bool × Bool) : List Bool × Bool := (List.range I).foldl (fun s i => rowF xs ys a i (ys.length + 1) s) s
def passF (xs ys : List Int) (L : List PArc) (s : List Bool × Bool) : List Bool × Bool := L.foldl (fun s a => arcF xs ys a (xs.length + 1) s) s
theorem rowF_succ (xs ys : List Int) (a : PArc) (i K : Nat) (s : List Bool × Bool) : rowF xs ys a i (K + 1) s = stf xs ys a i K (rowF xs ys a i K s) := by simp [rowF, List.range_succ]
theorem arcF_succ (xs ys : List Int) (a : PArc) (I : Nat) (s : List Bool × Bool) : arcF xs ys a (I + 1) s = rowF xs ys a I (ys.length + 1) (arcF xs ys a I s) := by simp [arcF, List.range_succ]
theorem passF_snoc (xs ys : List Int) (L : List PArc) (a : PArc) (s : List Bool × Bool) : passF xs ys (L ++ [a]) s = arcF xs ys a (xs.length + 1) (passF xs ys L s) := by simp [passF]
def cf : List Bool → Nat
  | [] => 0
  | b :: l => (if b then 0 else 1) + cf l
theorem cf_set (l : List Bool) (j : Nat) : cf (l.set j true) ≤ cf l ∧ (j < l.length → l.getD j false = false → cf (l.set j true) < cf l) := by
  induction l generalizing j with
  | nil => simp [cf]
  | cons b l ih =>
    cases j with
    | zero => cases b <;> simp [cf]
    | succ j => have := ih j; simp only [List.set_cons_succ, cf]; refine ⟨by omega, fun h1 h2 => ?_⟩; have := this.2 (by simpa using h1) (by simpa using h2); omega
theorem set_same (l : List Bool) (j : Nat) (h : l.getD j false = true) : l.set j true = l := by
  induction l generalizing j with
  | nil => rfl
  | cons b l ih =>
    cases j with
    | zero => simp at h; simp [h]
    | succ j => rw [List.set_cons_succ, ih j (by simpa using h)]
theorem getD_set (l : List Bool) (j j' : Nat) : (l.set j true).getD j' false = if j = j' ∧ j < l.length then true else l.getD j' false := by
  induction l generalizing j j' with
  | nil => simp
  | cons b l ih =>
    cases j with
    | zero => cases j' <;> simp
    | succ j => cases j' with
      | zero => simp
      | succ j' => simpa using ih j j'

section
variable (F : PFst) (xs ys : List Int)
/-- the arcs and final states are right -/
def Right : Prop := 1 ≤ F.states ∧ (∀ a, a ∈ F.arcs → 0 ≤ a.fr ∧ a.fr < F.states ∧ 0 ≤ a.tgt ∧ a.tgt < F.states) ∧ ∀ q, q ∈ F.final → 0 ≤ q ∧ q < F.states
def size : Nat := F.states.toNat * (xs.length + 1) * (ys.length + 1)
def at3 (M : List Bool) (q i k : Nat) : Bool := M.getD (idx (xs.length + 1) (ys.length + 1) q i k) false
/-- what is marked is reached -/
def Inv (M : List Bool) : Prop := M.length = size F xs ys ∧ at3 xs ys M 0 0 0 = true ∧
  ∀ q i k, q < F.states.toNat → i ≤ xs.length → k ≤ ys.length → at3 xs ys M q i k = true → Path F.arcs 0 (q : Int) (xs.take i) (ys.take k)
def ClosedAt (M : List Bool) (a : PArc) (i k : Nat) : Prop := stepOk xs i a.inp = true → stepOk ys k a.out = true → at3 xs ys M a.fr.toNat i k = true → at3 xs ys M a.tgt.toNat (i + stepD a.inp) (k + stepD a.out) = true
def Closed (M : List Bool) : Prop := ∀ a, a ∈ F.arcs → ∀ i k, i ≤ xs.length → k ≤ ys.length → ClosedAt xs ys M a i k
/-- what a pass has done so far, from the table M0 -/
def Pass (M0 : List Bool) (D : PArc → Nat → Nat → Prop) (s : List Bool × Bool) : Prop :=
  Inv F xs ys s.1 ∧ cf s.1 ≤ cf M0 ∧ (s.2 = true → cf s.1 < cf M0) ∧ (s.2 = false → s.1 = M0 ∧ ∀ a i k, D a i k → ClosedAt xs ys M0 a i k)
variable {F xs ys}
theorem Pass.step (hR : Right F) {M0 : List Bool} {D : PArc → Nat → Nat → Prop} {s : List Bool × Bool} (h : Pass F xs ys M0 D s) {a : PArc} (ha : a ∈ F.arcs) {i k : Nat} (hi : i ≤ xs.length) (hk : k ≤ ys.length) :
    Pass F xs ys M0 (fun a' i' k' => D a' i' k' ∨ (a' = a ∧ i' = i ∧ k' = k)) (stf xs ys a i k s) := by
  obtain ⟨⟨hl, h0, hp⟩, hc, ht, hf⟩ := h
  obtain ⟨h1, h2, h3, h4⟩ := hR.2.1 a ha
  unfold stf
  by_cases hb : (stepOk xs i a.inp && stepOk ys k a.out && s.1.getD (idx (xs.length + 1) (ys.length + 1) a.fr.toNat i k) false) = true
  · rw [if_pos hb]
    simp only [Bool.and_eq_true] at hb
    obtain ⟨⟨hx, hy⟩, hm⟩ := hb
    have hi' := step_le xs i a.inp hi hx
    have hk' := step_le ys k a.out hk hy
    have hpath := (hp a.fr.toNat i k (by omega) hi hk hm).trans (by have := Path.one ha; rwa [show a.fr = (a.fr.toNat : Int) by omega] at this)
    rw [← step_take xs i a.inp hx, ← step_take ys k a.out hy] at hpath
    have hlt : idx (xs.length + 1) (ys.length + 1) a.tgt.toNat (i + stepD a.inp) (k + stepD a.out) < s.1.length := by
      rw [hl]; exact idx_lt (by omega) (by omega) (by omega)
    have cs := cf_set s.1 (idx (xs.length + 1) (ys.length + 1) a.tgt.toNat (i + stepD a.inp) (k + stepD a.out))
    refine ⟨⟨by simpa using hl, ?_, ?_⟩, by have := cs.1; simp only; omega, ?_, ?_⟩
    · unfold at3 at h0 ⊢; rw [getD_set]; split
      · rfl
      · exact h0
    · intro q i' k' hq hi2 hk2 hat
      unfold at3 at hat
      rw [getD_set] at hat
      split at hat
      · rename_i he
        obtain ⟨e1, e2, e3⟩ := idx_inj (by omega) (by omega) (by omega) (by omega) he.1
        subst e2 e3
        rwa [show (q : Int) = a.tgt by omega]
      · exact hp q i' k' hq hi2 hk2 hat
    · intro hb
      simp only [Bool.or_eq_true, Bool.not_eq_true'] at hb
      rcases hb with hb | hb
      · have := ht hb; have := cs.1; simp only; omega
      · have := cs.2 hlt hb; simp only; omega
    · intro hb
      simp only [Bool.or_eq_false_iff, Bool.not_eq_false'] at hb
      obtain ⟨e, hd⟩ := hf hb.1
      have es := set_same s.1 _ hb.2
      refine ⟨by rw [es, e], ?_⟩
      rintro a' i' k' (h | ⟨rfl, rfl, rfl⟩)
      · exact hd a' i' k' h
      · intro _ _ _
        rw [← e]
        exact hb.2
  · rw [if_neg hb]
    refine ⟨⟨hl, h0, hp⟩, hc, ht, fun hb2 => ?_⟩
    obtain ⟨e, hd⟩ := hf hb2
    refine ⟨e, ?_⟩
    rintro a' i' k' (h | ⟨rfl, rfl, rfl⟩)
    · exact hd a' i' k' h
    · intro c1 c2 c3
      exfalso
      apply hb
      unfold at3 at c3
      rw [e, c1, c2, c3]
      rfl
theorem Pass.weaken {M0 : List Bool} {D D' : PArc → Nat → Nat → Prop} {s : List Bool × Bool} (h : Pass F xs ys M0 D s) (hD : ∀ a i k, D' a i k → D a i k) : Pass F xs ys M0 D' s :=
  ⟨h.1, h.2.1, h.2.2.1, fun hb => ⟨(h.2.2.2 hb).1, fun a i k hd => (h.2.2.2 hb).2 a i k (hD a i k hd)⟩⟩
theorem Pass.row (hR : Right F) {M0 : List Bool} {D : PArc → Nat → Nat → Prop} {s : List Bool × Bool} (h : Pass F xs ys M0 D s) {a : PArc} (ha : a ∈ F.arcs) {i : Nat} (hi : i ≤ xs.length) (K : Nat) (hK : K ≤ ys.length + 1) :
    Pass F xs ys M0 (fun a' i' k' => D a' i' k' ∨ (a' = a ∧ i' = i ∧ k' < K)) (rowF xs ys a i K s) := by
  induction K with
  | zero => exact h.weaken (by rintro a' i' k' (h | ⟨_, _, h⟩); exact h; omega)
  | succ K ih =>
    rw [rowF_succ]
    refine ((ih (by omega)).step hR ha hi (k := K) (by omega)).weaken ?_
    rintro a' i' k' (h | ⟨h1, h2, h3⟩)
    · exact .inl (.inl h)
    · by_cases e : k' = K
      · exact .inr ⟨h1, h2, e⟩
      · exact .inl (.inr ⟨h1, h2, by omega⟩)
theorem Pass.arc (hR : Right F) {M0 : List Bool} {D : PArc → Nat → Nat → Prop} {s : List Bool × Bool} (h : Pass F xs ys M0 D s) {a : PArc} (ha : a ∈ F.arcs) (I : Nat) (hI : I ≤ xs.length + 1) :
    Pass F xs ys M0 (fun a' i' k' => D a' i' k' ∨ (a' = a ∧ i' < I ∧ k' ≤ ys.length)) (arcF xs ys a I s) := by
  induction I with
  | zero => exact h.weaken (by rintro a' i' k' (h | ⟨_, h, _⟩); exact h; omega)
  | succ I ih =>
    rw [arcF_succ]
    refine ((ih (by omega)).row hR ha (i := I) (by omega) (ys.length + 1) (Nat.le_refl _)).weaken ?_
    rintro a' i' k' (h | ⟨h1, h2, h3⟩)
    · exact .inl (.inl h)
    · by_cases e : i' = I
      · exact .inr ⟨h1, e, by omega⟩
      · exact .inl (.inr ⟨h1, by omega, h3⟩)
theorem Pass.arcs (hR : Right F) (L : List PArc) (hL : ∀ a, a ∈ L → a ∈ F.arcs) : ∀ {M0 : List Bool} {D : PArc → Nat → Nat → Prop} {s : List Bool × Bool}, Pass F xs ys M0 D s →
    Pass F xs ys M0 (fun a' i' k' => D a' i' k' ∨ (a' ∈ L ∧ i' ≤ xs.length ∧ k' ≤ ys.length)) (passF xs ys L s) := by
  induction L with
  | nil => intro M0 D s h; exact h.weaken (by rintro a' i' k' (h | ⟨h, _, _⟩); exact h; cases h)
  | cons a L ih =>
    intro M0 D s h
    have h1 := h.arc hR (hL a (by simp)) (xs.length + 1) (Nat.le_refl _)
    have h2 := ih (fun b hb => hL b (by simp [hb])) h1
    refine h2.weaken ?_
    rintro a' i' k' (h | ⟨h1, h2, h3⟩)
    · exact .inl (.inl h)
    · rcases List.mem_cons.1 h1 with e | e
      · exact .inl (.inr ⟨e, by omega, h3⟩)
      · exact .inr ⟨e, h2, h3⟩
/-- A whole pass: the table stays right; it has changed something, or is closed. -/
theorem pass_whole (hR : Right F) {M : List Bool} (h : Inv F xs ys M) : Inv F xs ys (passF xs ys F.arcs (M, false)).1 ∧ ((passF xs ys F.arcs (M, false)).2 = true → cf (passF xs ys F.arcs (M, false)).1 < cf M) ∧
    ((passF xs ys F.arcs (M, false)).2 = false → Closed F xs ys (passF xs ys F.arcs (M, false)).1) := by
  have h0 : Pass F xs ys M (fun _ _ _ => False) (M, false) := ⟨h, Nat.le_refl _, (fun hb => by cases hb), fun _ => ⟨rfl, fun _ _ _ h => h.elim⟩⟩
  obtain ⟨h1, _, h3, h4⟩ := Pass.arcs hR F.arcs (fun _ h => h) h0
  refine ⟨h1, h3, fun hb a ha i k hi hk => ?_⟩
  obtain ⟨e, hd⟩ := h4 hb
  rw [e]
  exact hd a i k (.inr ⟨ha, hi, hk⟩)
theorem pass_le (hR : Right F) {M : List Bool} (h : Inv F xs ys M) : cf (passF xs ys F.arcs (M, false)).1 ≤ cf M := by
  have h0 : Pass F xs ys M (fun _ _ _ => False) (M, false) := ⟨h, Nat.le_refl _, (fun hb => by cases hb), fun _ => ⟨rfl, fun _ _ _ h => h.elim⟩⟩
  exact (Pass.arcs hR F.arcs (fun _ h => h) h0).2.1
theorem complete (hR : Right F) {M : List Bool} (hc : Closed F xs ys M) {t : Int} (p : List PArc) : ∀ (q : Int) (i k : Nat), 0 ≤ q → i ≤ xs.length → k ≤ ys.length → (∀ a, a ∈ p → a ∈ F.arcs) → chain q p t → ins p = xs.drop i → outs p = ys.drop k →
    at3 xs ys M q.toNat i k = true → at3 xs ys M t.toNat xs.length ys.length = true := by
  induction p with
  | nil =>
    intro q i k _ hi hk _ hch h1 h2 hm
    have e1 : i = xs.length := by have := congrArg List.length h1; simp [ins] at this; omega
    have e2 : k = ys.length := by have := congrArg List.length h2; simp [outs] at this; omega
    subst e1 e2
    simp only [chain] at hch
    subst hch
    exact hm
  | cons a p ih =>
    intro q i k hq hi hk hs hch h1 h2 hm
    obtain ⟨rfl, hch⟩ := hch
    have ha := hs a (by simp)
    obtain ⟨o1, d1⟩ := step_drop xs i a.inp (ins p) (by rw [← h1]; simp [ins])
    obtain ⟨o2, d2⟩ := step_drop ys k a.out (outs p) (by rw [← h2]; simp [outs])
    have := hc a ha i k hi hk o1 o2 hm
    exact ih a.tgt _ _ (hR.2.1 a ha).2.2.1 (step_le _ _ _ hi o1) (step_le _ _ _ hk o2) (fun b hb => hs b (by simp [hb])) hch d1 d2 this
open Classical in
/-- acceptance, as a bool -/
noncomputable def accB (F : PFst) (xs ys : List Int) : Bool := decide (Acc F xs ys)
theorem accB_iff (F : PFst) (xs ys : List Int) : accB F xs ys = true ↔ Acc F xs ys := by simp [accB]
theorem accB_no (F : PFst) (xs ys : List Int) (h : plainB xs = false ∨ plainB ys = false) : accB F xs ys = false := by
  rw [← Bool.not_eq_true, accB_iff]
  rintro ⟨h1, h2, _⟩
  rcases h with h | h
  · rw [h] at h1; cases h1
  · rw [h] at h2; cases h2
/-- what the last loop of the reference asks is acceptance -/
theorem accB_of (hR : Right F) {M : List Bool} (hi : Inv F xs ys M) (hc : Closed F xs ys M) (hx : plainB xs = true) (hy : plainB ys = true) : F.final.any (fun q => at3 xs ys M q.toNat xs.length ys.length) = accB F xs ys := by
  rw [Bool.eq_iff_iff, accB_iff, List.any_eq_true]
  constructor
  · rintro ⟨q, hq, hm⟩
    obtain ⟨h1, h2⟩ := hR.2.2 q hq
    have := hi.2.2 q.toNat xs.length ys.length (by omega) (Nat.le_refl _) (Nat.le_refl _) hm
    rw [List.take_length, List.take_length, show ((q.toNat : Nat) : Int) = q by omega] at this
    exact ⟨hx, hy, q, hq, this⟩
  · rintro ⟨_, _, q, hq, p, h1, h2, h3, h4⟩
    exact ⟨q, hq, complete hR hc p 0 0 0 (Int.le_refl _) (Nat.zero_le _) (Nat.zero_le _) h1 h2 (by simpa using h3) (by simpa using h4) hi.2.1⟩
/-- the table at the start -/
theorem inv_start (hR : Right F) : Inv F xs ys ((List.replicate (size F xs ys) false).set 0 true) := by
  have hs : 0 < size F xs ys := by
    unfold size
    have := hR.1
    exact Nat.mul_pos (Nat.mul_pos (by omega) (by omega)) (by omega)
  refine ⟨by simp, ?_, ?_⟩
  · unfold at3; rw [getD_set]; simp [idx, hs]
  · intro q i k hq hi hk hat
    unfold at3 at hat
    rw [getD_set] at hat
    split at hat
    · rename_i he
      have e0 : idx (xs.length + 1) (ys.length + 1) 0 0 0 = 0 := by simp [idx]
      obtain ⟨e1, e2, e3⟩ := idx_inj (q := 0) (i := 0) (k := 0) (by omega) (by omega) (by omega) (by omega) (e0.trans he.1)
      subst e1 e2 e3
      simpa using Path.nil F.arcs 0
    · simp [List.getElem?_replicate] at hat
      split at hat <;> cases hat
end
end Go.Proofs.Ytdijlakeonionaa

namespace Go.Proofs.Ytdijlakeonionaa
open Go.ChangeShapes Go.WideShapes Go.ChangeAt Go.RowKit

theorem plain_any (v : Value) (xs : List Int) (w : World) (hv : RdI w v xs) :
    Calls Try.prog 55 #[v] w fun e w' => e = .returned (.bool (plainB xs)) ∧ w = w' := by
  obtain ⟨A, n, c, rfl, h1, h2, hn, hr⟩ := hv.op
  clear hv
  go_enter Try.func55, Try.ntmps55
  go_wp2
  go_loop [3] (fun i => ∃ k : Nat, k ≤ n ∧ i = .int .i64 k ∧ Hid (plainB xs = plainB (xs.drop k))) (fun i => n - (intOf i).toNat)
  case atStart => exact ⟨0, Nat.zero_le _, rfl, rfl⟩
  case round =>
    obtain ⟨k, hk, rfl, HP⟩ := hrel
    by_cases hlt : k < n
    · obtain ⟨b, off, x, rfl, hb, hd, hck⟩ := hr.out k hlt
      go_wp2
      · go_ret
        have hx : x < 1 := ‹_›
        refine ⟨?_, rfl⟩
        rw [HP.out, hd.out]
        simp [plainB, show ¬ 1 ≤ x by omega]
      · have hx : 1 ≤ x := ‹_›
        go_round
        case rel => exact ⟨k + 1, by omega, by go_num, by rw [Hid, HP.out, hd.out]; simp [plainB, hx]⟩
        case measure => simp [intOf]; omega
    · go_wp2
      go_ret
      refine ⟨?_, rfl⟩
      rw [HP.out, List.drop_of_length_le (by rw [hn.out]; omega)]
      rfl
end Go.Proofs.Ytdijlakeonionaa

/-
  step of the reference.
-/
namespace Go.Proofs.Ytdijlakeonionaa
open Go.ChangeShapes Go.WideShapes Go.ChangeAt Go.RowKit
set_option maxHeartbeats 400000 in
theorem step_any (v : Value) (xs : List Int) (i : Nat) (x : Int) (w : World) (hv : RdI w v xs) :
    Calls Try.prog 56 #[v, .int .i64 (i : Int), .int .i64 x] w fun e w' => e = .returned (.tuple #[.int .i64 (stepD x : Int), .bool (stepOk xs i x)]) ∧ ∃ nq, w' = w.drewN nq := by
  obtain ⟨A, n, c, rfl, h1, h2, hn, hr⟩ := hv.op
  have hv2 := Lib.hid hv
  clear hv
  by_cases hx : x = 0
  · subst hx
    go_enter Try.func56, Try.ntmps56
    go_wp2
    go_ret2
    exact ⟨by simp [stepD, stepOk], 0, rfl⟩
  · have hb : (x == 0) = false := by simpa using hx
    have HX := Lib.hid hx
    clear hx
    by_cases hlt : i < n
    · obtain ⟨b, off, y, rfl, hb2, hd, hck⟩ := hr.out i hlt
      go_enter Try.func56, Try.ntmps56
      go_wp2
      go_quiet (fail)
      go_wp2
      go_ret2
      refine ⟨?_, _, rfl⟩
      have hy : xs[i]? = some y := by
        have := congrArg (fun t => t[0]?) hd.out
        simpa using this
      simp [stepD, stepOk, HX.out, hy]
    · have hd : decide ((i : Int) < (n : Int)) = false := by simpa using hlt
      go_enter Try.func56, Try.ntmps56
      go_wp2
      go_quiet (fail)
      go_wp2
      go_ret2
      refine ⟨?_, _, rfl⟩
      have hy : xs[i]? = none := by rw [List.getElem?_eq_none]; rw [hn.out]; omega
      simp [stepD, stepOk, HX.out, hy]
end Go.Proofs.Ytdijlakeonionaa

namespace Go.Proofs.Ytdijlakeonionaa
open Go.ChangeShapes Go.WideShapes Go.ChangeAt Go.RowKit
def stateB (n q : Int) : Bool := decide (0 ≤ q ∧ q < n)
def symbolB (x : Int) : Bool := decide (0 ≤ x ∧ x ≤ 1099511627776)
theorem symbol_any (x : Int) (w : World) :
    Calls Try.prog 54 #[.int .i64 x] w fun e w' => e = .returned (.bool (symbolB x)) ∧ w = w' := by
  by_cases h : 0 ≤ x
  · go_enter Try.func54, Try.ntmps54
    go_wp2
    go_ret
    exact ⟨by simp [symbolB, h], rfl⟩
  · have hd : decide (0 ≤ x) = false := by simpa using h
    go_enter Try.func54, Try.ntmps54
    go_wp2
    go_ret
    exact ⟨by simp [symbolB]; omega, rfl⟩

theorem state_any (n q : Int) (va vf : Value) (w : World) :
    Calls Try.prog 53 #[.agg #[.int .i64 n, va, vf], .int .i64 q] w fun e w' => e = .returned (.bool (stateB n q)) ∧ w' = w.alloc (.cells #[.int .i64 n, va, vf] 48) := by
  by_cases h : 0 ≤ q
  · go_enter Try.func53, Try.ntmps53
    go_wp2
    go_ret
    exact ⟨by simp [stateB, h], rfl⟩
  · have hd : decide (0 ≤ q) = false := by simpa using h
    go_enter Try.func53, Try.ntmps53
    go_wp2
    go_ret
    exact ⟨by simp [stateB]; omega, rfl⟩
end Go.Proofs.Ytdijlakeonionaa

namespace Go.Proofs.Ytdijlakeonionaa
open Go.ChangeShapes Go.WideShapes Go.ChangeAt Go.RowKit
def arcsErr (n : Int) : List PArc → Int
  | [] => 0
  | a :: l => if stateB n a.fr && stateB n a.tgt then (if symbolB a.inp && symbolB a.out then arcsErr n l else 1) else 2
def orderErr : List Int → Int
  | x :: y :: l => if y ≤ x then 10 else orderErr (y :: l)
  | _ => 0
def finalErr (n : Int) : List Int → Int
  | [] => 0
  | a :: l => if stateB n a then finalErr n l else 2
def chk (F : PFst) : Int :=
  if F.states < 1 ∨ 4096 < F.states then 2 else if 262144 < F.arcs.length then 11 else
  if arcsErr F.states F.arcs ≠ 0 then arcsErr F.states F.arcs else
  if orderErr F.final ≠ 0 then 10 else finalErr F.states F.final

theorem chk_of (S : Int) (L : List PArc) (M : List Int) (h0 : ¬ S < 1) (h4 : ¬ 4096 < S) (h5 : ¬ 262144 < L.length) : chk ⟨S, L, M⟩ = if arcsErr S L ≠ 0 then arcsErr S L else if orderErr M ≠ 0 then 10 else finalErr S M := by
  simp [chk, h0, h4, h5]

set_option maxHeartbeats 1000000 in
theorem check_any (v : Value) (F : PFst) (w : World) (hv : RdF w v F) :
    Calls Try.prog 26 #[v] w fun e w' => e = .returned (.int .i64 (chk F)) ∧ Below w.heap.size w w' := by
  obtain ⟨va, vf, rfl, ha, hf⟩ := hv
  obtain ⟨A, n, c, rfl, h1, h2, hn, hr⟩ := ha.op
  obtain ⟨A', n', c', rfl, h1', h2', hn', hr'⟩ := hf.op
  obtain ⟨S, L, M⟩ := F
  simp only at hn hr hn' hr' ha hf ⊢
  have hf2 := Lib.hid hf
  have ha2 := Lib.hid ha
  clear hf ha
  by_cases h0 : S < 1
  · go_enter Try.func26, Try.ntmps26
    go_wp2
    go_ret
    exact ⟨by simp [chk, h0], (Below.refl _ _).alloc (Nat.le_refl _) _⟩
  by_cases h4 : 4096 < S
  · have hd : decide (S < 1) = false := by simpa using h0
    go_enter Try.func26, Try.ntmps26
    go_wp2
    go_ret
    exact ⟨by simp [chk, h4], (Below.refl _ _).alloc (Nat.le_refl _) _⟩
  have hd : decide (S < 1) = false := by simpa using h0
  by_cases h5 : 262144 < n
  · go_enter Try.func26, Try.ntmps26
    go_wp2
    go_ret
    exact ⟨by simp [chk, h0, h4, hn.out, h5], (Below.refl _ _).alloc (Nat.le_refl _) _⟩
  go_enter Try.func26, Try.ntmps26
  go_wp2
  generalize hw0 : World.alloc w _ = w0
  have hz : w0.heap.size = w.heap.size + 1 := by rw [← hw0]; simp
  have b0 : w0.cell? ⟨w.heap.size, 0, none⟩ = some (.int .i64 S) := by rw [← hw0]; simp [go_sem]
  have b1 : w0.cell? ⟨w.heap.size, 1, none⟩ = some (.slice A n c) := by rw [← hw0]; simp [go_sem]
  have b2 : w0.cell? ⟨w.heap.size, 2, none⟩ = some (.slice A' n' c') := by rw [← hw0]; simp [go_sem]
  have HB0 : Hid (Below w.heap.size w w0) := by rw [← hw0]; exact (Below.refl _ _).alloc (Nat.le_refl _) _
  have HZ := Lib.hid hz
  have HC := Lib.hid (chk_of S L M (by omega) (by omega) (by rw [hn.out]; omega))
  have Hw0 := Lib.hid hw0
  clear hw0 hz
  go_loopw [3] (fun i wr => ∃ k : Nat, k ≤ n ∧ i = .int .i64 k ∧ Hid (arcsErr S L = arcsErr S (L.drop k)) ∧ Below w0.heap.size w0 wr) (fun i _ => n - (intOf i).toNat)
  case atStart => exact ⟨0, Nat.zero_le _, rfl, rfl, Below.refl _ _⟩
  case round =>
    obtain ⟨k, hk, rfl, HP, HB⟩ := hrel
    have c0 := (HB.cell (p := ⟨w.heap.size, 0, none⟩) (by rw [HZ.out]; simp)).trans b0
    have c1 := (HB.cell (p := ⟨w.heap.size, 1, none⟩) (by rw [HZ.out]; simp)).trans b1
    have c2 := (HB.cell (p := ⟨w.heap.size, 2, none⟩) (by rw [HZ.out]; simp)).trans b2
    have hwz : w.heap.size < wr.heap.size := by have := HB.size; rw [HZ.out] at this; omega
    have hwz2 := HB.size
    have HBw := Lib.hid (bchain HB0.out HB)
    by_cases hlt : k < n
    · obtain ⟨b, off, x0, x1, x2, x3, rfl, hb, hdr, e0, e1, e2, e3⟩ := (hr.out k hlt).below HBw.out
      have HE : Hid (arcsErr S L = if stateB S x0 && stateB S x3 then (if symbolB x1 && symbolB x2 then arcsErr S (L.drop (k + 1)) else 1) else 2) := by rw [Hid, HP.out, hdr.out]; rfl
      cases hs0 : stateB S x0
      · go_wp2_with (first | (go_at_call 53; refine (state_any _ _ _ _ _).mono ?_; rintro e w1 ⟨rfl, rfl⟩) | (go_at_call 54; refine (symbol_any _ _).mono ?_; rintro e w1 ⟨rfl, rfl⟩))
        go_ret
        refine ⟨?_, ?_⟩
        · rw [HC.out, HE.out]; simp [*]
        · (refine bchain HBw.out ?_; repeat (first | assumption | exact Below.refl _ _ | refine Below.alloc ?_ (by first | omega | (simp; done) | (simp; omega)) _ | refine Below.drew ?_ | refine below_drewN ?_ _ | refine Below.setCell ?_ (by first | omega | (simp; done) | (simp; omega)) _))
      cases hs3 : stateB S x3
      · go_wp2_with (first | (go_at_call 53; refine (state_any _ _ _ _ _).mono ?_; rintro e w1 ⟨rfl, rfl⟩) | (go_at_call 54; refine (symbol_any _ _).mono ?_; rintro e w1 ⟨rfl, rfl⟩))
        go_ret
        refine ⟨?_, ?_⟩
        · rw [HC.out, HE.out]; simp [*]
        · (refine bchain HBw.out ?_; repeat (first | assumption | exact Below.refl _ _ | refine Below.alloc ?_ (by first | omega | (simp; done) | (simp; omega)) _ | refine Below.drew ?_ | refine below_drewN ?_ _ | refine Below.setCell ?_ (by first | omega | (simp; done) | (simp; omega)) _))
      cases hs1 : symbolB x1
      · go_wp2_with (first | (go_at_call 53; refine (state_any _ _ _ _ _).mono ?_; rintro e w1 ⟨rfl, rfl⟩) | (go_at_call 54; refine (symbol_any _ _).mono ?_; rintro e w1 ⟨rfl, rfl⟩))
        go_ret
        refine ⟨?_, ?_⟩
        · rw [HC.out, HE.out]; simp [*]
        · (refine bchain HBw.out ?_; repeat (first | assumption | exact Below.refl _ _ | refine Below.alloc ?_ (by first | omega | (simp; done) | (simp; omega)) _ | refine Below.drew ?_ | refine below_drewN ?_ _ | refine Below.setCell ?_ (by first | omega | (simp; done) | (simp; omega)) _))
      cases hs2 : symbolB x2
      · go_wp2_with (first | (go_at_call 53; refine (state_any _ _ _ _ _).mono ?_; rintro e w1 ⟨rfl, rfl⟩) | (go_at_call 54; refine (symbol_any _ _).mono ?_; rintro e w1 ⟨rfl, rfl⟩))
        go_ret
        refine ⟨?_, ?_⟩
        · rw [HC.out, HE.out]; simp [*]
        · (refine bchain HBw.out ?_; repeat (first | assumption | exact Below.refl _ _ | refine Below.alloc ?_ (by first | omega | (simp; done) | (simp; omega)) _ | refine Below.drew ?_ | refine below_drewN ?_ _ | refine Below.setCell ?_ (by first | omega | (simp; done) | (simp; omega)) _))
      go_wp2_with (first | (go_at_call 53; refine (state_any _ _ _ _ _).mono ?_; rintro e w1 ⟨rfl, rfl⟩) | (go_at_call 54; refine (symbol_any _ _).mono ?_; rintro e w1 ⟨rfl, rfl⟩))
      go_roundw
      case rel => exact ⟨k + 1, by omega, by go_num, by rw [Hid, HE.out]; simp [*], by repeat (first | assumption | exact Below.refl _ _ | refine Below.alloc ?_ (by first | omega | (simp; done) | (simp; omega)) _ | refine Below.drew ?_ | refine below_drewN ?_ _ | refine Below.setCell ?_ (by first | omega | (simp; done) | (simp; omega)) _)⟩
      case measure => simp [intOf]; omega
    · have HE : Hid (arcsErr S L = 0) := by rw [Hid, HP.out, List.drop_of_length_le (by rw [hn.out]; omega)]; rfl
      obtain ⟨wo, rfl⟩ : ∃ wo : World, wo = wr := ⟨_, rfl⟩
      go_wp2
      have HBo := Lib.hid HB
      clear HB c0 c1 c2 hr hwz hwz2 HBw HP
      go_loopw [5] (fun i wr => ∃ k : Nat, (k + 1 ≤ n' ∨ k = 0) ∧ i = .int .i64 (k + 1) ∧ Hid (orderErr M = orderErr (M.drop k)) ∧ Below w0.heap.size w0 wr) (fun i _ => n' - (intOf i).toNat)
      case atStart => exact ⟨0, Or.inr rfl, rfl, rfl, HBo.out⟩
      case round =>
        obtain ⟨k, hk, rfl, HP, HB⟩ := hrel
        have c0 := (HB.cell (p := ⟨w.heap.size, 0, none⟩) (by rw [HZ.out]; simp)).trans b0
        have c1 := (HB.cell (p := ⟨w.heap.size, 1, none⟩) (by rw [HZ.out]; simp)).trans b1
        have c2 := (HB.cell (p := ⟨w.heap.size, 2, none⟩) (by rw [HZ.out]; simp)).trans b2
        have hwz : w.heap.size < wr.heap.size := by have := HB.size; rw [HZ.out] at this; omega
        have hwz2 := HB.size
        have HBw := Lib.hid (bchain HB0.out HB)
        by_cases hlt : k + 1 < n'
        · obtain ⟨b, off, x, y, rfl, hb, hdr, e0, e1⟩ := ((hr'.out k (by omega)).below HBw.out).two ((hr'.out (k + 1) hlt).below HBw.out)
          have HO : Hid (orderErr M = if y ≤ x then 10 else orderErr (M.drop (k + 1))) := by
            have h2 := (hr'.out (k + 1) hlt)
            obtain ⟨_, _, y', e, _, h3, _⟩ := h2
            rw [Hid, HP.out, hdr.out, h3.out]
            have : M.drop k = x :: M.drop (k + 1) := by
              have := congrArg (fun l => List.drop 1 l) hdr.out
              simp at this
              rw [hdr.out, this]
            rw [h3.out, hdr.out] at this
            simp at this
            rw [this, orderErr]
          go_wp2
          go_quiet (fail)
          by_cases hyx : y ≤ x
          · go_wp2
            go_ret
            refine ⟨?_, ?_⟩
            · rw [HC.out, HE.out, HO.out]; simp [*]
            · (refine bchain HBw.out ?_; repeat (first | assumption | exact Below.refl _ _ | refine Below.alloc ?_ (by first | omega | (simp; done) | (simp; omega)) _ | refine Below.drew ?_ | refine below_drewN ?_ _ | refine Below.setCell ?_ (by first | omega | (simp; done) | (simp; omega)) _))
          · go_wp2
            go_roundw
            case rel => exact ⟨k + 1, by omega, by go_num, by rw [Hid, HO.out]; simp; omega, by repeat (first | assumption | exact Below.refl _ _ | refine Below.alloc ?_ (by first | omega | (simp; done) | (simp; omega)) _ | refine Below.drew ?_ | refine below_drewN ?_ _ | refine Below.setCell ?_ (by first | omega | (simp; done) | (simp; omega)) _)⟩
            case measure => simp [intOf]; omega
        · have HO : Hid (orderErr M = 0) := by
            rw [Hid, HP.out]
            have hl : (M.drop k).length ≤ 1 := by rw [List.length_drop, hn'.out]; omega
            match M.drop k, hl with
            | [], _ => rfl
            | [_], _ => rfl
          obtain ⟨wo, rfl⟩ : ∃ wo : World, wo = wr := ⟨_, rfl⟩
          go_wp2
          have HBo := Lib.hid HB
          clear HB c0 c1 c2 hwz hwz2 HBw HP
          go_loopw [6] (fun i wr => ∃ k : Nat, k ≤ n' ∧ i = .int .i64 k ∧ Hid (finalErr S M = finalErr S (M.drop k)) ∧ Below w0.heap.size w0 wr) (fun i _ => n' - (intOf i).toNat)
          case atStart => exact ⟨0, Nat.zero_le _, rfl, rfl, HBo.out⟩
          case round =>
            obtain ⟨k, hk, rfl, HP, HB⟩ := hrel
            have c0 := (HB.cell (p := ⟨w.heap.size, 0, none⟩) (by rw [HZ.out]; simp)).trans b0
            have c1 := (HB.cell (p := ⟨w.heap.size, 1, none⟩) (by rw [HZ.out]; simp)).trans b1
            have c2 := (HB.cell (p := ⟨w.heap.size, 2, none⟩) (by rw [HZ.out]; simp)).trans b2
            have hwz : w.heap.size < wr.heap.size := by have := HB.size; rw [HZ.out] at this; omega
            have hwz2 := HB.size
            have HBw := Lib.hid (bchain HB0.out HB)
            by_cases hlt : k < n'
            · obtain ⟨b, off, x, rfl, hb, hdr, e0⟩ := (hr'.out k hlt).below HBw.out
              have HF : Hid (finalErr S M = if stateB S x then finalErr S (M.drop (k + 1)) else 2) := by rw [Hid, HP.out, hdr.out]; rfl
              go_wp2_with fail
              go_region_held3 (fun w' => w'.cell? ⟨w.heap.size, 0, none⟩ = some (.int .i64 S) ∧ w'.cell? ⟨w.heap.size, 1, none⟩ = some (.slice A n c) ∧ w'.cell? ⟨w.heap.size, 2, none⟩ = some (.slice (some ⟨b, off, none⟩) n' c') ∧ w'.cell? ⟨b, off + k, none⟩ = some (.int .i64 x)) (go_keep)
                (first | (go_at_call 53; refine (state_any _ _ _ _ _).mono ?_; rintro e w1 ⟨rfl, rfl⟩))
              cases hs : stateB S x
              · go_wp2
                go_ret
                refine ⟨?_, ?_⟩
                · rw [HC.out, HE.out, HO.out, HF.out]; simp [*]
                · (refine bchain HBw.out ?_; repeat (first | assumption | exact Below.refl _ _ | refine Below.alloc ?_ (by first | omega | (simp; done) | (simp; omega)) _ | refine Below.drew ?_ | refine below_drewN ?_ _ | refine Below.setCell ?_ (by first | omega | (simp; done) | (simp; omega)) _))
              · go_wp2
                go_roundw
                case rel => exact ⟨k + 1, by omega, by go_num, by rw [Hid, HF.out]; simp [*], by repeat (first | assumption | exact Below.refl _ _ | refine Below.alloc ?_ (by first | omega | (simp; done) | (simp; omega)) _ | refine Below.drew ?_ | refine below_drewN ?_ _ | refine Below.setCell ?_ (by first | omega | (simp; done) | (simp; omega)) _)⟩
                case measure => simp [intOf]; omega
            · have HF : Hid (finalErr S M = 0) := by rw [Hid, HP.out, List.drop_of_length_le (by rw [hn'.out]; omega)]; rfl
              go_wp2
              go_ret
              refine ⟨?_, ?_⟩
              · rw [HC.out, HE.out, HO.out, HF.out]; simp
              · (refine bchain HBw.out ?_; repeat (first | assumption | exact Below.refl _ _ | refine Below.alloc ?_ (by first | omega | (simp; done) | (simp; omega)) _ | refine Below.drew ?_ | refine below_drewN ?_ _ | refine Below.setCell ?_ (by first | omega | (simp; done) | (simp; omega)) _))
end Go.Proofs.Ytdijlakeonionaa

/-
  Plain laws of transducers: what Check asks; paths; Pair, Identity, Invert, Union, Concat. No program in sight.
-/
namespace Go.Proofs.Ytdijlakeonionaa

def ArcOk (S : Int) (a : PArc) : Prop := (0 ≤ a.fr ∧ a.fr < S) ∧ (0 ≤ a.tgt ∧ a.tgt < S) ∧ (0 ≤ a.inp ∧ a.inp ≤ 1099511627776) ∧ 0 ≤ a.out ∧ a.out ≤ 1099511627776
/-- what Check accepts -/
structure Good (F : PFst) : Prop where
  s1 : 1 ≤ F.states
  s2 : F.states ≤ 4096
  len : F.arcs.length ≤ 262144
  arc : ∀ a, a ∈ F.arcs → ArcOk F.states a
  ord : F.final.Pairwise (· < ·)
  fin : ∀ q, q ∈ F.final → 0 ≤ q ∧ q < F.states
theorem Good.right {F : PFst} (h : Good F) : Right F := ⟨h.s1, fun a ha => ⟨(h.arc a ha).1.1, (h.arc a ha).1.2, (h.arc a ha).2.1.1, (h.arc a ha).2.1.2⟩, h.fin⟩

theorem Path.cons {L : List PArc} {a : PArc} {t : Int} {xs ys : List Int} (ha : a ∈ L) (h : Path L a.tgt t xs ys) : Path L a.fr t (sym a.inp ++ xs) (sym a.out ++ ys) := (Path.one ha).trans h
theorem Path.induct {L : List PArc} {t : Int} {P : Int → List Int → List Int → Prop} (h0 : P t [] [])
    (h1 : ∀ a, a ∈ L → ∀ xs ys, Path L a.tgt t xs ys → P a.tgt xs ys → P a.fr (sym a.inp ++ xs) (sym a.out ++ ys)) {s : Int} {xs ys : List Int} (h : Path L s t xs ys) : P s xs ys := by
  obtain ⟨p, hp, hc, rfl, rfl⟩ := h
  induction p generalizing s with
  | nil => cases hc; exact h0
  | cons a p ih =>
    obtain ⟨rfl, hc⟩ := hc
    have hp' : ∀ b, b ∈ p → b ∈ L := fun b hb => hp b (by simp [hb])
    exact h1 a (hp a (by simp)) _ _ ⟨p, hp', hc, rfl, rfl⟩ (ih hp' hc)
theorem Path.map {L L' : List PArc} (f : PArc → PArc) (g : Int → Int) (hf : ∀ a, a ∈ L → f a ∈ L' ∧ (f a).fr = g a.fr ∧ (f a).tgt = g a.tgt ∧ (f a).inp = a.inp ∧ (f a).out = a.out) {s t : Int} {xs ys : List Int} (h : Path L s t xs ys) : Path L' (g s) (g t) xs ys := by
  refine Path.induct (P := fun s xs ys => Path L' (g s) (g t) xs ys) (Path.nil _ _) ?_ h
  intro a ha xs ys _ ih
  obtain ⟨h1, h2, h3, h4, h5⟩ := hf a ha
  rw [← h2, ← h4, ← h5]
  rw [← h3] at ih
  exact Path.cons h1 ih
theorem Path.sub {L L' : List PArc} (hs : ∀ a, a ∈ L → a ∈ L') {s t : Int} {xs ys : List Int} (h : Path L s t xs ys) : Path L' s t xs ys := by
  obtain ⟨p, h1, h2⟩ := h
  exact ⟨p, fun a ha => hs a (h1 a ha), h2⟩
theorem plain_sym (x : Int) (h : 0 ≤ x) : plainB (sym x) = true := by
  unfold sym plainB
  by_cases hx : x = 0
  · simp [hx]
  · simp [hx]; omega
theorem plain_append (l m : List Int) : plainB (l ++ m) = (plainB l && plainB m) := by simp [plainB]
theorem Path.plain {L : List PArc} (hL : ∀ a, a ∈ L → 0 ≤ a.inp ∧ 0 ≤ a.out) {s t : Int} {xs ys : List Int} (h : Path L s t xs ys) : plainB xs = true ∧ plainB ys = true := by
  refine Path.induct (P := fun _ xs ys => plainB xs = true ∧ plainB ys = true) ⟨rfl, rfl⟩ ?_ h
  intro a ha xs ys _ ih
  rw [plain_append, plain_append, ih.1, ih.2, plain_sym _ (hL a ha).1, plain_sym _ (hL a ha).2]
  exact ⟨rfl, rfl⟩
/-! Pair -/
/-! Identity -/
/-! Invert -/
/-! moved transducers -/
/-! Union -/
/-! Concat -/
end Go.Proofs.Ytdijlakeonionaa

/-
  A region that draws its order: some operations only read ('head': they may be taken first, because what they read stays as it is till operation number n, which waits for all of them), the others come in one forced order ('tail').
-/
namespace Go
section
variable {P : Program} {ops : Array Oper} {Q : Exit → Act → World → Prop} {md : Region.Mode} {S : World → Prop}

theorem wanted_plain {o : Oper} (h : o.guard = none) (y : Nat → Option Bool) : Region.wanted o y = true := by simp [Region.wanted, h]

/-- whatever order is picked; an operation of U leaves the world as it is; S holds behind every other operation below number n -/
def wpAnyE (P : Program) (md : Region.Mode) (ops : Array Oper) (Q : Exit → Act → World → Prop) (S : World → Prop) (n : Nat) (U : List Nat) : Nat → Array Bool → Act → World → Prop
  | 0, listed, a, w => Region.ready md ops listed = [] ∧ Q .normal a w
  | fuel + 1, listed, a, w =>
    (Region.ready md ops listed = [] → Q .normal a w) ∧
    ∀ i ∈ Region.ready md ops listed, wpOp P ops Q i (fun a' w' => ((i ∈ U → w' = w) ∧ (i ∉ U → i < n → S w')) ∧ wpAnyE P md ops Q S n U fuel (listed.setIfInBounds i true) a' w') a w

theorem wpAny_of_E {n : Nat} {U : List Nat} : ∀ (fuel : Nat) (listed : Array Bool) (a : Act) (w : World), wpAnyE P md ops Q S n U fuel listed a w → wpAny P md ops Q fuel listed a w
  | 0, _, _, _, h => h
  | fuel + 1, _, _, _, h => ⟨h.1, fun i hi => wpOp_mono (fun a' w' h' => wpAny_of_E fuel _ a' w' h'.2) (h.2 i hi)⟩

def Region.sinkA (md : Region.Mode) (ops : Array Oper) (n : Nat) (A : List Nat) : Bool :=
  A.all fun i => decide (i < n) && (List.range (n + 1)).any fun j => decide (i < j) && ((decide (j = n) || A.contains j) && Region.waitsFor md ops j i)
theorem tail_waitsA {n : Nat} {A : List Nat} {listed : Array Bool} (hs : Region.sinkA md ops n A = true) (hc : Region.chainB md ops n = true) (inv : HeadInv md ops n listed) :
    ∀ (d i : Nat), n - i = d → i ∈ A → listed.getD i true = false → ∀ t, n ≤ t → t ∉ Region.ready md ops listed := by
  intro d
  induction d using Nat.strongRecOn with
  | _ d ih =>
    intro i hd hi hun t ht hr
    obtain ⟨_, ot, hot, hall⟩ := mem_ready.1 hr
    have htlt : t < ops.size := (Array.getElem?_eq_some_iff.1 hot).1
    have h0 := List.all_eq_true.1 hs i hi
    simp only [Bool.and_eq_true, decide_eq_true_eq] at h0
    by_cases htn : t = n
    · subst htn
      obtain ⟨j, hj, hj2⟩ := List.any_eq_true.1 h0.2
      simp only [Bool.and_eq_true, decide_eq_true_eq, Bool.or_eq_true] at hj2
      obtain ⟨hij, hjA, hjw⟩ := hj2
      obtain ⟨oj, hoj, e, he, hb, hon⟩ := Region.waitsFor_spec hjw
      by_cases hjt : j = t
      · subst hjt
        have : oj = ot := Option.some.inj (hoj.symm.trans hot)
        subst this
        have h2 := hall e he hb
        rw [hon, getD_both hun] at h2
        cases h2
      · have hjA' : j ∈ A := by
          rcases hjA with h | h
          · exact absurd h hjt
          · simpa using h
        cases hl : listed.getD j false with
        | true =>
          have h2 := inv.closed j oj hoj hl e he hb
          rw [hon, getD_both hun] at h2
          cases h2
        | false =>
          have hjs : j < listed.size := by rw [inv.size]; exact (Array.getElem?_eq_some_iff.1 hoj).1
          have hjn := (List.mem_range.1 hj)
          exact ih (t - j) (by omega) j rfl hjA' (getD_in hjs hl) t (Nat.le_refl _) hr
    · have h1 := List.all_eq_true.1 hc t (List.mem_range.2 htlt)
      simp only [Bool.or_eq_true, decide_eq_true_eq] at h1
      rcases h1 with h1 | h1
      · omega
      · obtain ⟨o', ho', e, he, hb, hon⟩ := Region.waitsFor_spec h1
        have : o' = ot := Option.some.inj (ho'.symm.trans hot)
        subst this
        have h2 := hall e he hb
        rw [hon, getD_both (inv.tail (t - 1) (by omega) (by omega))] at h2
        cases h2

theorem hfree_set {i j : Nat} {oi : Oper} {listed : Array Bool} (hjun : listed.getD j true = false)
    (hfree : ∀ j oj, ops[j]? = some oj → j ≠ i → listed.getD j true = false → (∀ e ∈ oj.after, Region.binds md e = true → e.on ≠ i) → oi.apart ops oj = true) :
    ∀ k ok, ops[k]? = some ok → k ≠ i → (listed.setIfInBounds j true).getD k true = false → (∀ e ∈ ok.after, Region.binds md e = true → e.on ≠ i) → oi.apart ops ok = true := fun k ok hk hki hun hno => by
  refine hfree k ok hk hki ?_ hno
  by_cases hjk : j = k
  · subst hjk; exact hjun
  · rw [getD_set_ne true hjk] at hun; exact hun
theorem wpAnyE_pure {n i : Nat} {U : List Nat} {oi : Oper} {v : Value} (hi : ops[i]? = some oi) (hsel : ∀ (j : Nat) (o : Oper) cs b, ops[j]? = some o → o.op ≠ .select cs b) (hU : i ∈ U)
    (hQ : ∀ c a w, Q (.panic c) (a.put oi.dst v) w → Q (.panic c) a w) :
    ∀ (fuel : Nat) (listed : Array Bool) (a : Act) (w : World),
      (∀ j oj, ops[j]? = some oj → j ≠ i → listed.getD j true = false → (∀ e ∈ oj.after, Region.binds md e = true → e.on ≠ i) → oi.apart ops oj = true) →
      i ∈ Region.ready md ops listed → YieldsIf P ops (fun _ => True) oi v a →
      wpAnyE P md ops Q S n U fuel (listed.setIfInBounds i true) (a.put oi.dst v) w → wpAnyE P md ops Q S n U (fuel + 1) listed a w := by
  intro fuel
  induction fuel with
  | zero =>
    intro listed a w _ hr hy H
    refine ⟨fun h => (by rw [h] at hr; cases hr), fun j hj => ?_⟩
    by_cases hji : j = i
    · subst hji; exact hy.wpOp hi trivial ⟨⟨fun _ => rfl, fun h => absurd hU h⟩, H⟩
    · have := ready_mono hj hji
      rw [H.1] at this
      cases this
  | succ fuel ih =>
    intro listed a w hfree hr hy H
    have hun := (mem_ready.1 hr).1
    refine ⟨fun h => (by rw [h] at hr; cases hr), fun j hj => ?_⟩
    by_cases hji : j = i
    · subst hji; exact hy.wpOp hi trivial ⟨⟨fun _ => rfl, fun h => absurd hU h⟩, H⟩
    · have h1 := H.2 j (ready_mono hj hji)
      obtain ⟨hjun, oj, hoj, hall⟩ := mem_ready.1 hj
      have hnot : ∀ e ∈ oj.after, Region.binds md e = true → e.on ≠ i := fun e he hb heq => by
        have h1 := hall e he hb
        rw [heq, getD_both hun] at h1
        cases h1
      have h2 := wpOp_putIf hoj (hfree j oj hoj hji hjun hnot) (fun cs b => hsel i oi cs b hi) (fun cs b => hsel j oj cs b hoj) hQ hy h1
      refine wpOp_mono (fun a' w' h3 => ⟨h3.2.1, ih (listed.setIfInBounds j true) a' w' (hfree_set hjun hfree) (ready_mono hr (Ne.symm hji)) h3.1 ?_⟩) h2
      rw [Array.setIfInBounds_comm _ _ hji]
      exact h3.2.2
theorem wpAnyE_first {n i : Nat} {A U : List Nat} {oi : Oper} {v : Value} (hi : ops[i]? = some oi) (hsel : ∀ (j : Nat) (o : Oper) cs b, ops[j]? = some o → o.op ≠ .select cs b)
    (hs : Region.sinkA md ops n A = true) (hc : Region.chainB md ops n = true) (hiA : i ∈ A)
    (hQ : ∀ c a w, Q (.panic c) (a.put oi.dst v) w → Q (.panic c) a w) :
    ∀ (fuel : Nat) (listed : Array Bool) (a : Act) (w : World), HeadInv md ops n listed →
      (∀ j oj, ops[j]? = some oj → j ≠ i → listed.getD j true = false → (∀ e ∈ oj.after, Region.binds md e = true → e.on ≠ i) → oi.apart ops oj = true) →
      i ∈ Region.ready md ops listed → YieldsIf P ops S oi v a → S w →
      wpAnyE P md ops Q S n U fuel (listed.setIfInBounds i true) (a.put oi.dst v) w → wpAnyE P md ops Q S n U (fuel + 1) listed a w := by
  intro fuel
  induction fuel with
  | zero =>
    intro listed a w _ _ hr hy hS H
    refine ⟨fun h => (by rw [h] at hr; cases hr), fun j hj => ?_⟩
    by_cases hji : j = i
    · subst hji; exact hy.wpOp hi hS ⟨⟨fun _ => rfl, fun _ _ => hS⟩, H⟩
    · have := ready_mono hj hji
      rw [H.1] at this
      cases this
  | succ fuel ih =>
    intro listed a w inv hfree hr hy hS H
    have hun := (mem_ready.1 hr).1
    refine ⟨fun h => (by rw [h] at hr; cases hr), fun j hj => ?_⟩
    have hjn : j < n := by
      rcases Nat.lt_or_ge j n with h | h
      · exact h
      · exact absurd hj (tail_waitsA hs hc inv _ i rfl hiA hun j h)
    by_cases hji : j = i
    · subst hji; exact hy.wpOp hi hS ⟨⟨fun _ => rfl, fun _ _ => hS⟩, H⟩
    · have h1 := H.2 j (ready_mono hj hji)
      obtain ⟨hjun, oj, hoj, hall⟩ := mem_ready.1 hj
      have hnot : ∀ e ∈ oj.after, Region.binds md e = true → e.on ≠ i := fun e he hb heq => by
        have h1 := hall e he hb
        rw [heq, getD_both hun] at h1
        cases h1
      have h2 := wpOp_putIf hoj (hfree j oj hoj hji hjun hnot) (fun cs b => hsel i oi cs b hi) (fun cs b => hsel j oj cs b hoj) hQ hy h1
      have hSw : ∀ w' : World, ((j ∈ U → w' = w) ∧ (j ∉ U → j < n → S w')) → S w' := fun w' h => by
        by_cases hjU : j ∈ U
        · rw [h.1 hjU]; exact hS
        · exact h.2 hjU hjn
      refine wpOp_mono (fun a' w' h3 => ⟨h3.2.1, ih (listed.setIfInBounds j true) a' w' (inv.set hj hjn) (hfree_set hjun hfree) (ready_mono hr (Ne.symm hji)) h3.1 (hSw w' h3.2.1) ?_⟩) h2
      rw [Array.setIfInBounds_comm _ _ hji]
      exact h3.2.2

/-- the operations of the head, taken one by one -/
def wpHead (P : Program) (ops : Array Oper) (S : World → Prop) (A : List Nat) (K : Act → World → Prop) : List Nat → Act → World → Prop
  | [], a, w => K a w
  | i :: r, a, w => ∃ o v, ops[i]? = some o ∧ YieldsIf P ops (fun w' => A.contains i = true → S w') o v a ∧ wpHead P ops S A K r (a.put o.dst v) w
/-- the operations of the tail, one by one; S is shown anew behind each below number n -/
def wpTail (P : Program) (ops : Array Oper) (Q : Exit → Act → World → Prop) (S : World → Prop) (n : Nat) : List Nat → Act → World → Prop
  | [], a, w => Q .normal a w
  | i :: r, a, w => wpOp P ops Q i (fun a' w' => (i < n → S w') ∧ wpTail P ops Q S n r a' w') a w
def Region.tailB (md : Region.Mode) (ops : Array Oper) (U : List Nat) : Array Bool → List Nat → Bool
  | listed, [] => (Region.ready md ops listed).isEmpty
  | listed, t :: r => decide (Region.ready md ops listed = [t]) && (!U.contains t && Region.tailB md ops U (listed.setIfInBounds t true) r)
def Region.headB (md : Region.Mode) (ops : Array Oper) (n : Nat) (A U T : List Nat) : Array Bool → List Nat → Bool
  | listed, [] => Region.tailB md ops U listed T
  | listed, i :: r => (Region.ready md ops listed).contains i && (decide (i < n) && ((A.contains i || U.contains i) && (Region.free md ops listed i && Region.headB md ops n A U T (listed.setIfInBounds i true) r)))
def Region.ordB (md : Region.Mode) (ops : Array Oper) (n : Nat) (A U H T : List Nat) : Bool :=
  Region.noSelect ops && (decide (H.length + T.length = ops.size) && (Region.sinkA md ops n A && (Region.chainB md ops n && Region.headB md ops n A U T (Array.replicate ops.size false) H)))

theorem wpAnyE_tail {n : Nat} {U : List Nat} : ∀ (T : List Nat) (listed : Array Bool) (a : Act) (w : World), Region.tailB md ops U listed T = true → wpTail P ops Q S n T a w → wpAnyE P md ops Q S n U T.length listed a w
  | [], listed, a, w, hB, h => ⟨by simpa [Region.tailB] using hB, h⟩
  | t :: T, listed, a, w, hB, h => by
    simp only [Region.tailB, Bool.and_eq_true, decide_eq_true_eq] at hB
    refine ⟨fun h0 => (by rw [hB.1] at h0; cases h0), fun i hi => ?_⟩
    rw [hB.1] at hi
    have hit : i = t := by simpa using hi
    subst hit
    have hiU : i ∉ U := by simpa using hB.2.1
    exact wpOp_mono (fun a' w' h' => ⟨⟨fun h => absurd h hiU, fun _ => h'.1⟩, wpAnyE_tail T _ a' w' hB.2.2 h'.2⟩) h
theorem YieldsIf.weaken {S S' : World → Prop} {o : Oper} {v : Value} {a : Act} (h : YieldsIf P ops S o v a) (hS : ∀ w, S' w → S w) : YieldsIf P ops S' o v a :=
  h.imp (fun ⟨h1, h2⟩ => ⟨h1, fun w hw => h2 w (hS w hw)⟩) id
theorem wpAnyE_head {n : Nat} {A U T : List Nat} (hsel : Region.noSelect ops = true) (hs : Region.sinkA md ops n A = true) (hc : Region.chainB md ops n = true)
    (hQ : ∀ c a d v w, Q (.panic c) (Act.put a d v) w → Q (.panic c) a w) : ∀ (H : List Nat) (listed : Array Bool) (a : Act) (w : World), HeadInv md ops n listed → Region.headB md ops n A U T listed H = true → S w →
      wpHead P ops S A (wpTail P ops Q S n T) H a w → wpAnyE P md ops Q S n U (H.length + T.length) listed a w
  | [], listed, a, w, _, hB, _, h => by
    simp only [List.length_nil, Nat.zero_add]
    exact wpAnyE_tail T listed a w hB h
  | i :: H, listed, a, w, inv, hB, hS, h => by
    simp only [Region.headB, Bool.and_eq_true, decide_eq_true_eq] at hB
    obtain ⟨h1, h2, hAU, h3, h4⟩ := hB
    obtain ⟨o, v, ho, hy, hr⟩ := h
    have hrd : i ∈ Region.ready md ops listed := by simpa using h1
    rw [show (i :: H).length + T.length = (H.length + T.length) + 1 by simp; omega]
    have hrec := wpAnyE_head hsel hs hc hQ H _ _ w (inv.set hrd h2) h4 hS hr
    cases hA : A.contains i with
    | true =>
      exact wpAnyE_first ho (Region.noSelect_spec hsel) hs hc (by simpa using hA) (fun c a w h => hQ c a _ _ w h) _ listed a w inv (Region.free_spec ho h3) hrd (hy.weaken fun w hw _ => hw) hS hrec
    | false =>
      have hU : i ∈ U := by rw [hA] at hAU; simpa using hAU
      exact wpAnyE_pure ho (Region.noSelect_spec hsel) hU (fun c a w h => hQ c a _ _ w h) _ listed a w (Region.free_spec ho h3) hrd (hy.weaken fun w _ h => absurd h (by rw [hA]; simp)) hrec
/-- A region by its head and its tail; it is shown not to panic. -/
theorem wp_region_ord {id : Nat} {a : Act} {w : World} (n : Nat) (A U H T : List Nat) (S : World → Prop) (hm : P.follows .mixedOrders = true) (hB : Region.ordB .any ops n A U H T = true)
    (h : ∀ D : World, D = w.drew → S D ∧ wpHead P ops S A (wpTail P ops (NoPanic Q) S n T) H a D) : (Code.region id ops true).wp P Q a w := by
  obtain ⟨hS, h⟩ := h _ rfl
  simp only [Region.ordB, Bool.and_eq_true, decide_eq_true_eq] at hB
  obtain ⟨h1, h3, h4, h5, h6⟩ := hB
  refine wp_region_noPanic (wp_region_any hm ?_)
  have inv0 : HeadInv .any ops n (Array.replicate ops.size false) :=
    ⟨by simp, fun j oj _ hl => (by rw [getD_replicate_false] at hl; cases hl), fun t _ ht => getD_in (by simpa using ht) (getD_replicate_false _ _)⟩
  have := wpAnyE_head h1 h4 h5 (fun _ _ _ _ _ h => h) H _ a w.drew inv0 h6 hS h
  rw [h3] at this
  exact wpAny_of_E _ _ _ _ this

theorem wpHead_nil {A : List Nat} {K : Act → World → Prop} {a : Act} {w : World} (h : K a w) : wpHead P ops S A K [] a w := h
theorem wpHead_cons {l : List Oper} {A : List Nat} {K : Act → World → Prop} {a : Act} {w : World} {i : Nat} {r : List Nat} {o : Oper} {v : Value} (hi : l[i]? = some o) (hg : o.guard = none)
    (hy : ∀ w', (A.contains i = true → S w') → (execOp a.eval o).run P w' = .ok (.value v) w') (h : wpHead P l.toArray S A K r (a.put o.dst v) w) : wpHead P l.toArray S A K (i :: r) a w :=
  ⟨o, v, by simpa using hi, .inl ⟨wanted_plain hg _, hy⟩, h⟩
theorem wpTail_nil {n : Nat} {a : Act} {w : World} (h : Q .normal a w) : wpTail P ops Q S n [] a w := h
theorem wpTail_cons {l : List Oper} {n : Nat} {a : Act} {w : World} {i : Nat} {r : List Nat} {o : Oper} (hi : l[i]? = some o) (hg : o.guard = none)
    (h : ∀ K : Act → World → Prop, RowKit.Hid (∀ a' w', (i < n → S w') → wpTail P l.toArray Q S n r a' w' → K a' w') → o.wp P a w K Q) : wpTail P l.toArray Q S n (i :: r) a w := by
  show wpOp P l.toArray Q i _ a w
  unfold wpOp
  have hi : l.toArray[i]? = some o := by simpa using hi
  simp only [hi, wanted_plain hg, if_true]
  exact .inl (h _ (fun a' w' h1 h2 => ⟨h1, h2⟩))
theorem wpTail_list {l : List Oper} {n : Nat} : ∀ (m k : Nat) (a : Act) (w : World), n ≤ k → k + m = l.length → wpList P l.toArray Q (l.drop k) a w → wpTail P l.toArray Q S n (List.range' k m) a w
  | 0, k, a, w, _, hk, h => by
    rw [List.drop_of_length_le (by omega)] at h
    exact h
  | m + 1, k, a, w, hn, hk, h => by
    have hlt : k < l.length := by omega
    rw [List.drop_eq_getElem_cons hlt] at h
    rw [List.range'_succ]
    show wpOp P l.toArray Q k _ a w
    unfold wpList at h
    unfold wpOp
    have ho : l.toArray[k]? = some l[k] := by simp [hlt]
    simp only [ho]
    by_cases hw : Region.wanted l[k] (yielded l.toArray a.tmps) = true
    · rw [if_pos hw] at h ⊢
      exact h.imp (Oper.wp_mono fun a' w' h' => ⟨fun hc => absurd hc (by omega), wpTail_list m (k + 1) a' w' (by omega) (by omega) h'⟩) id
    · rw [if_neg hw] at h ⊢
      exact ⟨fun hc => absurd hc (by omega), wpTail_list m (k + 1) _ w (by omega) (by omega) h⟩
/-- behind the head and the tail's first part: a plain walk -/
theorem wpTail_rest {l : List Oper} {n : Nat} (k : Nat) {T : List Nat} {a : Act} {w : World} (hT : (decide (n ≤ k) && decide (k ≤ l.length) && T == List.range' k (l.length - k)) = true) (h : wpList P l.toArray Q (l.drop k) a w) : wpTail P l.toArray Q S n T a w := by
  simp only [Bool.and_eq_true, decide_eq_true_eq, beq_iff_eq] at hT
  rw [hT.2]
  exact wpTail_list _ k a w hT.1.1 (by have := hT.1.2; omega) h
end
end Go

/-
  A region that draws its order, with guards: steps that only read (taken as soon as they may come up) and steps that come in one forced order, mixed.
-/
namespace Go
section
variable {P : Program} {ops : Array Oper} {Q : Exit → Act → World → Prop} {md : Region.Mode} {S : World → Prop}
def wpMix (P : Program) (ops : Array Oper) (Q : Exit → Act → World → Prop) (S : World → Prop) (n : Nat) (A : List Nat) : List (Bool × Nat) → Act → World → Prop
  | [], a, w => Q .normal a w
  | (true, i) :: r, a, w => ∃ o v, ops[i]? = some o ∧ YieldsIf P ops (fun w' => A.contains i = true → S w') o v a ∧ wpMix P ops Q S n A r (a.put o.dst v) w
  | (false, i) :: r, a, w => wpOp P ops Q i (fun a' w' => (i < n → S w') ∧ wpMix P ops Q S n A r a' w') a w
def Region.mixB (md : Region.Mode) (ops : Array Oper) (n : Nat) (A U : List Nat) : Array Bool → List (Bool × Nat) → Bool
  | listed, [] => (Region.ready md ops listed).isEmpty
  | listed, (true, i) :: r => (Region.ready md ops listed).contains i && (decide (i < n) && ((A.contains i || U.contains i) && (Region.free md ops listed i && Region.mixB md ops n A U (listed.setIfInBounds i true) r)))
  | listed, (false, i) :: r => decide (Region.ready md ops listed = [i]) && (!U.contains i && ((decide (i < n) || r.all (fun p => !p.1)) && Region.mixB md ops n A U (listed.setIfInBounds i true) r))
def Region.mixOk (md : Region.Mode) (ops : Array Oper) (n : Nat) (A U : List Nat) (L : List (Bool × Nat)) : Bool :=
  Region.noSelect ops && (decide (L.length = ops.size) && (Region.sinkA md ops n A && (Region.chainB md ops n && Region.mixB md ops n A U (Array.replicate ops.size false) L)))
theorem wpAnyE_mix {n : Nat} {A U : List Nat} (hsel : Region.noSelect ops = true) (hs : Region.sinkA md ops n A = true) (hc : Region.chainB md ops n = true)
    (hQ : ∀ c a d v w, Q (.panic c) (Act.put a d v) w → Q (.panic c) a w) : ∀ (L : List (Bool × Nat)) (listed : Array Bool) (a : Act) (w : World), Region.mixB md ops n A U listed L = true →
      ((HeadInv md ops n listed ∧ S w) ∨ L.all (fun p => !p.1) = true) → wpMix P ops Q S n A L a w → wpAnyE P md ops Q S n U L.length listed a w
  | [], listed, a, w, hB, _, h => ⟨by simpa [Region.mixB] using hB, h⟩
  | (true, i) :: L, listed, a, w, hB, hI, h => by
    rcases hI with ⟨inv, hS⟩ | hI
    · simp only [Region.mixB, Bool.and_eq_true, decide_eq_true_eq] at hB
      obtain ⟨h1, h2, hAU, h3, h4⟩ := hB
      obtain ⟨o, v, ho, hy, hr⟩ := h
      have hrd : i ∈ Region.ready md ops listed := by simpa using h1
      have hrec := wpAnyE_mix hsel hs hc hQ L _ _ w h4 (.inl ⟨inv.set hrd h2, hS⟩) hr
      cases hA : A.contains i with
      | true =>
        exact wpAnyE_first ho (Region.noSelect_spec hsel) hs hc (by simpa using hA) (fun c a w h => hQ c a _ _ w h) _ listed a w inv (Region.free_spec ho h3) hrd (hy.weaken fun w hw _ => hw) hS hrec
      | false =>
        have hU : i ∈ U := by rw [hA] at hAU; simpa using hAU
        exact wpAnyE_pure ho (Region.noSelect_spec hsel) hU (fun c a w h => hQ c a _ _ w h) _ listed a w (Region.free_spec ho h3) hrd (hy.weaken fun w _ h => absurd h (by rw [hA]; simp)) hrec
    · simp at hI
  | (false, t) :: L, listed, a, w, hB, hI, h => by
    simp only [Region.mixB, Bool.and_eq_true, decide_eq_true_eq, Bool.or_eq_true] at hB
    obtain ⟨h1, h2, h3, h4⟩ := hB
    have hrd : t ∈ Region.ready md ops listed := by rw [h1]; simp
    refine ⟨fun h0 => (by rw [h1] at h0; cases h0), fun i hi => ?_⟩
    rw [h1] at hi
    have hit : i = t := by simpa using hi
    subst hit
    have hiU : i ∉ U := by simpa using h2
    refine wpOp_mono (fun a' w' h' => ⟨⟨fun h => absurd h hiU, fun _ => h'.1⟩, wpAnyE_mix hsel hs hc hQ L _ a' w' h4 ?_ h'.2⟩) h
    rcases hI with ⟨inv, _⟩ | hI
    · by_cases hin : i < n
      · exact .inl ⟨inv.set hrd hin, h'.1 hin⟩
      · rcases h3 with h3 | h3
        · exact absurd h3 hin
        · exact .inr h3
    · simp only [List.all_cons, Bool.and_eq_true] at hI
      exact .inr hI.2
/-- A region by its mixed steps; it is shown not to panic. -/
theorem wp_region_mix {id : Nat} {a : Act} {w : World} (n : Nat) (A U : List Nat) (L : List (Bool × Nat)) (S : World → Prop) (hm : P.follows .mixedOrders = true) (hB : Region.mixOk .any ops n A U L = true)
    (h : ∀ D : World, D = w.drew → S D ∧ wpMix P ops (NoPanic Q) S n A L a D) : (Code.region id ops true).wp P Q a w := by
  obtain ⟨hS, h⟩ := h _ rfl
  simp only [Region.mixOk, Bool.and_eq_true, decide_eq_true_eq] at hB
  obtain ⟨h1, h3, h4, h5, h6⟩ := hB
  refine wp_region_noPanic (wp_region_any hm ?_)
  have inv0 : HeadInv .any ops n (Array.replicate ops.size false) :=
    ⟨by simp, fun j oj _ hl => (by rw [getD_replicate_false] at hl; cases hl), fun t _ ht => getD_in (by simpa using ht) (getD_replicate_false _ _)⟩
  have := wpAnyE_mix h1 h4 h5 (fun _ _ _ _ _ h => h) L _ a w.drew h6 (.inl ⟨inv0, hS⟩) h
  rw [h3] at this
  exact wpAny_of_E _ _ _ _ this
section
variable {l : List Oper} {A : List Nat} {a : Act} {w : World} {i n : Nat} {r : List (Bool × Nat)} {o : Oper} {v : Value}
theorem wpMix_nil (h : Q .normal a w) : wpMix P ops Q S n A [] a w := h
theorem wpMix_q (hi : l[i]? = some o) (hw : Region.wanted o (yielded l.toArray a.tmps) = true)
    (hy : ∀ w', (A.contains i = true → S w') → (execOp a.eval o).run P w' = .ok (.value v) w') (h : wpMix P l.toArray Q S n A r (a.put o.dst v) w) : wpMix P l.toArray Q S n A ((true, i) :: r) a w :=
  ⟨o, v, by simpa using hi, .inl ⟨hw, hy⟩, h⟩
theorem wpMix_qskip (hi : l[i]? = some o) (hw : Region.wanted o (yielded l.toArray a.tmps) = false)
    (h : wpMix P l.toArray Q S n A r (a.put o.dst undef) w) : wpMix P l.toArray Q S n A ((true, i) :: r) a w :=
  ⟨o, undef, by simpa using hi, .inr ⟨hw, rfl⟩, h⟩
theorem wpMix_e (hi : l[i]? = some o) (hw : Region.wanted o (yielded l.toArray a.tmps) = true)
    (h : ∀ K : Act → World → Prop, RowKit.Hid (∀ a' w', (i < n → S w') → wpMix P l.toArray Q S n A r a' w' → K a' w') → o.wp P a w K Q) : wpMix P l.toArray Q S n A ((false, i) :: r) a w := by
  show wpOp P l.toArray Q i _ a w
  unfold wpOp
  have hi : l.toArray[i]? = some o := by simpa using hi
  simp only [hi, hw, if_true]
  exact .inl (h _ (fun a' w' h1 h2 => ⟨h1, h2⟩))
theorem wpMix_eskip (hi : l[i]? = some o) (hw : Region.wanted o (yielded l.toArray a.tmps) = false) (hS : S w)
    (h : wpMix P l.toArray Q S n A r (a.put o.dst undef) w) : wpMix P l.toArray Q S n A ((false, i) :: r) a w := by
  show wpOp P l.toArray Q i _ a w
  unfold wpOp
  have hi : l.toArray[i]? = some o := by simpa using hi
  simp only [hi, hw, Bool.false_eq_true, if_false]
  exact ⟨fun _ => hS, h⟩
end
end
end Go

/-
  A region that draws its order, step by step: what only reads is taken first; where several others may come up, each is walked.
-/
namespace Go
section
variable {P : Program} {l : List Oper} {Q : Exit → Act → World → Prop} {S : World → Prop} {n f : Nat} {A U : List Nat} {listed : Array Bool} {a : Act} {w : World}
def wpE (P : Program) (l : List Oper) (Q : Exit → Act → World → Prop) (S : World → Prop) (n : Nat) (A U : List Nat) (f : Nat) (listed : Array Bool) (a : Act) (w : World) : Prop :=
  (HeadInv .any l.toArray n listed ∧ Region.noSelect l.toArray = true ∧ Region.sinkA .any l.toArray n A = true ∧ Region.chainB .any l.toArray n = true) → (∀ c a d v w, Q (.panic c) (Act.put a d v) w → Q (.panic c) a w) → wpAnyE P .any l.toArray Q S n U f listed a w
def Region.qB (l : List Oper) (n : Nat) (A U : List Nat) (listed : Array Bool) (i : Nat) : Bool :=
  (Region.ready .any l.toArray listed).contains i && (decide (i < n) && ((A.contains i || U.contains i) && Region.free .any l.toArray listed i))
def Region.startB (l : List Oper) (N n : Nat) (A : List Nat) : Bool :=
  Region.noSelect l.toArray && (decide (l.toArray.size = N) && (Region.sinkA .any l.toArray n A && Region.chainB .any l.toArray n))
theorem wp_region_steps {id : Nat} (N n : Nat) (A U : List Nat) (S : World → Prop) (hm : P.follows .mixedOrders = true) (hB : Region.startB l N n A = true)
    (h : ∀ D : World, D = w.drew → wpE P l (NoPanic Q) S n A U N (Array.replicate N false) a D) : (Code.region id l.toArray true).wp P Q a w := by
  simp only [Region.startB, Bool.and_eq_true, decide_eq_true_eq] at hB
  obtain ⟨h1, h3, h4, h5⟩ := hB
  subst h3
  refine wp_region_noPanic (wp_region_any hm ?_)
  have inv0 : HeadInv .any l.toArray n (Array.replicate l.toArray.size false) :=
    ⟨by simp, fun j oj _ hl => (by rw [getD_replicate_false] at hl; cases hl), fun t _ ht => getD_in (by simpa using ht) (getD_replicate_false _ _)⟩
  exact wpAny_of_E _ _ _ _ (h _ rfl ⟨inv0, h1, h4, h5⟩ (fun _ _ _ _ _ h => h))
theorem wpE_take (i : Nat) {o : Oper} {v : Value} (hq : Region.qB l n A U listed i = true) (hi : l[i]? = some o) (hw : Region.wanted o (yielded l.toArray a.tmps) = true) (hS : S w)
    (hy : ∀ w', (A.contains i = true → S w') → (execOp a.eval o).run P w' = .ok (.value v) w') (h : wpE P l Q S n A U f (listed.setIfInBounds i true) (a.put o.dst v) w) : wpE P l Q S n A U (f + 1) listed a w := by
  intro ⟨inv, h1, h4, h5⟩ hQ
  simp only [Region.qB, Bool.and_eq_true, decide_eq_true_eq] at hq
  obtain ⟨q1, q2, q3, q4⟩ := hq
  have hrd : i ∈ Region.ready .any l.toArray listed := by simpa using q1
  have ho : l.toArray[i]? = some o := by simpa using hi
  have hrec := h ⟨inv.set hrd q2, h1, h4, h5⟩ hQ
  have hyy : YieldsIf P l.toArray (fun w' => A.contains i = true → S w') o v a := .inl ⟨hw, hy⟩
  cases hA : A.contains i with
  | true => exact wpAnyE_first ho (Region.noSelect_spec h1) h4 h5 (by simpa using hA) (fun c a w h => hQ c a _ _ w h) _ listed a w inv (Region.free_spec ho q4) hrd (hyy.weaken fun w hw _ => hw) hS hrec
  | false =>
    have hU : i ∈ U := by rw [hA] at q3; simpa using q3
    exact wpAnyE_pure ho (Region.noSelect_spec h1) hU (fun c a w h => hQ c a _ _ w h) _ listed a w (Region.free_spec ho q4) hrd (hyy.weaken fun w _ h => absurd h (by rw [hA]; simp)) hrec
def Region.brB (l : List Oper) (n : Nat) (U : List Nat) (listed : Array Bool) (rs : List Nat) : Bool :=
  decide (Region.ready .any l.toArray listed = rs) && (!rs.isEmpty && rs.all fun i => decide (i < n) && !U.contains i)
def AllE (P : Program) (l : List Oper) (Q : Exit → Act → World → Prop) (S : World → Prop) (n : Nat) (A U : List Nat) (f : Nat) (listed : Array Bool) (a : Act) (w : World) (rs : List Nat) : Prop :=
  ∀ i ∈ rs, wpOp P l.toArray Q i (fun a' w' => S w' ∧ wpE P l Q S n A U f (listed.setIfInBounds i true) a' w') a w
theorem wpE_br (rs : List Nat) (hr : Region.brB l n U listed rs = true) (h : AllE P l Q S n A U f listed a w rs) : wpE P l Q S n A U (f + 1) listed a w := by
  intro ⟨inv, h1, h4, h5⟩ hQ
  simp only [Region.brB, Bool.and_eq_true, decide_eq_true_eq] at hr
  obtain ⟨r1, r2, r3⟩ := hr
  have hne : rs ≠ [] := by intro he; simp [he] at r2
  refine ⟨fun h0 => absurd (r1 ▸ h0) hne, fun i hi => ?_⟩
  have hi' : i ∈ rs := r1 ▸ hi
  have h3 := List.all_eq_true.1 r3 i hi'
  simp only [Bool.and_eq_true, decide_eq_true_eq] at h3
  have hU : i ∉ U := by simpa using h3.2
  exact wpOp_mono (fun a' w' h' => ⟨⟨fun hc => absurd hc hU, fun _ _ => h'.1⟩, h'.2 ⟨inv.set hi h3.1, h1, h4, h5⟩ hQ⟩) (h i hi')
theorem AllE.nil : AllE P l Q S n A U f listed a w [] := fun _ h => by cases h
theorem AllE.cons {i : Nat} {rs : List Nat} {o : Oper} (hi : l[i]? = some o) (hw : Region.wanted o (yielded l.toArray a.tmps) = true)
    (h : ∀ K : Act → World → Prop, RowKit.Hid (∀ a' w', S w' → wpE P l Q S n A U f (listed.setIfInBounds i true) a' w' → K a' w') → o.wp P a w K Q) (hs : AllE P l Q S n A U f listed a w rs) : AllE P l Q S n A U f listed a w (i :: rs) := by
  intro j hj
  rcases List.mem_cons.1 hj with rfl | hj
  · unfold wpOp
    have hi : l.toArray[j]? = some o := by simpa using hi
    simp only [hi, hw, if_true]
    exact .inl (h _ (fun a' w' h1 h2 => ⟨h1, h2⟩))
  · exact hs j hj
/-- the rest, in one forced order -/
theorem wpE_rest (k : Nat) (hT : (decide (n ≤ k) && (decide (k + f = l.length) && Region.tailB .any l.toArray U listed (List.range' k f))) = true) (h : wpList P l.toArray Q (l.drop k) a w) : wpE P l Q S n A U f listed a w := by
  intro _ _
  simp only [Bool.and_eq_true, decide_eq_true_eq] at hT
  have h1 := wpTail_list (S := S) (n := n) f k a w hT.1 hT.2.1 h
  have h2 := wpAnyE_tail (md := .any) (U := U) _ listed a w hT.2.2 h1
  rwa [List.length_range'] at h2
end
end Go

