/-
  The part of older texts that this seat needs (printed by shake.py): Z1 Z2 Z3 Z4 Z5 Z6 Z8 RegS Q1 Q2 Q3 Q4 Q5
-/
import Derived.Test.YtiopgbbggeimaaaGreatY7
import Derived.Test.YtiopgbbggeimaaaGreatRows
import Derived.WalkKit
import Derived.ProofKit
import Derived.OpenShut
import Derived.Deep.QuietTactic
import Derived.BigQuiet
import Derived.Deep.Draws
import Derived.Lib.Hide
import Derived.StillTailTactics
import Derived.Deep.RegionHeld3
import Derived.WalkSpells
import Derived.WalkLawsBesides
import Derived.Maps.AppendAt
import Derived.Deep.AppendLies
import Derived.Deep.LoopGhost
import Derived.Deep.DeepCutAuto
import Derived.Deep.DeepFit
import Derived.OrdersHeld
import Derived.StillTail
import Derived.KernelRfl
import Derived.Lib.AppendZeros
import Derived.Laws.OwnMore
import Derived.Lib.SmallJoins
import Derived.ShutString
import Derived.ChangeOld
import Derived.ChangeSame
import Derived.Deep.Slices
import Derived.Deep.Fields
import Derived.Maps.Own
import Derived.Maps.OwnSet
import Derived.Maps.Views
import Derived.DeepKeys4
import Derived.Maps.RangeWalk
import Derived.Shelf.Sort.Plain
import Derived.Shelf.Slices.In.SortNone
import Derived.Shelf.Slices.Clone
import Derived.Ground.Names2Prog
import Derived.Sort.OwnSortedInts
import Derived.Laws.StructEq
/-
  The part of older texts that this seat needs (printed by shake.py): Mem Acc T1 T4 T2 T3 Pl1 Reg Reg2 Reg3
-/
/-
  Words for memory: a slice that reads as a list of cells; what keeps it.
-/
namespace Go.Proofs.YtiopgbbggeimaaaGreat
open Go.ChangeShapes Go.WideShapes Go.ChangeAt Go.RowKit

end Go.Proofs.YtiopgbbggeimaaaGreat

/-
  Plain mathematics of acceptance: paths, and the table of what is reached. No program in sight.
-/
namespace Go.Proofs.YtiopgbbggeimaaaGreat

def plainB (l : List Int) : Bool := l.all fun x => decide (1 ≤ x)
def sym (x : Int) : List Int := if x = 0 then [] else [x]
def ins (p : List PArc) : List Int := p.flatMap fun a => sym a.inp
def outs (p : List PArc) : List Int := p.flatMap fun a => sym a.out
def chain : Int → List PArc → Int → Prop
  | s, [], t => s = t
  | s, a :: p, t => a.fr = s ∧ chain a.tgt p t
/-- a path of L from s to t that reads xs and writes ys -/
def Path (L : List PArc) (s t : Int) (xs ys : List Int) : Prop := ∃ p, (∀ a, a ∈ p → a ∈ L) ∧ chain s p t ∧ ins p = xs ∧ outs p = ys
theorem chain_append (p p' : List PArc) (s t : Int) : chain s (p ++ p') t ↔ ∃ m, chain s p m ∧ chain m p' t := by
  induction p generalizing s with
  | nil => simp [chain]
  | cons a p ih =>
    simp only [List.cons_append, chain, ih]
    constructor
    · rintro ⟨h, m, h1, h2⟩; exact ⟨m, ⟨h, h1⟩, h2⟩
    · rintro ⟨m, ⟨h, h1⟩, h2⟩; exact ⟨h, m, h1, h2⟩
theorem ins_append (p p' : List PArc) : ins (p ++ p') = ins p ++ ins p' := by simp [ins]
theorem outs_append (p p' : List PArc) : outs (p ++ p') = outs p ++ outs p' := by simp [outs]
theorem Path.nil (L : List PArc) (s : Int) : Path L s s [] [] := ⟨[], by simp, rfl, rfl, rfl⟩
theorem Path.trans {L : List PArc} {s m t : Int} {xs ys xs' ys' : List Int} (h : Path L s m xs ys) (h' : Path L m t xs' ys') : Path L s t (xs ++ xs') (ys ++ ys') := by
  obtain ⟨p, h1, h2, h3, h4⟩ := h
  obtain ⟨p', h1', h2', h3', h4'⟩ := h'
  refine ⟨p ++ p', ?_, (chain_append _ _ _ _).2 ⟨m, h2, h2'⟩, by rw [ins_append, h3, h3'], by rw [outs_append, h4, h4']⟩
  intro a ha
  rcases List.mem_append.1 ha with h | h
  · exact h1 a h
  · exact h1' a h
theorem Path.one {L : List PArc} {a : PArc} (h : a ∈ L) : Path L a.fr a.tgt (sym a.inp) (sym a.out) :=
  ⟨[a], by simpa using h, ⟨rfl, rfl⟩, by simp [ins], by simp [outs]⟩

/-- one step over an arc reads symbol x at place i of l -/
def stepOk (l : List Int) (i : Nat) (x : Int) : Bool := x == 0 || l[i]? == some x
def stepD (x : Int) : Nat := if x = 0 then 0 else 1
theorem step_take (l : List Int) (i : Nat) (x : Int) (h : stepOk l i x = true) : l.take (i + stepD x) = l.take i ++ sym x := by
  unfold stepOk at h
  unfold stepD sym
  by_cases hx : x = 0
  · simp [hx]
  · simp only [hx, if_false]
    have h2 : l[i]? = some x := by simpa [hx] using h
    rw [List.take_add_one, h2]
    rfl
theorem step_le (l : List Int) (i : Nat) (x : Int) (hi : i ≤ l.length) (h : stepOk l i x = true) : i + stepD x ≤ l.length := by
  unfold stepOk at h
  unfold stepD
  by_cases hx : x = 0
  · simp [hx, hi]
  · have h2 : l[i]? = some x := by simpa [hx] using h
    have := (List.getElem?_eq_some_iff.1 h2).1
    simp only [hx, if_false]
    omega
theorem step_drop (l : List Int) (i : Nat) (x : Int) (r : List Int) (h : sym x ++ r = l.drop i) : stepOk l i x = true ∧ r = l.drop (i + stepD x) := by
  unfold sym at h
  unfold stepOk stepD
  by_cases hx : x = 0
  · simp only [hx, if_true, List.nil_append] at h
    simp [hx, h]
  · simp only [hx, if_false, List.cons_append, List.nil_append] at h
    have hi : l[i]? = some x := by
      have := congrArg (fun t => t[0]?) h
      simpa using this.symm
    have hd : r = l.drop (i + 1) := by
      have := congrArg (fun t => t.drop 1) h
      simpa using this
    simp [hx, hi, hd]

def idx (n m : Nat) (q i k : Nat) : Nat := (q * n + i) * m + k
theorem idx_inj {n m q i k q' i' k' : Nat} (hi : i < n) (hk : k < m) (hi' : i' < n) (hk' : k' < m) (h : idx n m q i k = idx n m q' i' k') : q = q' ∧ i = i' ∧ k = k' := by
  unfold idx at h
  have e1 : ((q * n + i) * m + k) / m = q * n + i := by rw [Nat.mul_comm, Nat.mul_add_div (by omega), Nat.div_eq_of_lt hk]; rfl
  have e2 : ((q' * n + i') * m + k') / m = q' * n + i' := by rw [Nat.mul_comm, Nat.mul_add_div (by omega), Nat.div_eq_of_lt hk']; rfl
  have e3 : q * n + i = q' * n + i' := by rw [← e1, ← e2, h]
  have f1 : (q * n + i) / n = q := by rw [Nat.mul_comm, Nat.mul_add_div (by omega), Nat.div_eq_of_lt hi]; rfl
  have f2 : (q' * n + i') / n = q' := by rw [Nat.mul_comm, Nat.mul_add_div (by omega), Nat.div_eq_of_lt hi']; rfl
  have e4 : q = q' := by rw [← f1, ← f2, e3]
  subst e4
  have e5 : i = i' := by omega
  subst e5
  exact ⟨rfl, rfl, by omega⟩
theorem idx_lt {n m S q i k : Nat} (hq : q < S) (hi : i < n) (hk : k < m) : idx n m q i k < S * n * m := by
  unfold idx
  have h1 : q * n + i < S * n := by
    have : (q + 1) * n ≤ S * n := Nat.mul_le_mul_right n hq
    rw [Nat.add_mul] at this
    omega
  have h2 : (q * n + i + 1) * m ≤ S * n * m := Nat.mul_le_mul_right m h1
  rw [Nat.add_mul (q * n + i) 1 m] at h2
  omega

/-- one place of the table that the reference fills: arc a, places i and k -/
def stf (xs ys : List Int) (a : PArc) (i k : Nat) (s : List Bool × Bool) : List Bool × Bool :=
  if stepOk xs i a.inp && stepOk ys k a.out && s.1.getD (idx (xs.length + 1) (ys.length + 1) a.fr.toNat i k) false then
    (s.1.set (idx (xs.length + 1) (ys.length + 1) a.tgt.toNat (i + stepD a.inp) (k + stepD a.out)) true, s.2 || !s.1.getD (idx (xs.length + 1) (ys.length + 1) a.tgt.toNat (i + stepD a.inp) (k + stepD a.out)) false)
  else s
def rowF (xs ys : List Int) (a : PArc) (i K : Nat) (s : List Bool × Bool) : List Bool × Bool := (List.range K).foldl (fun s k => stf xs ys a i k s) s
def arcF (xs ys : List Int) (a : PArc) (I : Nat) (s : List Bool × Bool) : List Bool × Bool := (List.range I).foldl (fun s i => rowF xs ys a i (ys.length + 1) s) s
def passF (xs ys : List Int) (L : List PArc) (s : List Bool × Bool) : List Bool × Bool := L.foldl (fun s a => arcF xs ys a (xs.length + 1) s) s
theorem rowF_succ (xs ys : List Int) (a : PArc) (i K : Nat) (s : List Bool × Bool) : rowF xs ys a i (K + 1) s = stf xs ys a i K (rowF xs ys a i K s) := by simp [rowF, List.range_succ]
theorem arcF_succ (xs ys : List Int) (a : PArc) (I : Nat) (s : List Bool × Bool) : arcF xs ys a (I + 1) s = rowF xs ys a I (ys.length + 1) (arcF xs ys a I s) := by simp [arcF, List.range_succ]
def cf : List Bool → Nat
  | [] => 0
  | b :: l => (if b then 0 else 1) + cf l
theorem cf_set (l : List Bool) (j : Nat) : cf (l.set j true) ≤ cf l ∧ (j < l.length → l.getD j false = false → cf (l.set j true) < cf l) := by
  induction l generalizing j with
  | nil => simp [cf]
  | cons b l ih =>
    cases j with
    | zero => cases b <;> simp [cf]
    | succ j => have := ih j; simp only [List.set_cons_succ, cf]; refine ⟨by omega, fun h1 h2 => ?_⟩; have := this.2 (by simpa using h1) (by simpa using h2); omega
theorem set_same (l : List Bool) (j : Nat) (h : l.getD j false = true) : l.set j true = l := by
  induction l generalizing j with
  | nil => rfl
  | cons b l ih =>
    cases j with
    | zero => simp at h; simp [h]
    | succ j => rw [List.set_cons_succ, ih j (by simpa using h)]
theorem getD_set (l : List Bool) (j j' : Nat) : (l.set j true).getD j' false = if j = j' ∧ j < l.length then true else l.getD j' false := by
  induction l generalizing j j' with
  | nil => simp
  | cons b l ih =>
    cases j with
    | zero => cases j' <;> simp
    | succ j => cases j' with
      | zero => simp
      | succ j' => simpa using ih j j'

section
variable (F : PFst) (xs ys : List Int)
/-- the arcs and final states are right -/
def Right : Prop := 1 ≤ F.states ∧ (∀ a, a ∈ F.arcs → 0 ≤ a.fr ∧ a.fr < F.states ∧ 0 ≤ a.tgt ∧ a.tgt < F.states) ∧ ∀ q, q ∈ F.final → 0 ≤ q ∧ q < F.states
def size : Nat := F.states.toNat * (xs.length + 1) * (ys.length + 1)
def at3 (M : List Bool) (q i k : Nat) : Bool := M.getD (idx (xs.length + 1) (ys.length + 1) q i k) false
/-- what is marked is reached -/
def Inv (M : List Bool) : Prop := M.length = size F xs ys ∧ at3 xs ys M 0 0 0 = true ∧
  ∀ q i k, q < F.states.toNat → i ≤ xs.length → k ≤ ys.length → at3 xs ys M q i k = true → Path F.arcs 0 (q : Int) (xs.take i) (ys.take k)
def ClosedAt (M : List Bool) (a : PArc) (i k : Nat) : Prop := stepOk xs i a.inp = true → stepOk ys k a.out = true → at3 xs ys M a.fr.toNat i k = true → at3 xs ys M a.tgt.toNat (i + stepD a.inp) (k + stepD a.out) = true
/-- what a pass has done so far, from the table M0 -/
def Pass (M0 : List Bool) (D : PArc → Nat → Nat → Prop) (s : List Bool × Bool) : Prop :=
  Inv F xs ys s.1 ∧ cf s.1 ≤ cf M0 ∧ (s.2 = true → cf s.1 < cf M0) ∧ (s.2 = false → s.1 = M0 ∧ ∀ a i k, D a i k → ClosedAt xs ys M0 a i k)
variable {F xs ys}
theorem Pass.step (hR : Right F) {M0 : List Bool} {D : PArc → Nat → Nat → Prop} {s : List Bool × Bool} (h : Pass F xs ys M0 D s) {a : PArc} (ha : a ∈ F.arcs) {i k : Nat} (hi : i ≤ xs.length) (hk : k ≤ ys.length) :
    Pass F xs ys M0 (fun a' i' k' => D a' i' k' ∨ (a' = a ∧ i' = i ∧ k' = k)) (stf xs ys a i k s) := by
  obtain ⟨⟨hl, h0, hp⟩, hc, ht, hf⟩ := h
  obtain ⟨h1, h2, h3, h4⟩ := hR.2.1 a ha
  unfold stf
  by_cases hb : (stepOk xs i a.inp && stepOk ys k a.out && s.1.getD (idx (xs.length + 1) (ys.length + 1) a.fr.toNat i k) false) = true
  · rw [if_pos hb]
    simp only [Bool.and_eq_true] at hb
    obtain ⟨⟨hx, hy⟩, hm⟩ := hb
    have hi' := step_le xs i a.inp hi hx
    have hk' := step_le ys k a.out hk hy
    have hpath := (hp a.fr.toNat i k (by omega) hi hk hm).trans (by have := Path.one ha; rwa [show a.fr = (a.fr.toNat : Int) by omega] at this)
    rw [← step_take xs i a.inp hx, ← step_take ys k a.out hy] at hpath
    have hlt : idx (xs.length + 1) (ys.length + 1) a.tgt.toNat (i + stepD a.inp) (k + stepD a.out) < s.1.length := by
      rw [hl]; exact idx_lt (by omega) (by omega) (by omega)
    have cs := cf_set s.1 (idx (xs.length + 1) (ys.length + 1) a.tgt.toNat (i + stepD a.inp) (k + stepD a.out))
    refine ⟨⟨by simpa using hl, ?_, ?_⟩, by have := cs.1; simp only; omega, ?_, ?_⟩
    · unfold at3 at h0 ⊢; rw [getD_set]; split
      · rfl
      · exact h0
    · intro q i' k' hq hi2 hk2 hat
      unfold at3 at hat
      rw [getD_set] at hat
      split at hat
      · rename_i he
        obtain ⟨e1, e2, e3⟩ := idx_inj (by omega) (by omega) (by omega) (by omega) he.1
        subst e2 e3
        rwa [show (q : Int) = a.tgt by omega]
      · exact hp q i' k' hq hi2 hk2 hat
    · intro hb
      simp only [Bool.or_eq_true, Bool.not_eq_true'] at hb
      rcases hb with hb | hb
      · have := ht hb; have := cs.1; simp only; omega
      · have := cs.2 hlt hb; simp only; omega
    · intro hb
      simp only [Bool.or_eq_false_iff, Bool.not_eq_false'] at hb
      obtain ⟨e, hd⟩ := hf hb.1
      have es := set_same s.1 _ hb.2
      refine ⟨by rw [es, e], ?_⟩
      rintro a' i' k' (h | ⟨rfl, rfl, rfl⟩)
      · exact hd a' i' k' h
      · intro _ _ _
        rw [← e]
        exact hb.2
  · rw [if_neg hb]
    refine ⟨⟨hl, h0, hp⟩, hc, ht, fun hb2 => ?_⟩
    obtain ⟨e, hd⟩ := hf hb2
    refine ⟨e, ?_⟩
    rintro a' i' k' (h | ⟨rfl, rfl, rfl⟩)
    · exact hd a' i' k' h
    · intro c1 c2 c3
      exfalso
      apply hb
      unfold at3 at c3
      rw [e, c1, c2, c3]
      rfl
theorem Pass.weaken {M0 : List Bool} {D D' : PArc → Nat → Nat → Prop} {s : List Bool × Bool} (h : Pass F xs ys M0 D s) (hD : ∀ a i k, D' a i k → D a i k) : Pass F xs ys M0 D' s :=
  ⟨h.1, h.2.1, h.2.2.1, fun hb => ⟨(h.2.2.2 hb).1, fun a i k hd => (h.2.2.2 hb).2 a i k (hD a i k hd)⟩⟩
theorem Pass.row (hR : Right F) {M0 : List Bool} {D : PArc → Nat → Nat → Prop} {s : List Bool × Bool} (h : Pass F xs ys M0 D s) {a : PArc} (ha : a ∈ F.arcs) {i : Nat} (hi : i ≤ xs.length) (K : Nat) (hK : K ≤ ys.length + 1) :
    Pass F xs ys M0 (fun a' i' k' => D a' i' k' ∨ (a' = a ∧ i' = i ∧ k' < K)) (rowF xs ys a i K s) := by
  induction K with
  | zero => exact h.weaken (by rintro a' i' k' (h | ⟨_, _, h⟩); exact h; omega)
  | succ K ih =>
    rw [rowF_succ]
    refine ((ih (by omega)).step hR ha hi (k := K) (by omega)).weaken ?_
    rintro a' i' k' (h | ⟨h1, h2, h3⟩)
    · exact .inl (.inl h)
    · by_cases e : k' = K
      · exact .inr ⟨h1, h2, e⟩
      · exact .inl (.inr ⟨h1, h2, by omega⟩)
theorem Pass.arc (hR : Right F) {M0 : List Bool} {D : PArc → Nat → Nat → Prop} {s : List Bool × Bool} (h : Pass F xs ys M0 D s) {a : PArc} (ha : a ∈ F.arcs) (I : Nat) (hI : I ≤ xs.length + 1) :
    Pass F xs ys M0 (fun a' i' k' => D a' i' k' ∨ (a' = a ∧ i' < I ∧ k' ≤ ys.length)) (arcF xs ys a I s) := by
  induction I with
  | zero => exact h.weaken (by rintro a' i' k' (h | ⟨_, h, _⟩); exact h; omega)
  | succ I ih =>
    rw [arcF_succ]
    refine ((ih (by omega)).row hR ha (i := I) (by omega) (ys.length + 1) (Nat.le_refl _)).weaken ?_
    rintro a' i' k' (h | ⟨h1, h2, h3⟩)
    · exact .inl (.inl h)
    · by_cases e : i' = I
      · exact .inr ⟨h1, e, by omega⟩
      · exact .inl (.inr ⟨h1, by omega, h3⟩)
theorem Pass.arcs (hR : Right F) (L : List PArc) (hL : ∀ a, a ∈ L → a ∈ F.arcs) : ∀ {M0 : List Bool} {D : PArc → Nat → Nat → Prop} {s : List Bool × Bool}, Pass F xs ys M0 D s →
    Pass F xs ys M0 (fun a' i' k' => D a' i' k' ∨ (a' ∈ L ∧ i' ≤ xs.length ∧ k' ≤ ys.length)) (passF xs ys L s) := by
  induction L with
  | nil => intro M0 D s h; exact h.weaken (by rintro a' i' k' (h | ⟨h, _, _⟩); exact h; cases h)
  | cons a L ih =>
    intro M0 D s h
    have h1 := h.arc hR (hL a (by simp)) (xs.length + 1) (Nat.le_refl _)
    have h2 := ih (fun b hb => hL b (by simp [hb])) h1
    refine h2.weaken ?_
    rintro a' i' k' (h | ⟨h1, h2, h3⟩)
    · exact .inl (.inl h)
    · rcases List.mem_cons.1 h1 with e | e
      · exact .inl (.inr ⟨e, by omega, h3⟩)
      · exact .inr ⟨e, h2, h3⟩
end
end Go.Proofs.YtiopgbbggeimaaaGreat

namespace Go.Proofs.YtiopgbbggeimaaaGreat
open Go.ChangeShapes Go.WideShapes Go.ChangeAt Go.RowKit

end Go.Proofs.YtiopgbbggeimaaaGreat

/-
  step of the reference.
-/
namespace Go.Proofs.YtiopgbbggeimaaaGreat
open Go.ChangeShapes Go.WideShapes Go.ChangeAt Go.RowKit
end Go.Proofs.YtiopgbbggeimaaaGreat

namespace Go.Proofs.YtiopgbbggeimaaaGreat
open Go.ChangeShapes Go.WideShapes Go.ChangeAt Go.RowKit
end Go.Proofs.YtiopgbbggeimaaaGreat

namespace Go.Proofs.YtiopgbbggeimaaaGreat
open Go.ChangeShapes Go.WideShapes Go.ChangeAt Go.RowKit
end Go.Proofs.YtiopgbbggeimaaaGreat

/-
  Plain laws of transducers: what Check asks; paths; Pair, Identity, Invert, Union, Concat. No program in sight.
-/
namespace Go.Proofs.YtiopgbbggeimaaaGreat

def ArcOk (S : Int) (a : PArc) : Prop := (0 ≤ a.fr ∧ a.fr < S) ∧ (0 ≤ a.tgt ∧ a.tgt < S) ∧ (0 ≤ a.inp ∧ a.inp ≤ 1099511627776) ∧ 0 ≤ a.out ∧ a.out ≤ 1099511627776
/-- what Check accepts -/
structure Good (F : PFst) : Prop where
  s1 : 1 ≤ F.states
  s2 : F.states ≤ 4096
  len : F.arcs.length ≤ 262144
  arc : ∀ a, a ∈ F.arcs → ArcOk F.states a
  ord : F.final.Pairwise (· < ·)
  fin : ∀ q, q ∈ F.final → 0 ≤ q ∧ q < F.states
theorem Good.right {F : PFst} (h : Good F) : Right F := ⟨h.s1, fun a ha => ⟨(h.arc a ha).1.1, (h.arc a ha).1.2, (h.arc a ha).2.1.1, (h.arc a ha).2.1.2⟩, h.fin⟩

theorem Path.cons {L : List PArc} {a : PArc} {t : Int} {xs ys : List Int} (ha : a ∈ L) (h : Path L a.tgt t xs ys) : Path L a.fr t (sym a.inp ++ xs) (sym a.out ++ ys) := (Path.one ha).trans h
theorem Path.induct {L : List PArc} {t : Int} {P : Int → List Int → List Int → Prop} (h0 : P t [] [])
    (h1 : ∀ a, a ∈ L → ∀ xs ys, Path L a.tgt t xs ys → P a.tgt xs ys → P a.fr (sym a.inp ++ xs) (sym a.out ++ ys)) {s : Int} {xs ys : List Int} (h : Path L s t xs ys) : P s xs ys := by
  obtain ⟨p, hp, hc, rfl, rfl⟩ := h
  induction p generalizing s with
  | nil => cases hc; exact h0
  | cons a p ih =>
    obtain ⟨rfl, hc⟩ := hc
    have hp' : ∀ b, b ∈ p → b ∈ L := fun b hb => hp b (by simp [hb])
    exact h1 a (hp a (by simp)) _ _ ⟨p, hp', hc, rfl, rfl⟩ (ih hp' hc)
theorem Path.map {L L' : List PArc} (f : PArc → PArc) (g : Int → Int) (hf : ∀ a, a ∈ L → f a ∈ L' ∧ (f a).fr = g a.fr ∧ (f a).tgt = g a.tgt ∧ (f a).inp = a.inp ∧ (f a).out = a.out) {s t : Int} {xs ys : List Int} (h : Path L s t xs ys) : Path L' (g s) (g t) xs ys := by
  refine Path.induct (P := fun s xs ys => Path L' (g s) (g t) xs ys) (Path.nil _ _) ?_ h
  intro a ha xs ys _ ih
  obtain ⟨h1, h2, h3, h4, h5⟩ := hf a ha
  rw [← h2, ← h4, ← h5]
  rw [← h3] at ih
  exact Path.cons h1 ih
theorem Path.sub {L L' : List PArc} (hs : ∀ a, a ∈ L → a ∈ L') {s t : Int} {xs ys : List Int} (h : Path L s t xs ys) : Path L' s t xs ys := by
  obtain ⟨p, h1, h2⟩ := h
  exact ⟨p, fun a ha => hs a (h1 a ha), h2⟩
theorem plain_sym (x : Int) (h : 0 ≤ x) : plainB (sym x) = true := by
  unfold sym plainB
  by_cases hx : x = 0
  · simp [hx]
  · simp [hx]; omega
theorem plain_append (l m : List Int) : plainB (l ++ m) = (plainB l && plainB m) := by simp [plainB]
theorem Path.plain {L : List PArc} (hL : ∀ a, a ∈ L → 0 ≤ a.inp ∧ 0 ≤ a.out) {s t : Int} {xs ys : List Int} (h : Path L s t xs ys) : plainB xs = true ∧ plainB ys = true := by
  refine Path.induct (P := fun _ xs ys => plainB xs = true ∧ plainB ys = true) ⟨rfl, rfl⟩ ?_ h
  intro a ha xs ys _ ih
  rw [plain_append, plain_append, ih.1, ih.2, plain_sym _ (hL a ha).1, plain_sym _ (hL a ha).2]
  exact ⟨rfl, rfl⟩
/-! Pair -/
/-! Identity -/
/-! Invert -/
/-! moved transducers -/
/-! Union -/
/-! Concat -/
end Go.Proofs.YtiopgbbggeimaaaGreat

/-
  A region that draws its order: some operations only read ('head': they may be taken first, because what they read stays as it is till operation number n, which waits for all of them), the others come in one forced order ('tail').
-/
namespace Go
section
variable {P : Program} {ops : Array Oper} {Q : Exit → Act → World → Prop} {md : Region.Mode} {S : World → Prop}

end
end Go

/-
  A region that draws its order, with guards: steps that only read (taken as soon as they may come up) and steps that come in one forced order, mixed.
-/
namespace Go
section
variable {P : Program} {ops : Array Oper} {Q : Exit → Act → World → Prop} {md : Region.Mode} {S : World → Prop}
section
variable {l : List Oper} {A : List Nat} {a : Act} {w : World} {i n : Nat} {r : List (Bool × Nat)} {o : Oper} {v : Value}
end
end
end Go

/-
  A region that draws its order, step by step: what only reads is taken first; where several others may come up, each is walked.
-/
namespace Go
section
variable {P : Program} {l : List Oper} {Q : Exit → Act → World → Prop} {S : World → Prop} {n f : Nat} {A U : List Nat} {listed : Array Bool} {a : Act} {w : World}
end
end Go


/-
  The part of older texts that this seat needs (printed by shake.py): T5 F0 F1 F2 F3
-/
/-
  Accepts of the reference.
-/
namespace Go.Proofs.YtiopgbbggeimaaaGreat
open Go.ChangeShapes Go.WideShapes Go.ChangeAt Go.RowKit

theorem RdI.drewN {w : World} {v : Value} {xs : List Int} (h : RdI w v xs) (k : Nat) : RdI (w.drewN k) v xs := h
end Go.Proofs.YtiopgbbggeimaaaGreat

/-
  Rows of the call's own: ints, bools, arcs; a struct of a transducer as a block; Same and Light of the references.
-/
namespace Go.Proofs.YtiopgbbggeimaaaGreat
open Go.ChangeShapes Go.WideShapes Go.ChangeAt Go.RowKit
section
variable {w w1 : World} {base : Nat}
end
section
variable {P : Program} (w : World)
end
section
variable {w w' : World} {R : Nat} {x y z : Value}
end
end Go.Proofs.YtiopgbbggeimaaaGreat

/-
  A table of rows that the call owns: block g holds slices, each a row of its own.
-/
namespace Go.Proofs.YtiopgbbggeimaaaGreat
open Go.ChangeShapes Go.WideShapes Go.ChangeAt Go.RowKit
/-- block g holds the slice values vs; row q has the elements (cnt q of them, of sz cells) R q; no two share a block -/
structure Tbl (T e : TypeId) (sz : Nat) (w : World) (base g : Nat) (vs : List Value) (cnt : Nat → Nat) (R : Nat → List Value) : Prop where
  blk : w.heap[g]? = some (.cells vs.toArray T (0, 0))
  row : ∀ (q : Nat) (v : Value), vs[q]? = some v → w.ownsRow base e sz v (cnt q) (R q)
  dis : ∀ (q q' : Nat) (v v' : Value), vs[q]? = some v → vs[q']? = some v' → q ≠ q' → v.ownBlock = none ∨ v.ownBlock ≠ v'.ownBlock
  ne : T ≠ e
  le : base ≤ g
section
variable {T e : TypeId} {sz : Nat} {w w1 : World} {base g : Nat} {vs : List Value} {cnt : Nat → Nat} {R : Nat → List Value}
theorem Tbl.lt (h : Tbl T e sz w base g vs cnt R) : g < w.heap.size := (Array.getElem?_eq_some_iff.1 h.blk).1
theorem Tbl.cell (h : Tbl T e sz w base g vs cnt R) {q : Nat} {v : Value} (hq : vs[q]? = some v) : w.cell? ⟨g, q, none⟩ = some v := by
  rw [cell_of_row w g q _ _ (0, 0) h.blk]
  simpa using hq
theorem Tbl.free (h : Tbl T e sz w base g vs cnt R) (j : Nat) : w.frozen? ⟨g, j, none⟩ = false := by simp [World.frozen?, h.blk]
theorem Tbl.below (h : Tbl T e sz w base g vs cnt R) (hb : Below w.heap.size w w1) : Tbl T e sz w1 base g vs cnt R :=
  ⟨(hb.block g h.lt).trans h.blk, fun q v hq => own_below (h.row q v hq) hb, h.dis, h.ne, h.le⟩
end
/-- the table as it is read -/
def RTbl (sz : Nat) (w : World) (g S : Nat) (cnt : Nat → Nat) (R : Nat → List Value) : Prop :=
  g < w.heap.size ∧ ∀ q, q < S → ∃ v, w.cell? ⟨g, q, none⟩ = some v ∧ Rd w sz v (cnt q) (R q)
theorem RTbl.below {sz : Nat} {w w1 : World} {g S : Nat} {cnt : Nat → Nat} {R : Nat → List Value} (h : RTbl sz w g S cnt R) (hb : Below w.heap.size w w1) : RTbl sz w1 g S cnt R := by
  refine ⟨by have := hb.size; have := h.1; omega, fun q hq => ?_⟩
  obtain ⟨v, h1, h2⟩ := h.2 q hq
  exact ⟨v, (hb.cell h.1).trans h1, h2.below hb⟩
theorem Tbl.rd {T e : TypeId} {sz : Nat} {w : World} {base g : Nat} {vs : List Value} {cnt : Nat → Nat} {R : Nat → List Value} (h : Tbl T e sz w base g vs cnt R) : RTbl sz w g vs.length cnt R := by
  refine ⟨h.lt, fun q hq => ?_⟩
  exact ⟨vs[q], h.cell (List.getElem?_eq_getElem hq), Rd.own (h.row q _ (List.getElem?_eq_getElem hq))⟩
end Go.Proofs.YtiopgbbggeimaaaGreat

/-
  The arguments of the statements, opened: lists of ints, transducers, pairs.
-/
namespace Go.Proofs.YtiopgbbggeimaaaGreat
open Go.ChangeShapes Go.WideShapes Go.ChangeAt Go.RowKit Go.Deep Go.Joins
theorem RdI.alloc {w : World} {v : Value} {xs : List Int} (h : RdI w v xs) (o : Obj) : RdI (w.alloc o) v xs := Rd.alloc h o
theorem RdF.alloc {w : World} {v : Value} {F : PFst} (h : RdF w v F) (o : Obj) : RdF (w.alloc o) v F := h.below ((Below.refl _ _).alloc (Nat.le_refl _) _)
theorem add_none {b off j : Nat} : (⟨b, off, none⟩ : Addr).add j = ⟨b, off + j, none⟩ := by unfold Addr.add; split <;> simp_all
section
variable {H : Type} {enc : TypeId × Value → H} {w : World} {base : Nat} {spare : Nat → Bool} {held : Bool}
end
end Go.Proofs.YtiopgbbggeimaaaGreat

/-
  A map whose keys are the configurations of Accepts, and a row of configurations.
-/
namespace Go.Proofs.YtiopgbbggeimaaaGreat
open Go.ChangeShapes Go.WideShapes Go.ChangeAt Go.RowKit
open Go.Maps (Keyed)
set_option maxRecDepth 100000
structure Cfg where
  q : Int
  i : Int
  k : Int
  deriving DecidableEq
def InI (n : Int) : Prop := -9223372036854775808 ≤ n ∧ n ≤ 9223372036854775807
structure Cfg.Wf (c : Cfg) : Prop where
  q : InI c.q
  i : InI c.i
  k : InI c.k
end Go.Proofs.YtiopgbbggeimaaaGreat


/-
  The part of older texts that this seat needs (printed by shake.py): G1 GP1 F4 F5 F6 G2 GP2 G3 G4 G5 GP3 G7 L1 G9 HP1 H1 H3 UP1
-/
/-
  Maps that the call owns, in plain words: a partial function on keys within a given list. No function of the program in sight.
-/
namespace Go.Proofs.YtiopgbbggeimaaaGreat
open Go.ChangeShapes Go.WideShapes Go.ChangeAt Go.RowKit
open Go.Maps (Keyed)
/-- a kind of map: its types, how a key and an element look as a value -/
structure MS (P : Program) (α β : Type) where
  mt : TypeId
  kt : TypeId
  et : TypeId
  ht : P.underlying mt = some (.map kt et)
  K : Keyed P kt
  mkK : α → Value
  wf : α → Prop
  key : ∀ c, wf c → ∃ l, keyOf P kt (mkK c) = some l
  inj : ∀ c d, mkK c = mkK d → c = d
  mkV : β → Value
  lit : β → Lit
  wfV : β → Prop
  elem : ∀ x, wfV x → plainElem (H := Unit) P et (mkV x) = some (.lit (lit x), [])
  inv : ∀ v x z, plainElem (H := Unit) P et v = some z → z.1 = .lit (lit x) → v = mkV x
  zero : β
  zrun : ∀ w, (zeroValue et).run P w = .ok (mkV zero) w
  zwf : wfV zero
theorem nodup_le {α : Type} (l : List α) : ∀ L : List α, l.Nodup → (∀ x ∈ l, x ∈ L) → l.length ≤ L.length := by
  classical
  induction l with
  | nil => intro L _ _; exact Nat.zero_le _
  | cons x l ih =>
    intro L hn hs
    have hx : x ∈ L := hs x (by simp)
    have hn2 := List.nodup_cons.1 hn
    have ih := ih (L.erase x) hn2.2 (fun y hy => (List.mem_erase_of_ne (fun e => hn2.1 (by rw [← e]; exact hy))).2 (hs y (by simp [hy])))
    rw [List.length_erase_of_mem hx] at ih
    have := List.length_pos_of_mem hx
    simp only [List.length_cons]
    omega
section
variable {P : Program} {α β : Type} (S : MS P α β)
/-- the datum D is the function f, whose keys lie in L -/
structure Fun (D : DataW Unit) (L : List α) (f : α → Option β) : Prop where
  at_ : ∀ c l, S.wf c → keyOf P S.kt (S.mkK c) = some l → ∀ zd, D.atKey l zd = match f c with | some x => .lit (S.lit x) | none => zd
  dom : ∀ l, Maps.has D l = true → ∃ c, S.wf c ∧ keyOf P S.kt (S.mkK c) = some l
  box : ∀ c x, f c = some x → c ∈ L
  vals : ∀ c x, f c = some x → S.wfV x
/-- block b is a map: the function f on the keys of L -/
def OwnM (w : World) (b : Nat) (L : List α) (f : α → Option β) : Prop :=
  ∃ D : DataW Unit, w.ownsMap P S.kt (plainElem P S.et) b L.length D ∧ Fun S D L f
def OwnR (w : World) (b r : Nat) (L : List α) (f : α → Option β) (left : α → Bool) (cnt : Nat) : Prop :=
  ∃ (D : DataW Unit) (lf : Lit → Bool), w.ranges P S.kt (plainElem P S.et) b r L.length D lf cnt ∧ Fun S D L f ∧ ∀ c l, S.wf c → keyOf P S.kt (S.mkK c) = some l → lf l = left c
variable {S} {w w' : World} {b r : Nat} {L : List α} {f : α → Option β} {left : α → Bool} {cnt : Nat}
theorem Fun.has {D : DataW Unit} (h : Fun S D L f) {c : α} {l : Lit} (hc : S.wf c) (hl : keyOf P S.kt (S.mkK c) = some l) : Maps.has D l = (f c).isSome := by
  cases hf : f c with
  | none => exact Maps.has_false_of_atKey fun z => by rw [h.at_ c l hc hl, hf]
  | some x => exact Maps.has_true_of_atKey (y := .lit (S.lit x)) fun z => by rw [h.at_ c l hc hl, hf]
theorem Fun.size_le {D : DataW Unit} (h : Fun S D L f) {n b : Nat} (hm : w.ownsMap P S.kt (plainElem P S.et) b n D) : Maps.size D ≤ L.length := by
  obtain ⟨es, rfl, hp, hk⟩ := hm.entries S.K
  have hsub : ∀ p ∈ es, ∃ c, S.wf c ∧ keyOf P S.kt (S.mkK c) = some p.1 ∧ c ∈ L := by
    intro p hpm
    have hh : Maps.has (DataW.map es) p.1 = true := List.any_eq_true.2 ⟨p, hpm, WideAt.sameKey_self (hk p hpm)⟩
    obtain ⟨c, hc, hl⟩ := h.dom _ hh
    refine ⟨c, hc, hl, ?_⟩
    rw [h.has hc hl] at hh
    obtain ⟨x, hx⟩ := Option.isSome_iff_exists.1 hh
    exact h.box c x hx
  have hn : (es.map Prod.fst).Nodup := by
    rw [List.nodup_iff_pairwise_ne, List.pairwise_map]
    exact hp
  have := nodup_le (es.map Prod.fst) (L.filterMap fun c => keyOf P S.kt (S.mkK c)) hn (fun l hl => by
    obtain ⟨p, hpm, rfl⟩ := List.mem_map.1 hl
    obtain ⟨c, _, hl, hcL⟩ := hsub p hpm
    exact List.mem_filterMap.2 ⟨c, hcL, hl⟩)
  rw [List.length_map] at this
  exact Nat.le_trans this (List.length_filterMap_le _ _)
theorem owns_bound {n : Nat} {D : DataW Unit} (hm : w.ownsMap P S.kt (plainElem P S.et) b n D) (h : Fun S D L f) : w.ownsMap P S.kt (plainElem P S.et) b L.length D := by
  have hs := h.size_le hm
  obtain ⟨es, clock, hb, F, _, rfl⟩ := hm
  refine ⟨es, clock, hb, F, ?_, rfl⟩
  simpa [Maps.size, length_sorted] using hs
theorem OwnM.kept (h : OwnM S w b L f) {row : Option Nat} (hg : w.grownBy w' row) (hr : row ≠ some b) : OwnM S w' b L f := by
  obtain ⟨D, h1, h2⟩ := h
  exact ⟨D, h1.kept hg (Ne.symm hr), h2⟩
theorem OwnM.block (h : OwnM S w b L f) : ∃ es cl, w.heap[b]? = some (.map es cl) := by
  obtain ⟨D, ⟨es, cl, h1, _⟩, _⟩ := h
  exact ⟨es, cl, h1⟩
theorem OwnM.lt (h : OwnM S w b L f) : b < w.heap.size := by
  obtain ⟨es, cl, h1⟩ := h.block
  exact (Array.getElem?_eq_some_iff.1 h1).1
theorem OwnM.below (h : OwnM S w b L f) (hb : Below w.heap.size w w') : OwnM S w' b L f := by
  obtain ⟨D, ⟨es, cl, h1, h3⟩, h2⟩ := h
  exact ⟨D, ⟨es, cl, (hb.block b (Array.getElem?_eq_some_iff.1 h1).1).trans h1, h3⟩, h2⟩
theorem OwnM.same (h : OwnM S w b L f) (hb : w'.heap[b]? = w.heap[b]?) : OwnM S w' b L f := by
  obtain ⟨D, ⟨es, cl, h1, h3⟩, h2⟩ := h
  exact ⟨D, ⟨es, cl, hb.trans h1, h3⟩, h2⟩
theorem OwnM.look (h : OwnM S w b L f) (c : α) (hc : S.wf c) : (Instr.lookup S.mt (.map (some b)) (S.mkK c) false).run P w = .ok (S.mkV ((f c).getD S.zero)) w := by
  obtain ⟨D, h1, h2⟩ := h
  obtain ⟨l, hl⟩ := S.key c hc
  obtain ⟨v, ps, hrun, hv⟩ := h1.lookup S.K S.ht (S.zrun w) (S.elem _ S.zwf) hl
  rw [hrun]
  congr 1
  refine S.inv v _ _ hv ?_
  rw [h2.at_ c l hc hl]
  cases f c <;> rfl
def put [DecidableEq α] (f : α → Option β) (c : α) (x : β) : α → Option β := fun d => if d = c then some x else f d
theorem Fun.put [DecidableEq α] {D : DataW Unit} (h : Fun S D L f) (hm : Maps.IsMap D) {c : α} {x : β} {l : Lit} (hc : S.wf c) (hl : keyOf P S.kt (S.mkK c) = some l) (hx : S.wfV x) (hL : c ∈ L) : Fun S (D.put l (.lit (S.lit x))) L (put f c x) := by
  refine ⟨fun d l' hd hl' zd => ?_, fun l' hl' => ?_, fun d y hd => ?_, fun d y hd => ?_⟩
  · unfold Go.Proofs.YtiopgbbggeimaaaGreat.put
    by_cases he : l' = l
    · subst he
      have : d = c := S.inj _ _ (S.K.inj hl' hl)
      subst this
      rw [Maps.atKey_put_same hm (S.K.key hl), if_pos rfl]
    · have : d ≠ c := fun hcc => he (by subst hcc; rw [hl] at hl'; cases hl'; rfl)
      rw [Maps.atKey_put_other he, h.at_ d l' hd hl', if_neg this]
  · by_cases he : l' = l
    · subst he
      exact ⟨c, hc, hl⟩
    · rw [Maps.has_put_other he] at hl'
      exact h.dom l' hl'
  · unfold Go.Proofs.YtiopgbbggeimaaaGreat.put at hd
    split at hd
    · rename_i e; rw [e]; exact hL
    · exact h.box d y hd
  · unfold Go.Proofs.YtiopgbbggeimaaaGreat.put at hd
    split at hd
    · cases hd; exact hx
    · exact h.vals d y hd
theorem owns_isMap {n : Nat} {D : DataW Unit} {k : TypeId} {R : Value → Option (DataW Unit × List MemPlace)} (h : w.ownsMap P k R b n D) : Maps.IsMap D := by
  obtain ⟨es, cl, _, _, _, rfl⟩ := h
  exact ⟨_, rfl⟩
theorem OwnM.put [DecidableEq α] (h : OwnM S w b L f) (c : α) (hc : S.wf c) (x : β) (hx : S.wfV x) (hL : c ∈ L) (hn : L.length < maxLen) :
    ∃ w', (Instr.mapUpdate S.mt (.map (some b)) (S.mkK c) (S.mkV x)).run P w = .ok () w' ∧ OwnM S w' b L (put f c x) ∧ w.grownBy w' (some b) := by
  obtain ⟨D, h1, h2⟩ := h
  obtain ⟨l, hl⟩ := S.key c hc
  obtain ⟨w', hrun, h3, h4⟩ := h1.update S.K S.ht hn hl (S.elem x hx)
  have h5 := h2.put (owns_isMap h1) hc hl hx hL
  exact ⟨w', hrun, ⟨_, owns_bound h3 h5, h5⟩, h4⟩
theorem OwnR.own (h : OwnR S w b r L f left cnt) : OwnM S w b L f := by
  obtain ⟨D, lf, h1, h2, _⟩ := h
  exact ⟨D, h1.owns, h2⟩
theorem OwnR.ne (h : OwnR S w b r L f left cnt) : r ≠ b := by
  obtain ⟨D, lf, h1, _⟩ := h
  exact h1.ne
theorem OwnR.lt (h : OwnR S w b r L f left cnt) : r < w.heap.size := by
  obtain ⟨D, lf, h1, _⟩ := h
  exact h1.lt
theorem OwnR.kept (h : OwnR S w b r L f left cnt) {row : Option Nat} (hg : w.grownBy w' row) (hb : row ≠ some b) (hr : row ≠ some r) : OwnR S w' b r L f left cnt := by
  obtain ⟨D, lf, h1, h2⟩ := h
  exact ⟨D, lf, h1.kept hg (Ne.symm hb) (Ne.symm hr), h2⟩
theorem OwnR.below (h : OwnR S w b r L f left cnt) (hb : Below w.heap.size w w') : OwnR S w' b r L f left cnt :=
  h.kept (row := none) ⟨hb.os, hb.tape, hb.output, hb.size, fun k hk _ => hb.block k hk⟩ (by simp) (by simp)
end
end Go.Proofs.YtiopgbbggeimaaaGreat

/-
  Outputs as a plain law: places, what is accepted from a place, the list of outputs in order. No program in sight.
-/
namespace Go.Proofs.YtiopgbbggeimaaaGreat
structure Plc where
  q : Int
  i : Int
  deriving DecidableEq
def nxP (a : PArc) (c : Plc) : Plc := ⟨a.tgt, c.i + (stepD a.inp : Int)⟩
def okP (xs : List Int) (a : PArc) (c : Plc) : Bool := stepOk xs c.i.toNat a.inp
structure PBox (F : PFst) (xs : List Int) (c : Plc) : Prop where
  q0 : 0 ≤ c.q
  q1 : c.q < F.states
  i0 : 0 ≤ c.i
  i1 : c.i ≤ xs.length
/-- an arc that leaves a place -/
def Lv (F : PFst) (xs : List Int) (a : PArc) (c : Plc) : Prop := a ∈ F.arcs ∧ a.fr = c.q ∧ okP xs a c = true
/-- w is written from the place c to the end -/
def AccP (F : PFst) (xs : List Int) (c : Plc) (w : List Int) : Prop := ∃ t, t ∈ F.final ∧ Path F.arcs c.q t (xs.drop c.i.toNat) w
def AccS (F : PFst) (xs : List Int) (V : Plc → Bool) (w : List Int) : Prop := ∃ c, V c = true ∧ AccP F xs c w
structure GoodA (F : PFst) : Prop where
  tgt : ∀ a, a ∈ F.arcs → 0 ≤ a.fr ∧ a.fr < F.states ∧ 0 ≤ a.tgt ∧ a.tgt < F.states ∧ 0 ≤ a.out
section
variable {F : PFst} {xs : List Int}
theorem PBox.step (hF : GoodA F) {c : Plc} (hc : PBox F xs c) {a : PArc} (h : Lv F xs a c) : PBox F xs (nxP a c) := by
  obtain ⟨h1, h2, h3⟩ := h
  obtain ⟨_, _, t0, t1, _⟩ := hF.tgt a h1
  have := hc.i0
  have := hc.i1
  have hle := step_le xs c.i.toNat a.inp (by omega) h3
  exact ⟨t0, t1, by simp only [nxP]; omega, by simp only [nxP]; omega⟩
theorem AccP.cons {c : Plc} (hc : 0 ≤ c.i) {a : PArc} (h : Lv F xs a c) {w : List Int} (hw : AccP F xs (nxP a c) w) : AccP F xs c (sym a.out ++ w) := by
  obtain ⟨t, ht, hp⟩ := hw
  obtain ⟨h1, h2, h3⟩ := h
  refine ⟨t, ht, ?_⟩
  have h4 := (Path.one h1).trans hp
  rw [h2] at h4
  have e : xs.drop c.i.toNat = sym a.inp ++ xs.drop (nxP a c).i.toNat := by
    have ho : stepOk xs c.i.toNat a.inp = true := h3
    have e1 : (nxP a c).i.toNat = c.i.toNat + stepD a.inp := by simp only [nxP]; omega
    rw [e1]
    unfold stepOk at ho
    unfold stepD sym
    by_cases hx : a.inp = 0
    · simp [hx]
    · simp only [hx, if_false]
      have h2 : xs[c.i.toNat]? = some a.inp := by simpa [hx] using ho
      obtain ⟨hl, he⟩ := List.getElem?_eq_some_iff.1 h2
      rw [List.drop_eq_getElem_cons hl, he]
      rfl
  rw [e]
  exact h4
/-- the first step of a path -/
theorem AccP.inv {c : Plc} (hc : PBox F xs c) {w : List Int} (h : AccP F xs c w) : (c.q ∈ F.final ∧ c.i = xs.length ∧ w = []) ∨ ∃ a w', Lv F xs a c ∧ AccP F xs (nxP a c) w' ∧ w = sym a.out ++ w' := by
  obtain ⟨t, ht, p, h1, h2, h3, h4⟩ := h
  have := hc.i0
  have := hc.i1
  cases p with
  | nil =>
    simp only [chain] at h2
    subst h2
    refine .inl ⟨ht, ?_, by simpa [outs] using h4.symm⟩
    have := congrArg List.length h3
    simp [ins] at this
    omega
  | cons a p =>
    obtain ⟨e1, h2⟩ := h2
    have hd := step_drop xs c.i.toNat a.inp (ins p) (by rw [← h3]; simp [ins])
    refine .inr ⟨a, outs p, ⟨h1 a (by simp), e1, hd.1⟩, ⟨t, ht, p, fun b hb => h1 b (by simp [hb]), h2, ?_, rfl⟩, ?_⟩
    · rw [hd.2]
      congr 1
      simp only [nxP]
      omega
    · rw [← h4]
      simp [outs]
/-- closed under arcs that write nothing -/
def ClosedP (F : PFst) (xs : List Int) (V : Plc → Bool) : Prop := ∀ c, V c = true → ∀ a, Lv F xs a c → a.out = 0 → V (nxP a c) = true
def BoxP (F : PFst) (xs : List Int) (V : Plc → Bool) : Prop := ∀ c, V c = true → PBox F xs c
/-- the symbols written next -/
def SymsP (F : PFst) (xs : List Int) (V : Plc → Bool) (x : Int) : Prop := 0 < x ∧ ∃ c a, V c = true ∧ Lv F xs a c ∧ a.out = x
/-- the places after x was written -/
def IsWr (F : PFst) (xs : List Int) (V : Plc → Bool) (x : Int) (V' : Plc → Bool) : Prop := ∀ d, V' d = true ↔ ∃ c a, V c = true ∧ Lv F xs a c ∧ a.out = x ∧ d = nxP a c
/-- V is what is reached silently from N -/
def SpreadP (F : PFst) (xs : List Int) (N V : Plc → Bool) : Prop := (∀ c, N c = true → V c = true) ∧ BoxP F xs V ∧ ClosedP F xs V ∧ ∀ c, V c = true → ∀ w, AccP F xs c w → AccS F xs N w
theorem SpreadP.acc {N V : Plc → Bool} (h : SpreadP F xs N V) (w : List Int) : AccS F xs V w ↔ AccS F xs N w :=
  ⟨fun ⟨c, hc, hw⟩ => h.2.2.2 c hc w hw, fun ⟨c, hc, hw⟩ => ⟨c, h.1 c hc, hw⟩⟩
end
end Go.Proofs.YtiopgbbggeimaaaGreat

/-
  outgoing of fst: the arcs of each state.
-/
namespace Go.Proofs.YtiopgbbggeimaaaGreat
open Go.ChangeShapes Go.WideShapes Go.ChangeAt Go.RowKit
def arcsOf (L : List PArc) (q : Nat) : List PArc := L.filter fun a => a.fr == (q : Int)
/-- the table of outgoing arcs, as it is read -/
def Arcs (w : World) (g S : Nat) (L : List PArc) : Prop := RTbl 4 w g S (fun q => (arcsOf L q).length) (fun q => arcsCells (arcsOf L q))
theorem Arcs.below {w w' : World} {g S : Nat} {L : List PArc} (h : Arcs w g S L) (hb : Below w.heap.size w w') : Arcs w' g S L := RTbl.below h hb
theorem Arcs.at_ {w : World} {g S : Nat} {L : List PArc} (h : Arcs w g S L) {q : Nat} (hq : q < S) : ∃ A n c, w.cell? ⟨g, q, none⟩ = some (.slice A n c) ∧ RdA w (.slice A n c) (arcsOf L q) := by
  obtain ⟨v, h1, h2⟩ := h.2 q hq
  have h3 : RdA w v (arcsOf L q) := h2
  obtain ⟨A, n, c, rfl, _, _, _, _⟩ := h3.op
  exact ⟨A, n, c, h1, h3⟩
end Go.Proofs.YtiopgbbggeimaaaGreat

/-
  The search of Accepts as a plain law: the configurations that were seen, and those that wait.
-/
namespace Go.Proofs.YtiopgbbggeimaaaGreat
structure CBox (F : PFst) (xs ys : List Int) (c : Cfg) : Prop where
  q0 : 0 ≤ c.q
  q1 : c.q < F.states
  i0 : 0 ≤ c.i
  i1 : c.i ≤ xs.length
  k0 : 0 ≤ c.k
  k1 : c.k ≤ ys.length
  path : Path F.arcs 0 c.q (xs.take c.i.toNat) (ys.take c.k.toNat)
def idxC (xs ys : List Int) (c : Cfg) : Nat := idx (xs.length + 1) (ys.length + 1) c.q.toNat c.i.toNat c.k.toNat
def marks (F : PFst) (xs ys : List Int) : List Cfg → List Bool
  | [] => List.replicate (size F xs ys) false
  | c :: l => (marks F xs ys l).set (idxC xs ys c) true
section
variable {F : PFst} {xs ys : List Int}
theorem CBox.lt {c : Cfg} (h : CBox F xs ys c) : idxC xs ys c < size F xs ys := by
  have := h.q0; have := h.q1; have := h.i0; have := h.i1; have := h.k0; have := h.k1
  exact idx_lt (by omega) (by omega) (by omega)
theorem CBox.inj {c d : Cfg} (h : CBox F xs ys c) (k : CBox F xs ys d) (he : idxC xs ys c = idxC xs ys d) : c = d := by
  have := h.q0; have := h.i0; have := h.i1; have := h.k0; have := h.k1
  have := k.q0; have := k.i0; have := k.i1; have := k.k0; have := k.k1
  obtain ⟨e1, e2, e3⟩ := idx_inj (by omega) (by omega) (by omega) (by omega) he
  cases c; cases d
  simp only at *
  congr 1 <;> omega
end
end Go.Proofs.YtiopgbbggeimaaaGreat

/-
  Accepts of fst.
-/
namespace Go.Proofs.YtiopgbbggeimaaaGreat
open Go.ChangeShapes Go.WideShapes Go.ChangeAt Go.RowKit
theorem size_le {F : PFst} {xs ys : List Int} (hR : Right F) (hS : F.states ≤ 4096) (hX : xs.length ≤ 1000) (hY : ys.length ≤ 1000) : size F xs ys ≤ 4104196096 := by
  have := hR.1
  exact Nat.mul_le_mul (Nat.mul_le_mul (by omega : F.states.toNat ≤ 4096) (by omega : xs.length + 1 ≤ 1001)) (by omega : ys.length + 1 ≤ 1001)
end Go.Proofs.YtiopgbbggeimaaaGreat

/-
  The maps of fst: sets of places, numbers at places, sets of ints, numbers at ints; the list of all places; sums over it.
-/
namespace Go.Proofs.YtiopgbbggeimaaaGreat
open Go.ChangeShapes Go.WideShapes Go.ChangeAt Go.RowKit
open Go.Maps (Keyed)
set_option maxRecDepth 100000
structure Plc.Wf (c : Plc) : Prop where
  q : InI c.q
  i : InI c.i
section
variable {α : Type}
variable [DecidableEq α]
def addS (V : α → Bool) (c : α) : α → Bool := fun d => decide (d = c) || V d
theorem addS_self (V : α → Bool) (c : α) : addS V c c = true := by simp [addS]
theorem addS_sub {V : α → Bool} {c d : α} (h : V d = true) : addS V c d = true := by simp [addS, h]
theorem addS_iff {V : α → Bool} {c d : α} : addS V c d = true ↔ d = c ∨ V d = true := by simp [addS]
end
theorem PBox.wf {F : PFst} {xs : List Int} {c : Plc} (h : PBox F xs c) (hS : F.states ≤ 4096) (hX : xs.length ≤ 1000000) : c.Wf := by
  have := h.q0; have := h.q1; have := h.i0; have := h.i1
  exact ⟨by unfold InI; omega, by unfold InI; omega⟩
def wsum {α : Type} (f : α → Nat) (l : List α) : Nat := (l.map f).sum
theorem wsum_le {α : Type} {f g : α → Nat} {l : List α} (h : ∀ x ∈ l, f x ≤ g x) : wsum f l ≤ wsum g l := by
  induction l with
  | nil => exact Nat.le_refl _
  | cons x l ih =>
    have h1 := h x (by simp)
    have h2 := ih (fun y hy => h y (by simp [hy]))
    simp only [wsum, List.map_cons, List.sum_cons] at h2 ⊢
    omega
theorem wsum_lt {α : Type} {f g : α → Nat} {l : List α} (h : ∀ x ∈ l, f x ≤ g x) {c : α} (hc : c ∈ l) (hlt : f c < g c) : wsum f l < wsum g l := by
  induction l with
  | nil => cases hc
  | cons x l ih =>
    have h1 := h x (by simp)
    have h3 : ∀ y ∈ l, f y ≤ g y := fun y hy => h y (by simp [hy])
    simp only [wsum, List.map_cons, List.sum_cons]
    rcases List.mem_cons.1 hc with rfl | hc
    · have := wsum_le h3
      simp only [wsum] at this
      omega
    · have := ih h3 hc
      simp only [wsum] at this
      omega
theorem wsum_const {α : Type} (k : Nat) (l : List α) {f : α → Nat} (h : ∀ x ∈ l, f x ≤ k) : wsum f l ≤ l.length * k := by
  induction l with
  | nil => simp [wsum]
  | cons x l ih =>
    have h1 := h x (by simp)
    have h2 := ih (fun y hy => h y (by simp [hy]))
    simp only [wsum, List.map_cons, List.sum_cons, List.length_cons, Nat.add_mul] at h2 ⊢
    omega
end Go.Proofs.YtiopgbbggeimaaaGreat

/-
  The least numbers of elements that are still written, as a plain law.
-/
namespace Go.Proofs.YtiopgbbggeimaaaGreat
def costA (a : PArc) : Int := if a.out = 0 then 0 else 1
def keysN (lf : Plc → Option Int) (bx : List Plc) : Nat := wsum (fun c => if (lf c).isSome then 1 else 0) bx
def mwt (lf : Plc → Option Int) (N : Nat) (c : Plc) : Nat := match lf c with | some v => v.toNat | none => N + 1
def mw (lf : Plc → Option Int) (bx : List Plc) : Nat := wsum (mwt lf bx.length) bx
structure MInv (F : PFst) (xs : List Int) (bx : List Plc) (lf : Plc → Option Int) : Prop where
  val : ∀ c v, lf c = some v → PBox F xs c ∧ 0 ≤ v ∧ v < (keysN lf bx : Int)
  fin : ∀ t, t ∈ F.final → lf ⟨t, xs.length⟩ = some 0
def RelaxedAt (xs : List Int) (lf : Plc → Option Int) (a : PArc) (c : Plc) : Prop := okP xs a c = true → ∀ v, lf (nxP a c) = some v → ∃ u, lf c = some u ∧ u ≤ v + costA a
def PassM (F : PFst) (xs : List Int) (bx : List Plc) (lf0 : Plc → Option Int) (D : PArc → Plc → Prop) (lf : Plc → Option Int) (more : Bool) : Prop :=
  MInv F xs bx lf ∧ mw lf bx ≤ mw lf0 bx ∧ (more = true → mw lf bx < mw lf0 bx) ∧ (more = false → lf = lf0 ∧ ∀ a c, D a c → RelaxedAt xs lf0 a c)
/-- what measure leaves -/
structure MOk (F : PFst) (xs : List Int) (N : Nat) (lf : Plc → Option Int) : Prop where
  acc : ∀ c, PBox F xs c → ∀ w, AccP F xs c w → ∃ u, lf c = some u ∧ u ≤ (w.length : Int)
  fin : ∀ t, t ∈ F.final → lf ⟨t, xs.length⟩ = some 0
  val : ∀ c v, lf c = some v → 0 ≤ v ∧ v < (N : Int)
theorem keysN_le (lf : Plc → Option Int) (bx : List Plc) : keysN lf bx ≤ bx.length := by
  have := wsum_const 1 bx (f := fun c => if (lf c).isSome then 1 else 0) (fun x _ => by split <;> simp)
  rwa [Nat.mul_one] at this
section
variable {F : PFst} {xs : List Int} {bx : List Plc} {lf lf0 : Plc → Option Int}
theorem MInv.step (hb : ∀ c, PBox F xs c → c ∈ bx) (h : MInv F xs bx lf) {a : PArc} {c : Plc} (hc : PBox F xs c) {v : Int} (hv : lf (nxP a c) = some v) (ho : lf c = none ∨ ∃ old, lf c = some old ∧ v + costA a < old) :
    MInv F xs bx (put lf c (v + costA a)) ∧ mw (put lf c (v + costA a)) bx < mw lf bx ∧ v + costA a < (bx.length : Int) + 1 ∧ 0 ≤ v + costA a := by
  obtain ⟨_, v0, v1⟩ := h.val _ v hv
  have hcost : 0 ≤ costA a ∧ costA a ≤ 1 := by unfold costA; split <;> omega
  have hk := keysN_le lf bx
  have hcb := hb c hc
  have hput : ∀ d, d ≠ c → put lf c (v + costA a) d = lf d := fun d hd => by simp [put, hd]
  have hputc : put lf c (v + costA a) c = some (v + costA a) := by simp [put]
  have hmono : keysN lf bx ≤ keysN (put lf c (v + costA a)) bx := wsum_le fun d _ => by
    by_cases e : d = c
    · subst e; rw [hputc]; simp; split <;> omega
    · rw [hput d e]; exact Nat.le_refl _
  have hnew : v + costA a < (keysN (put lf c (v + costA a)) bx : Int) := by
    rcases ho with ho | ⟨old, ho, hlt⟩
    · have : keysN lf bx < keysN (put lf c (v + costA a)) bx := wsum_lt (fun d _ => by
        by_cases e : d = c
        · subst e; rw [hputc]; simp; split <;> omega
        · rw [hput d e]; exact Nat.le_refl _) hcb (by rw [hputc, ho]; simp)
      omega
    · have := (h.val c old ho).2.2
      omega
  have hk2 := keysN_le (put lf c (v + costA a)) bx
  refine ⟨⟨fun d u hd => ?_, fun t ht => ?_⟩, ?_, by omega, by omega⟩
  · by_cases e : d = c
    · subst e
      rw [hputc] at hd
      cases hd
      exact ⟨hc, by omega, hnew⟩
    · rw [hput d e] at hd
      obtain ⟨h1, h2, h3⟩ := h.val d u hd
      exact ⟨h1, h2, by omega⟩
  · have hf := h.fin t ht
    by_cases e : (⟨t, xs.length⟩ : Plc) = c
    · rw [e] at hf
      rcases ho with ho | ⟨old, ho, hlt⟩
      · rw [hf] at ho; cases ho
      · rw [hf] at ho
        cases ho
        omega
    · rw [hput _ e]; exact hf
  · refine wsum_lt (fun d _ => ?_) hcb ?_
    · by_cases e : d = c
      · subst e
        unfold mwt
        rw [hputc]
        rcases ho with ho | ⟨old, ho, hlt⟩
        · rw [ho]; simp only; omega
        · rw [ho]; simp only; omega
      · unfold mwt
        rw [hput d e]
        exact Nat.le_refl _
    · unfold mwt
      rw [hputc]
      rcases ho with ho | ⟨old, ho, hlt⟩
      · rw [ho]; simp only; omega
      · rw [ho]; simp only; omega
theorem PassM.weaken {D D' : PArc → Plc → Prop} {more : Bool} (h : PassM F xs bx lf0 D lf more) (hD : ∀ a c, D' a c → D a c) : PassM F xs bx lf0 D' lf more :=
  ⟨h.1, h.2.1, h.2.2.1, fun hb => ⟨(h.2.2.2 hb).1, fun a c hd => (h.2.2.2 hb).2 a c (hD a c hd)⟩⟩
/-- a place that needs no change -/
theorem PassM.keep {D D' : PArc → Plc → Prop} {more : Bool} (h : PassM F xs bx lf0 D lf more) {a : PArc} {c : Plc} (hr : RelaxedAt xs lf a c) (hD : ∀ a' c', D' a' c' → D a' c' ∨ (a' = a ∧ c' = c)) : PassM F xs bx lf0 D' lf more := by
  refine ⟨h.1, h.2.1, h.2.2.1, fun hb => ?_⟩
  obtain ⟨e, hd⟩ := h.2.2.2 hb
  refine ⟨e, fun a' c' hd' => ?_⟩
  rcases hD a' c' hd' with h | ⟨rfl, rfl⟩
  · exact hd a' c' h
  · rw [← e]; exact hr
theorem PassM.step (hb : ∀ c, PBox F xs c → c ∈ bx) {D D' : PArc → Plc → Prop} {more : Bool} (h : PassM F xs bx lf0 D lf more) {a : PArc} {c : Plc} (hc : PBox F xs c) {v : Int} (hv : lf (nxP a c) = some v) (ho : lf c = none ∨ ∃ old, lf c = some old ∧ v + costA a < old) :
    PassM F xs bx lf0 D' (put lf c (v + costA a)) true := by
  obtain ⟨h1, h2, _⟩ := h.1.step hb hc hv ho
  have := h.2.1
  exact ⟨h1, by omega, fun _ => by omega, fun hb => by cases hb⟩
theorem MInv.done (hF : GoodA F) (h : MInv F xs bx lf) (hr : ∀ a c, a ∈ F.arcs → PBox F xs c → c.q = a.fr → RelaxedAt xs lf a c) : MOk F xs bx.length lf := by
  refine ⟨?_, h.fin, fun c v hv => ?_⟩
  · rintro c hc w ⟨t, ht, p, h1, h2, h3, h4⟩
    induction p generalizing c w with
    | nil =>
      have := hc.i0
      have := hc.i1
      simp only [chain] at h2
      have hl := congrArg List.length h3
      simp [ins] at hl
      have e : c = ⟨t, xs.length⟩ := by
        cases c
        simp only at *
        congr 1
        omega
      rw [e]
      exact ⟨0, h.fin t ht, by omega⟩
    | cons a p ih =>
      have := hc.i0
      have := hc.i1
      obtain ⟨e1, h2⟩ := h2
      have hd := step_drop xs c.i.toNat a.inp (ins p) (by rw [← h3]; simp [ins])
      have hlv : Lv F xs a c := ⟨h1 a (by simp), e1, hd.1⟩
      obtain ⟨u, hu, hul⟩ := ih (nxP a c) (hc.step hF hlv) (outs p) (fun b hb => h1 b (by simp [hb])) h2 (by
        rw [hd.2]
        congr 1
        simp only [nxP]
        omega) rfl
      obtain ⟨u', hu', hle⟩ := hr a c (h1 a (by simp)) hc e1.symm hd.1 u hu
      refine ⟨u', hu', ?_⟩
      rw [← h4]
      have : ((outs (a :: p)).length : Int) = (outs p).length + costA a := by
        unfold costA
        by_cases ho : a.out = 0 <;> simp [outs, sym, ho]
      omega
  · obtain ⟨_, h1, h2⟩ := h.val c v hv
    have := keysN_le lf bx
    exact ⟨h1, by omega⟩
end
end Go.Proofs.YtiopgbbggeimaaaGreat

/-
  The finder of fst: measure.
-/
namespace Go.Proofs.YtiopgbbggeimaaaGreat
open Go.ChangeShapes Go.WideShapes Go.ChangeAt Go.RowKit
section
variable {w w' : World} {B S g : Nat} {va vf vin lv fv : Value} {m : Int}
end
theorem OwnM.ne {P : Program} {α β : Type} {S : MS P α β} {w : World} {b : Nat} {L : List α} {f : α → Option β} (h : OwnM S w b L f) {k : Nat} {cs : Array Value} {t : TypeId} {mm : Nat × Nat} (hk : w.heap[k]? = some (.cells cs t mm)) : k ≠ b := by
  obtain ⟨es, cl, hm⟩ := h.block
  rintro rfl
  rw [hk] at hm
  cases hm
end Go.Proofs.YtiopgbbggeimaaaGreat

/-
  The shelf's contracts for slices.Sort and slices.Clone at ints, in plain words (printed by the kit's laying tools); a row of the call's own, sorted; slices.Equal.
-/
namespace Go.Proofs.YtiopgbbggeimaaaGreat
open Go.Shelf
open Go.ChangeShapes Go.WideShapes Go.ChangeAt Go.RowKit Go.Sort
end Go.Proofs.YtiopgbbggeimaaaGreat

/-
  The finder of fst: what a call may change; rows of places; ends.
-/
namespace Go.Proofs.YtiopgbbggeimaaaGreat
open Go.ChangeShapes Go.WideShapes Go.ChangeAt Go.RowKit
/-- of the blocks below n, none but those of X is changed -/
def Frm (n : Nat) (X : Nat → Prop) (w w' : World) : Prop := Below 0 w w' ∧ ∀ k, k < n → ¬ X k → w'.heap[k]? = w.heap[k]?
section
variable {n n' : Nat} {X Y : Nat → Prop} {w w1 w2 : World}
theorem Frm.refl (n : Nat) (X : Nat → Prop) (w : World) : Frm n X w w := ⟨Below.refl _ _, fun _ _ _ => rfl⟩
theorem Frm.trans (h : Frm n X w w1) (k : Frm n X w1 w2) : Frm n X w w2 := ⟨h.1.trans k.1, fun j h1 h2 => (k.2 j h1 h2).trans (h.2 j h1 h2)⟩
theorem Frm.mono (h : Frm n X w w1) (hn : n' ≤ n) (hX : ∀ k, k < n' → X k → Y k) : Frm n' Y w w1 := ⟨h.1, fun k h1 h2 => h.2 k (by omega) fun h3 => h2 (hX k h1 h3)⟩
theorem Frm.of_below (h : Below n w w1) : Frm n X w w1 := ⟨h.mono (Nat.zero_le _), fun k h1 _ => h.block k h1⟩
theorem Frm.size (h : Frm n X w w1) : w.heap.size ≤ w1.heap.size := h.1.size
theorem Frm.alloc (h : Frm n X w w1) (hn : n ≤ w1.heap.size) (o : Obj) : Frm n X w (w1.alloc o) := h.trans (.of_below ((Below.refl _ _).alloc hn o))
theorem Frm.drewN (h : Frm n X w w1) (k : Nat) : Frm n X w (w1.drewN k) := ⟨below_drewN h.1 k, h.2⟩
theorem Frm.grown (h : Frm n X w w1) {row : Option Nat} (hg : w1.grownBy w2 row) (hn : n ≤ w1.heap.size) (hr : ∀ j, row = some j → X j ∨ n ≤ j) : Frm n X w w2 := by
  refine ⟨h.1.grown hg (Nat.zero_le _) (fun j _ => Nat.zero_le j), fun k h1 h2 => ?_⟩
  rw [← h.2 k h1 h2]
  refine hg.block k (by omega) fun e => ?_
  rcases hr k e.symm with h3 | h3
  · exact h2 h3
  · omega
theorem Frm.setCell (h : Frm n X w w1) (p : Addr) (u : Value) (hp : X p.block ∨ n ≤ p.block) : Frm n X w (w1.setCell p u) := by
  refine ⟨h.1.setCell (Nat.zero_le _) u, fun k h1 h2 => ?_⟩
  rw [← h.2 k h1 h2]
  refine Below.heap_setCell w1 p u k fun e => ?_
  rcases hp with h3 | h3
  · exact h2 (by rw [e]; exact h3)
  · omega
theorem Frm.below (h : Frm n X w w1) {B : Nat} (hB : B ≤ n) (hX : ∀ k, k < B → ¬ X k) : Below B w w1 :=
  ⟨h.1.os, h.1.tape, h.1.output, h.1.size, fun k hk => h.2 k (by omega) (hX k hk)⟩
theorem Frm.chain (h : Frm w.heap.size X w w1) (k : Frm w1.heap.size X w1 w2) : Frm w.heap.size X w w2 := h.trans (k.mono h.size fun _ _ h => h)
end
end Go.Proofs.YtiopgbbggeimaaaGreat

/-
  The search over silent arcs, as a plain law.
-/
namespace Go.Proofs.YtiopgbbggeimaaaGreat
def DoneP (F : PFst) (xs : List Int) (V : Plc → Bool) (Sy : Int → Bool) (c : Plc) : Prop := ∀ a, Lv F xs a c → (0 < a.out → Sy a.out = true) ∧ (a.out = 0 → V (nxP a c) = true)
structure DfsP (F : PFst) (xs : List Int) (N V : Plc → Bool) (Qs : List Plc) (Sy : Int → Bool) (E : Plc → Prop) : Prop where
  sub : ∀ c, c ∈ Qs → V c = true
  nsub : ∀ c, N c = true → V c = true
  box : BoxP F xs V
  acc : ∀ c, V c = true → ∀ w, AccP F xs c w → AccS F xs N w
  done : ∀ c, V c = true → c ∈ Qs ∨ E c ∨ DoneP F xs V Sy c
  sy : ∀ x, Sy x = true → SymsP F xs V x
section
variable {F : PFst} {xs : List Int} {N V : Plc → Bool} {Qs : List Plc} {Sy : Int → Bool} {E : Plc → Prop}
theorem DfsP.whole (h : DfsP F xs N V [] Sy (fun _ => False)) : SpreadP F xs N V ∧ ∀ x, Sy x = true ↔ SymsP F xs V x := by
  have hd : ∀ c, V c = true → DoneP F xs V Sy c := fun c hc => by
    rcases h.done c hc with h1 | h1 | h1
    · cases h1
    · exact h1.elim
    · exact h1
  refine ⟨⟨h.nsub, h.box, fun c hc a hl ho => (hd c hc a hl).2 ho, h.acc⟩, fun x => ⟨h.sy x, ?_⟩⟩
  rintro ⟨h0, c, a, hc, hl, rfl⟩
  exact (hd c hc a hl).1 h0
end
end Go.Proofs.YtiopgbbggeimaaaGreat

/-
  The finder of fst: lists that were found; what a walk may change.
-/
namespace Go.Proofs.YtiopgbbggeimaaaGreat
open Go.ChangeShapes Go.WideShapes Go.ChangeAt Go.RowKit
theorem own_keepQ {w w' : World} {base size n : Nat} {e : TypeId} {v : Value} {xs : List Value} (h : w.ownsRow base e size v n xs) (hk : ∀ k cs m, v.ownBlock = some k → w.heap[k]? = some (.cells cs e m) → base ≤ k → w'.heap[k]? = w.heap[k]?) : w'.ownsRow base e size v n xs := by
  refine ⟨h.1, ?_⟩
  rcases h.2 with hn | ⟨g, cap, cur, rfl, hb2, hg, rest⟩
  · exact .inl hn
  · exact .inr ⟨g, cap, cur, rfl, hb2, (hk g _ _ rfl hg hb2).trans hg, rest⟩
theorem OwnL.keep {w w' : World} {base : Nat} {v : Value} {Ls : List (List Int)} (h : OwnL w base v Ls) (hk : ∀ k cs t m, w.heap[k]? = some (.cells cs t m) → (t = 31 ∨ t = 3) → base ≤ k → w'.heap[k]? = w.heap[k]?) : OwnL w' base v Ls := by
  obtain ⟨us, h1, h2, h3⟩ := h
  exact ⟨us, own_keepQ h1 fun k cs m _ h hb => hk k cs _ m h (.inl rfl) hb, h2, fun i u l hu hl => own_keepQ (h3 i u l hu hl) fun k cs m _ h hb => hk k cs _ m h (.inr rfl) hb⟩
theorem OwnL.row {w : World} {base : Nat} {v : Value} {Ls : List (List Int)} (h : OwnL w base v Ls) : ∃ us, w.ownsRow base 31 1 v Ls.length us := by
  obtain ⟨us, h1, _⟩ := h
  exact ⟨us, h1⟩
/-- what a walk may change: the finder's block, one map, the rows of lists -/
def FrW (n B : Nat) (b : Nat → Prop) (w w' : World) : Prop := Below 0 w w' ∧ ∀ k, k < n → k ≠ B → ¬ b k → (∀ cs m, w.heap[k]? = some (.cells cs 31 m) → k < B) → w'.heap[k]? = w.heap[k]?
section
variable {n B : Nat} {b : Nat → Prop} {w w1 w2 : World}
theorem FrW.refl (n B : Nat) (b : Nat → Prop) (w : World) : FrW n B b w w := ⟨Below.refl _ _, fun _ _ _ _ _ => rfl⟩
theorem FrW.trans (h : FrW n B b w w1) (k : FrW n B b w1 w2) : FrW n B b w w2 := ⟨h.1.trans k.1, fun j h1 h2 h3 h4 => by
  have e := h.2 j h1 h2 h3 h4
  exact (k.2 j h1 h2 h3 (fun cs m hc => h4 cs m (by rw [← e]; exact hc))).trans e⟩
theorem FrW.size (h : FrW n B b w w1) : w.heap.size ≤ w1.heap.size := h.1.size
theorem FrW.of_below (h : Below n w w1) : FrW n B b w w1 := ⟨h.mono (Nat.zero_le _), fun k h1 _ _ _ => h.block k h1⟩
/-- what lies below the finder stays -/
theorem FrW.below (h : FrW n B b w w1) (hn : B ≤ n) (hb : ∀ k, k < B → ¬ b k) : Below B w w1 :=
  ⟨h.1.os, h.1.tape, h.1.output, h.1.size, fun k hk => h.2 k (by omega) (by omega) (hb k hk) (fun _ _ _ => hk)⟩
theorem FrW.map {P : Program} {α β : Type} {S : MS P α β} {L : List α} {f : α → Option β} {g : Nat} (h : FrW n B b w w1) (hm : OwnM S w g L f) (hg : g < n) (hB : g ≠ B) (hb : ¬ b g) : OwnM S w1 g L f :=
  hm.same (h.2 g hg hB hb (fun _ _ hc => absurd rfl (hm.ne hc)))
end
end Go.Proofs.YtiopgbbggeimaaaGreat

/-
  Lists of lists that are read; the reference's Equal.
-/
namespace Go.Proofs.YtiopgbbggeimaaaGreat
open Go.ChangeShapes Go.WideShapes Go.ChangeAt Go.RowKit
theorem OwnL.rd {w : World} {base : Nat} {v : Value} {Ls : List (List Int)} (h : OwnL w base v Ls) : RdL w v Ls := by
  obtain ⟨us, h1, h2, h3⟩ := h
  exact ⟨us, Rd.own h1, h2, fun i u l hu hl => (h3 i u l hu hl).rd⟩
end Go.Proofs.YtiopgbbggeimaaaGreat

/-
  Outputs of fst.
-/
namespace Go.Proofs.YtiopgbbggeimaaaGreat
open Go.ChangeShapes Go.WideShapes Go.ChangeAt Go.RowKit
end Go.Proofs.YtiopgbbggeimaaaGreat

/-
  The reference's tables for Outputs, as plain laws.
-/
namespace Go.Proofs.YtiopgbbggeimaaaGreat
def ixP (xs : List Int) (q i : Nat) : Nat := q * (xs.length + 1) + i
theorem ixP_inj {xs : List Int} {q i q' i' : Nat} (hi : i ≤ xs.length) (hi' : i' ≤ xs.length) (h : ixP xs q i = ixP xs q' i') : q = q' ∧ i = i' := by
  have h2 : idx (xs.length + 1) 1 q i 0 = idx (xs.length + 1) 1 q' i' 0 := by
    unfold ixP at h
    unfold idx
    omega
  have := idx_inj (by omega) (by omega) (by omega) (by omega) h2
  exact ⟨this.1, this.2.1⟩
theorem ixP_lt {xs : List Int} {S q i : Nat} (hq : q < S) (hi : i ≤ xs.length) : ixP xs q i < S * (xs.length + 1) := by
  have := idx_lt (n := xs.length + 1) (m := 1) (k := 0) hq (by omega : i < xs.length + 1) (by omega)
  unfold idx at this
  unfold ixP
  omega
def boxB (F : PFst) (xs : List Int) (c : Plc) : Bool := decide (0 ≤ c.q ∧ c.q < F.states ∧ 0 ≤ c.i ∧ c.i ≤ xs.length)
theorem boxB_iff {F : PFst} {xs : List Int} {c : Plc} : boxB F xs c = true ↔ PBox F xs c := by
  unfold boxB
  rw [decide_eq_true_iff]
  exact ⟨fun ⟨h1, h2, h3, h4⟩ => ⟨h1, h2, h3, h4⟩, fun ⟨h1, h2, h3, h4⟩ => ⟨h1, h2, h3, h4⟩⟩
/-- marks, as a set of places -/
def mkS (F : PFst) (xs : List Int) (M : List Bool) : Plc → Bool := fun c => boxB F xs c && M.getD (ixP xs c.q.toNat c.i.toNat) false
def szP (F : PFst) (xs : List Int) : Nat := F.states.toNat * (xs.length + 1)
section
variable {F : PFst} {xs : List Int}
theorem mkS_box (M : List Bool) : BoxP F xs (mkS F xs M) := fun c h => by
  simp only [mkS, Bool.and_eq_true] at h
  exact boxB_iff.1 h.1
theorem mkS_iff {M : List Bool} {c : Plc} (hc : PBox F xs c) : mkS F xs M c = M.getD (ixP xs c.q.toNat c.i.toNat) false := by
  simp only [mkS, boxB_iff.2 hc, Bool.true_and]
theorem PBox.ix {c : Plc} (hc : PBox F xs c) : ixP xs c.q.toNat c.i.toNat < szP F xs := by
  have := hc.q0; have := hc.q1; have := hc.i0; have := hc.i1
  exact ixP_lt (by omega) (by omega)
theorem mkS_set {M : List Bool} (hl : M.length = szP F xs) {c : Plc} (hc : PBox F xs c) : mkS F xs (M.set (ixP xs c.q.toNat c.i.toNat) true) = addS (mkS F xs M) c := by
  funext d
  have hx := hc.ix
  by_cases hd : PBox F xs d
  · simp only [addS, mkS_iff hd, getD_set]
    by_cases e : d = c
    · subst e
      simp [hl, hx]
    · rw [if_neg]
      · simp [e]
      · rintro ⟨h, _⟩
        have := hc.q0; have := hc.i0; have := hc.i1
        have := hd.q0; have := hd.i0; have := hd.i1
        obtain ⟨e1, e2⟩ := ixP_inj (by omega) (by omega) h
        exact e (by cases c; cases d; simp only at *; congr 1 <;> omega)
  · have hb : boxB F xs d = false := by
      cases hb : boxB F xs d
      · rfl
      · exact absurd (boxB_iff.1 hb) hd
    have hne : d ≠ c := fun e => hd (e ▸ hc)
    simp [mkS, addS, hb, hne]
/-- the table of the least numbers -/
structure DInv (F : PFst) (xs : List Int) (D : List Int) : Prop where
  len : D.length = szP F xs
  rng : ∀ j, 0 ≤ D.getD j 0 ∧ D.getD j 0 ≤ 1073741824
  fin : ∀ t, t ∈ F.final → D.getD (ixP xs t.toNat xs.length) 0 = 0
def RelD (xs : List Int) (D : List Int) (a : PArc) (i : Nat) : Prop := stepOk xs i a.inp = true → D.getD (ixP xs a.fr.toNat i) 0 ≤ D.getD (ixP xs a.tgt.toNat (i + stepD a.inp)) 0 + costA a
def sumD (D : List Int) : Nat := (D.map Int.toNat).sum
theorem sumD_set (D : List Int) (j : Nat) (v : Int) (hj : j < D.length) (h0 : 0 ≤ v) (hv : v < D.getD j 0) : sumD (D.set j v) < sumD D := by
  induction D generalizing j with
  | nil => simp at hj
  | cons x D ih =>
    cases j with
    | zero => simp at hv; simp [sumD]; omega
    | succ j =>
      have := ih j (by simpa using hj) (by simpa using hv)
      simp only [sumD, List.set_cons_succ, List.map_cons, List.sum_cons] at this ⊢
      omega
theorem getD_setI (D : List Int) (j j' : Nat) (v : Int) : (D.set j v).getD j' 0 = if j = j' ∧ j < D.length then v else D.getD j' 0 := by
  simp only [List.getD_eq_getElem?_getD, List.getElem?_set]
  by_cases h : j = j'
  · subst h
    by_cases hl : j < D.length
    · simp [hl]
    · simp [hl]
  · simp [h]
theorem DInv.step {D : List Int} (h : DInv F xs D) {j : Nat} {v : Int} (hj : j < D.length) (h0 : 0 ≤ v) (hv : v < D.getD j 0) : DInv F xs (D.set j v) ∧ sumD (D.set j v) < sumD D := by
  refine ⟨⟨by rw [List.length_set]; exact h.len, fun k => ?_, fun t ht => ?_⟩, sumD_set D j v hj h0 hv⟩
  · rw [getD_setI]
    split
    · have := (h.rng j).2; omega
    · exact h.rng k
  · rw [getD_setI]
    split
    · rename_i e
      have := h.fin t ht
      rw [e.1] at hv
      omega
    · exact h.fin t ht
def PassD (F : PFst) (xs : List Int) (D0 : List Int) (Dn : PArc → Nat → Prop) (D : List Int) (more : Bool) : Prop :=
  DInv F xs D ∧ sumD D ≤ sumD D0 ∧ (more = true → sumD D < sumD D0) ∧ (more = false → D = D0 ∧ ∀ a i, Dn a i → RelD xs D0 a i)
theorem PassD.weaken {D0 D : List Int} {Dn Dn' : PArc → Nat → Prop} {more : Bool} (h : PassD F xs D0 Dn D more) (hD : ∀ a i, Dn' a i → Dn a i) : PassD F xs D0 Dn' D more :=
  ⟨h.1, h.2.1, h.2.2.1, fun hb => ⟨(h.2.2.2 hb).1, fun a c hd => (h.2.2.2 hb).2 a c (hD a c hd)⟩⟩
theorem PassD.keep {D0 D : List Int} {Dn Dn' : PArc → Nat → Prop} {more : Bool} (h : PassD F xs D0 Dn D more) {a : PArc} {i : Nat} (hr : RelD xs D a i) (hD : ∀ a' i', Dn' a' i' → Dn a' i' ∨ (a' = a ∧ i' = i)) : PassD F xs D0 Dn' D more := by
  refine ⟨h.1, h.2.1, h.2.2.1, fun hb => ?_⟩
  obtain ⟨e, hd⟩ := h.2.2.2 hb
  refine ⟨e, fun a' c' hd' => ?_⟩
  rcases hD a' c' hd' with h | ⟨rfl, rfl⟩
  · exact hd a' c' h
  · rw [← e]; exact hr
theorem PassD.step {D0 D : List Int} {Dn Dn' : PArc → Nat → Prop} {more : Bool} (h : PassD F xs D0 Dn D more) {j : Nat} {v : Int} (hj : j < D.length) (h0 : 0 ≤ v) (hv : v < D.getD j 0) : PassD F xs D0 Dn' (D.set j v) true := by
  obtain ⟨h1, h2⟩ := h.1.step hj h0 hv
  have := h.2.1
  exact ⟨h1, by omega, fun _ => by omega, fun hb => by cases hb⟩
theorem DInv.done (hF : GoodA F) {D : List Int} (h : DInv F xs D) (hr : ∀ a i, a ∈ F.arcs → i ≤ xs.length → RelD xs D a i) : ∀ c, PBox F xs c → ∀ w, AccP F xs c w → D.getD (ixP xs c.q.toNat c.i.toNat) 0 ≤ (w.length : Int) := by
  rintro c hc w ⟨t, ht, p, h1, h2, h3, h4⟩
  induction p generalizing c w with
  | nil =>
    have := hc.i0
    have := hc.i1
    simp only [chain] at h2
    have hl := congrArg List.length h3
    simp [ins] at hl
    have e : c.i.toNat = xs.length := by omega
    rw [e, h2, h.fin t ht]
    omega
  | cons a p ih =>
    have := hc.i0
    have := hc.i1
    obtain ⟨e1, h2⟩ := h2
    have hd := step_drop xs c.i.toNat a.inp (ins p) (by rw [← h3]; simp [ins])
    have hlv : Lv F xs a c := ⟨h1 a (by simp), e1, hd.1⟩
    have en : (nxP a c).i.toNat = c.i.toNat + stepD a.inp := by simp only [nxP]; omega
    have hu := ih (nxP a c) (hc.step hF hlv) (outs p) (fun b hb => h1 b (by simp [hb])) h2 (by rw [hd.2, en]) rfl
    have hle := hr a c.i.toNat (h1 a (by simp)) (by omega) hd.1
    rw [en, show (nxP a c).q = a.tgt from rfl] at hu
    rw [e1] at hle
    rw [← h4]
    have : ((outs (a :: p)).length : Int) = (outs p).length + costA a := by
      unfold costA
      by_cases ho : a.out = 0 <;> simp [outs, sym, ho]
    omega
/-- marks that spread over silent arcs -/
structure CInv (F : PFst) (xs : List Int) (N : Plc → Bool) (M : List Bool) : Prop where
  len : M.length = szP F xs
  nsub : ∀ c, N c = true → mkS F xs M c = true
  acc : ∀ c, mkS F xs M c = true → ∀ w, AccP F xs c w → AccS F xs N w
def CloAt (xs : List Int) (M : List Bool) (a : PArc) (i : Nat) : Prop := a.out = 0 → stepOk xs i a.inp = true → M.getD (ixP xs a.fr.toNat i) false = true → M.getD (ixP xs a.tgt.toNat (i + stepD a.inp)) false = true
def PassC (F : PFst) (xs : List Int) (N : Plc → Bool) (M0 : List Bool) (Dn : PArc → Nat → Prop) (M : List Bool) (more : Bool) : Prop :=
  CInv F xs N M ∧ cf M ≤ cf M0 ∧ (more = true → cf M < cf M0) ∧ (more = false → M = M0 ∧ ∀ a i, Dn a i → CloAt xs M0 a i)
theorem PassC.weaken {N : Plc → Bool} {M0 M : List Bool} {Dn Dn' : PArc → Nat → Prop} {more : Bool} (h : PassC F xs N M0 Dn M more) (hD : ∀ a i, Dn' a i → Dn a i) : PassC F xs N M0 Dn' M more :=
  ⟨h.1, h.2.1, h.2.2.1, fun hb => ⟨(h.2.2.2 hb).1, fun a c hd => (h.2.2.2 hb).2 a c (hD a c hd)⟩⟩
theorem PassC.keep {N : Plc → Bool} {M0 M : List Bool} {Dn Dn' : PArc → Nat → Prop} {more : Bool} (h : PassC F xs N M0 Dn M more) {a : PArc} {i : Nat} (hr : CloAt xs M a i) (hD : ∀ a' i', Dn' a' i' → Dn a' i' ∨ (a' = a ∧ i' = i)) : PassC F xs N M0 Dn' M more := by
  refine ⟨h.1, h.2.1, h.2.2.1, fun hb => ?_⟩
  obtain ⟨e, hd⟩ := h.2.2.2 hb
  refine ⟨e, fun a' c' hd' => ?_⟩
  rcases hD a' c' hd' with h | ⟨rfl, rfl⟩
  · exact hd a' c' h
  · rw [← e]; exact hr
theorem PassC.step (hF : GoodA F) {N : Plc → Bool} {M0 M : List Bool} {Dn Dn' : PArc → Nat → Prop} {more : Bool} (h : PassC F xs N M0 Dn M more) {a : PArc} {i : Nat} (ha : a ∈ F.arcs) (hi : i ≤ xs.length) (ho : a.out = 0) (hs : stepOk xs i a.inp = true)
    (hm : M.getD (ixP xs a.fr.toNat i) false = true) (hn : M.getD (ixP xs a.tgt.toNat (i + stepD a.inp)) false = false) : PassC F xs N M0 Dn' (M.set (ixP xs a.tgt.toNat (i + stepD a.inp)) true) true := by
  obtain ⟨f0, f1, t0, t1, _⟩ := hF.tgt a ha
  have hb : PBox F xs ⟨a.fr, i⟩ := ⟨f0, f1, by simp, by simp; omega⟩
  have hlv : Lv F xs a ⟨a.fr, i⟩ := ⟨ha, rfl, hs⟩
  have hb2 := hb.step hF hlv
  have e2 : ixP xs (nxP a ⟨a.fr, i⟩).q.toNat (nxP a ⟨a.fr, i⟩).i.toNat = ixP xs a.tgt.toNat (i + stepD a.inp) := by
    simp only [nxP]
    congr 1
  have hx := hb2.ix
  have hset := mkS_set h.1.len hb2
  rw [e2] at hx hset
  have hcf := (cf_set M (ixP xs a.tgt.toNat (i + stepD a.inp))).2 (by rw [h.1.len]; exact hx) hn
  have := h.2.1
  refine ⟨⟨by rw [List.length_set]; exact h.1.len, fun c hc => ?_, fun c hc w hw => ?_⟩, by omega, fun _ => by omega, fun hb => by cases hb⟩
  · rw [hset]; exact addS_sub (h.1.nsub c hc)
  · rw [hset] at hc
    rcases addS_iff.1 hc with rfl | hc
    · have hcc := AccP.cons (c := ⟨a.fr, i⟩) (by simp) hlv hw
      rw [show sym a.out = [] by simp [sym, ho]] at hcc
      exact h.1.acc _ (by rw [mkS_iff hb]; simpa using hm) _ hcc
    · exact h.1.acc c hc w hw
theorem CInv.done (hF : GoodA F) {N : Plc → Bool} {M : List Bool} (h : CInv F xs N M) (hr : ∀ a i, a ∈ F.arcs → i ≤ xs.length → CloAt xs M a i) : SpreadP F xs N (mkS F xs M) := by
  refine ⟨h.nsub, mkS_box M, fun c hc a hl ho => ?_, h.acc⟩
  have hb := mkS_box M c hc
  have hb2 := hb.step hF hl
  have := hb.i0; have := hb.i1
  rw [mkS_iff hb2]
  rw [mkS_iff hb] at hc
  have h1 := hr a c.i.toNat hl.1 (by omega) ho hl.2.2 (by rw [hl.2.1]; exact hc)
  have e : (nxP a c).i.toNat = c.i.toNat + stepD a.inp := by simp only [nxP]; omega
  rw [e]
  exact h1
/-- what is marked after x was written -/
structure WInv (F : PFst) (xs : List Int) (V : Plc → Bool) (x : Int) (Dn : PArc → Nat → Prop) (M : List Bool) : Prop where
  len : M.length = szP F xs
  sound : ∀ d, mkS F xs M d = true → ∃ c a, V c = true ∧ Lv F xs a c ∧ a.out = x ∧ d = nxP a c
  full : ∀ a c, V c = true → Lv F xs a c → a.out = x → Dn a c.i.toNat → mkS F xs M (nxP a c) = true
theorem WInv.weaken {V : Plc → Bool} {x : Int} {Dn Dn' : PArc → Nat → Prop} {M : List Bool} (h : WInv F xs V x Dn M) (hD : ∀ a i, Dn' a i → Dn a i) : WInv F xs V x Dn' M :=
  ⟨h.len, h.sound, fun a c h1 h2 h3 h4 => h.full a c h1 h2 h3 (hD a _ h4)⟩
theorem WInv.keep {V : Plc → Bool} {x : Int} {Dn Dn' : PArc → Nat → Prop} {M : List Bool} (h : WInv F xs V x Dn M) {a : PArc} {i : Nat} (hr : ∀ c, V c = true → Lv F xs a c → a.out = x → c.i.toNat = i → False) (hD : ∀ a' i', Dn' a' i' → Dn a' i' ∨ (a' = a ∧ i' = i)) : WInv F xs V x Dn' M :=
  ⟨h.len, h.sound, fun a' c h1 h2 h3 h4 => by
    rcases hD a' _ h4 with h5 | ⟨rfl, h5⟩
    · exact h.full a' c h1 h2 h3 h5
    · exact (hr c h1 h2 h3 h5).elim⟩
theorem WInv.step (hF : GoodA F) {V : Plc → Bool} (hV : BoxP F xs V) {x : Int} {Dn Dn' : PArc → Nat → Prop} {M : List Bool} (h : WInv F xs V x Dn M) {a : PArc} {i : Nat} (hv : V ⟨a.fr, i⟩ = true) (ha : a ∈ F.arcs) (ho : a.out = x) (hs : stepOk xs i a.inp = true)
    (hD : ∀ a' i', Dn' a' i' → Dn a' i' ∨ (a' = a ∧ i' = i)) : WInv F xs V x Dn' (M.set (ixP xs a.tgt.toNat (i + stepD a.inp)) true) := by
  have hb := hV _ hv
  have hlv : Lv F xs a ⟨a.fr, i⟩ := ⟨ha, rfl, hs⟩
  have hb2 := hb.step hF hlv
  have e2 : ixP xs (nxP a ⟨a.fr, i⟩).q.toNat (nxP a ⟨a.fr, i⟩).i.toNat = ixP xs a.tgt.toNat (i + stepD a.inp) := by
    simp only [nxP]
    congr 1
  have hset := mkS_set h.len hb2
  rw [e2] at hset
  refine ⟨by rw [List.length_set]; exact h.len, fun d hd => ?_, fun a' c h1 h2 h3 h4 => ?_⟩
  · rw [hset] at hd
    rcases addS_iff.1 hd with rfl | hd
    · exact ⟨_, a, hv, hlv, ho, rfl⟩
    · exact h.sound d hd
  · rw [hset]
    rcases hD a' _ h4 with h5 | ⟨rfl, h5⟩
    · exact addS_sub (h.full a' c h1 h2 h3 h5)
    · have hc := hV c h1
      have := hc.i0
      have e : c = ⟨a'.fr, i⟩ := by
        obtain ⟨_, e1, _⟩ := h2
        cases c
        simp only at *
        congr 1
        · exact e1.symm
        · omega
      rw [e]
      exact addS_self _ _
theorem WInv.done {V : Plc → Bool} {x : Int} {Dn : PArc → Nat → Prop} {M : List Bool} (h : WInv F xs V x Dn M) (hV : BoxP F xs V) (hD : ∀ a i, a ∈ F.arcs → i ≤ xs.length → Dn a i) : IsWr F xs V x (mkS F xs M) :=
  fun d => ⟨h.sound d, fun ⟨c, a, h1, h2, h3, h4⟩ => by
    rw [h4]
    have hc := hV c h1
    have := hc.i0; have := hc.i1
    exact h.full a c h1 h2 h3 (hD a _ h2.1 (by omega))⟩
end
end Go.Proofs.YtiopgbbggeimaaaGreat

/-
  The reference 20: least.
-/
namespace Go.Proofs.YtiopgbbggeimaaaGreat
open Go.ChangeShapes Go.WideShapes Go.ChangeAt Go.RowKit
def iArr (D : List Int) : Array Value := (D.map (Value.int .i64)).toArray
/-- block g holds the ints D -/
def Ins (w : World) (g : Nat) (D : List Int) : Prop := w.heap[g]? = some (.cells (iArr D) 3 (0, 0))
theorem Ins.lt {w : World} {g : Nat} {D : List Int} (h : Ins w g D) : g < w.heap.size := (Array.getElem?_eq_some_iff.1 h).1
theorem Ins.cell {w : World} {g : Nat} {D : List Int} (h : Ins w g D) {j : Nat} (hj : j < D.length) : w.cell? ⟨g, j, none⟩ = some (.int .i64 (D.getD j 0)) := by
  rw [cell_of_row w g j _ _ (0, 0) h]
  simp [hj, iArr]
theorem Ins.free {w : World} {g : Nat} {D : List Int} (h : Ins w g D) (j : Nat) : w.frozen? ⟨g, j, none⟩ = false := by
  unfold Ins at h
  simp [World.frozen?, h]
theorem Ins.set_ {w : World} {g : Nat} {D : List Int} (h : Ins w g D) (j : Nat) (v : Int) : Ins (w.setCell ⟨g, j, none⟩ (.int .i64 v)) g (D.set j v) := by
  unfold Ins at h ⊢
  simp [World.setCell, Array.getElem?_modify, h, List.map_set, iArr]
theorem Ins.below {w w' : World} {g : Nat} {D : List Int} (h : Ins w g D) (hb : Below w.heap.size w w') : Ins w' g D := (hb.block g h.lt).trans h
theorem Ins.alloc {w : World} {g : Nat} {D : List Int} (h : Ins w g D) (o : Obj) : Ins (w.alloc o) g D := (Below.heap_alloc w o g h.lt).trans h
theorem Ins.rd {w : World} {g : Nat} {D : List Int} (h : Ins w g D) (hl : D.length ≤ 9223372036854775807) : RdI w (.slice (some ⟨g, 0, none⟩) D.length D.length) D := by
  refine ⟨some ⟨g, 0, none⟩, D.length, rfl, Nat.le_refl _, hl, by simp, fun _ => ⟨g, 0, rfl, h.lt, fun j u hu => ?_⟩⟩
  simp only [List.getElem?_map, Option.map_eq_some_iff] at hu
  obtain ⟨z, hz, rfl⟩ := hu
  obtain ⟨hl, rfl⟩ := List.getElem?_eq_some_iff.1 hz
  rw [Nat.zero_add, h.cell hl]
  simp [hl]
/-- the table while it is filled -/
structure DPre (D : List Int) (n : Nat) : Prop where
  len : D.length = n
  rng : ∀ j, 0 ≤ D.getD j 0 ∧ D.getD j 0 ≤ 1073741824
theorem DPre.set {D : List Int} {n : Nat} (h : DPre D n) (j : Nat) {v : Int} (h0 : 0 ≤ v) (h1 : v ≤ 1073741824) : DPre (D.set j v) n :=
  ⟨by rw [List.length_set]; exact h.len, fun k => by rw [getD_setI]; split; exact ⟨h0, h1⟩; exact h.rng k⟩
theorem DPre.zero (n : Nat) : DPre (List.replicate n 0) n :=
  ⟨by simp, fun j => by simp only [List.getD_eq_getElem?_getD, List.getElem?_replicate]; split <;> simp⟩
end Go.Proofs.YtiopgbbggeimaaaGreat

/-
  The reference 20: written, need, symbols.
-/
namespace Go.Proofs.YtiopgbbggeimaaaGreat
open Go.ChangeShapes Go.WideShapes Go.ChangeAt Go.RowKit
end Go.Proofs.YtiopgbbggeimaaaGreat

/-
  What is reached over arcs, as plain laws: the search of the program and the passes of the reference.
-/
namespace Go.Proofs.YtiopgbbggeimaaaGreat
def srcA (d : Bool) (a : PArc) : Int := if d then a.tgt else a.fr
def dstA (d : Bool) (a : PArc) : Int := if d then a.fr else a.tgt
/-- what is reached from S0 -/
inductive Rch (L : List PArc) (d : Bool) (S0 : Int → Prop) : Int → Prop
  | base (q : Int) : S0 q → Rch L d S0 q
  | step (a : PArc) : a ∈ L → Rch L d S0 (srcA d a) → Rch L d S0 (dstA d a)
def nexts (L : List PArc) (d : Bool) (q : Nat) : List Int := (L.filter fun a => srcA d a == (q : Int)).map (dstA d)
/-- the arcs that begin at what is not marked -/
def restA (L : List PArc) (d : Bool) (M : List Bool) : List PArc := L.filter fun a => !(M.getD (srcA d a).toNat false)
structure RInv (L : List PArc) (d : Bool) (S : Nat) (fm : List Int) (M : List Bool) (Qs : List Int) : Prop where
  len : M.length = S
  qs : ∀ q, q ∈ Qs → 0 ≤ q ∧ q < S ∧ Rch L d (· ∈ fm) q
  ms : ∀ q : Nat, M.getD q false = true → Rch L d (· ∈ fm) (q : Int)
  base : ∀ q : Nat, (q : Int) ∈ fm → M.getD q false = true ∨ (q : Int) ∈ Qs
  clo : ∀ a, a ∈ L → M.getD (srcA d a).toNat false = true → M.getD (dstA d a).toNat false = true ∨ dstA d a ∈ Qs
  cnt : Qs.length + (restA L d M).length ≤ fm.length + L.length
section
variable {L : List PArc} {d : Bool} {S : Nat} {fm : List Int} {M : List Bool} {Qs : List Int}
theorem RInv.skip {q : Nat} (h : RInv L d S fm M (Qs ++ [(q : Int)])) (hm : M.getD q false = true) : RInv L d S fm M Qs := by
  refine ⟨h.len, fun y hy => h.qs y (by simp [hy]), h.ms, fun y hy => ?_, fun a ha hs => ?_, by have := h.cnt; simp at this; omega⟩
  · rcases h.base y hy with h1 | h1
    · exact .inl h1
    · rcases List.mem_append.1 h1 with h2 | h2
      · exact .inr h2
      · have : (y : Int) = q := by simpa using h2
        rw [show y = q by omega]; exact .inl hm
  · rcases h.clo a ha hs with h1 | h1
    · exact .inl h1
    · rcases List.mem_append.1 h1 with h2 | h2
      · exact .inr h2
      · have : dstA d a = (q : Int) := by simpa using h2
        rw [this]; exact .inl hm
theorem RInv.done (hL : ∀ a, a ∈ L → 0 ≤ srcA d a ∧ 0 ≤ dstA d a ∧ dstA d a < S) (hf : ∀ q, q ∈ fm → 0 ≤ q) (h : RInv L d S fm M []) (q : Nat) : M.getD q false = true ↔ Rch L d (· ∈ fm) (q : Int) := by
  refine ⟨h.ms q, fun hr => ?_⟩
  have : ∀ y, Rch L d (· ∈ fm) y → 0 ≤ y ∧ M.getD y.toNat false = true := fun y hy => by
    induction hy with
    | base y hy =>
      have h0 := hf y hy
      rcases h.base y.toNat (by rw [Int.toNat_of_nonneg h0]; exact hy) with h1 | h1
      · exact ⟨h0, h1⟩
      · cases h1
    | step a ha _ ih =>
      refine ⟨(hL a ha).2.1, ?_⟩
      rcases h.clo a ha ih.2 with h1 | h1
      · exact h1
      · cases h1
  have := (this _ hr).2
  simpa using this
end
/-- the marks of the reference -/
structure SInv (L : List PArc) (d : Bool) (S : Nat) (S0 : Int → Prop) (M : List Bool) : Prop where
  len : M.length = S
  ms : ∀ q : Nat, M.getD q false = true → Rch L d S0 (q : Int)
  base : ∀ q : Nat, S0 (q : Int) → M.getD q false = true
def SClo (d : Bool) (M : List Bool) (a : PArc) : Prop := M.getD (srcA d a).toNat false = true → M.getD (dstA d a).toNat false = true
def PassR (L : List PArc) (d : Bool) (S : Nat) (S0 : Int → Prop) (M0 : List Bool) (D : PArc → Prop) (M : List Bool) (more : Bool) : Prop :=
  SInv L d S S0 M ∧ cf M ≤ cf M0 ∧ (more = true → cf M < cf M0) ∧ (more = false → M = M0 ∧ ∀ a, D a → SClo d M0 a)
section
variable {L : List PArc} {d : Bool} {S : Nat} {S0 : Int → Prop} {M M0 : List Bool} {D D' : PArc → Prop} {more : Bool}
theorem PassR.weaken (h : PassR L d S S0 M0 D M more) (hD : ∀ a, D' a → D a) : PassR L d S S0 M0 D' M more :=
  ⟨h.1, h.2.1, h.2.2.1, fun hb => ⟨(h.2.2.2 hb).1, fun a hd => (h.2.2.2 hb).2 a (hD a hd)⟩⟩
theorem PassR.keep (h : PassR L d S S0 M0 D M more) {a : PArc} (hr : SClo d M a) (hD : ∀ a', D' a' → D a' ∨ a' = a) : PassR L d S S0 M0 D' M more := by
  refine ⟨h.1, h.2.1, h.2.2.1, fun hb => ?_⟩
  obtain ⟨e, hd⟩ := h.2.2.2 hb
  refine ⟨e, fun a' hd' => ?_⟩
  rcases hD a' hd' with h | rfl
  · exact hd a' h
  · rw [← e]; exact hr
theorem PassR.step (hL : ∀ a, a ∈ L → 0 ≤ srcA d a ∧ 0 ≤ dstA d a ∧ dstA d a < S) (h : PassR L d S S0 M0 D M more) {a : PArc} (ha : a ∈ L) (hs : M.getD (srcA d a).toNat false = true) (hn : M.getD (dstA d a).toNat false = false) :
    PassR L d S S0 M0 D' (M.set (dstA d a).toNat true) true := by
  obtain ⟨h0, h1, h2⟩ := hL a ha
  have hlt : (dstA d a).toNat < M.length := by rw [h.1.len]; omega
  have hset : ∀ j, (M.set (dstA d a).toNat true).getD j false = if (dstA d a).toNat = j then true else M.getD j false := fun j => by
    rw [getD_set]
    by_cases e : (dstA d a).toNat = j
    · simp [e, e ▸ hlt]
    · simp [e]
  have hcf := (cf_set M (dstA d a).toNat).2 hlt hn
  have := h.2.1
  refine ⟨⟨by rw [List.length_set]; exact h.1.len, fun q hq => ?_, fun q hq => ?_⟩, by omega, fun _ => by omega, fun hb => by cases hb⟩
  · rw [hset] at hq
    by_cases e : (dstA d a).toNat = q
    · have e2 : (q : Int) = dstA d a := by omega
      rw [e2]
      refine .step a ha ?_
      have h3 := h.1.ms _ hs
      rw [Int.toNat_of_nonneg h0] at h3
      exact h3
    · rw [if_neg e] at hq; exact h.1.ms q hq
  · rw [hset]
    split
    · rfl
    · exact h.1.base q hq
theorem SInv.done (hL : ∀ a, a ∈ L → 0 ≤ srcA d a ∧ 0 ≤ dstA d a ∧ dstA d a < S) (h0 : ∀ q, S0 q → 0 ≤ q) (h : SInv L d S S0 M) (hc : ∀ a, a ∈ L → SClo d M a) (q : Nat) : M.getD q false = true ↔ Rch L d S0 (q : Int) := by
  refine ⟨h.ms q, fun hr => ?_⟩
  have : ∀ y, Rch L d S0 y → 0 ≤ y ∧ M.getD y.toNat false = true := fun y hy => by
    induction hy with
    | base y hy =>
      have h1 := h0 y hy
      refine ⟨h1, h.base y.toNat ?_⟩
      rw [Int.toNat_of_nonneg h1]; exact hy
    | step a ha _ ih => exact ⟨(hL a ha).2.1, hc a ha ih.2⟩
  have := (this _ hr).2
  simpa using this
end
end Go.Proofs.YtiopgbbggeimaaaGreat


/-
  The part of older texts that this seat needs (printed by shake.py): U1
-/
/-
  reach of fst.
-/
namespace Go.Proofs.YtiopgbbggeimaaaGreat
open Go.ChangeShapes Go.WideShapes Go.ChangeAt Go.RowKit
theorem OwnI.len {w : World} {base : Nat} {A : Option Addr} {n c : Nat} {l : List Int} (h : OwnI w base (.slice A n c) l) : n = l.length := by
  obtain ⟨_, _, _, he⟩ := own_slice h
  cases he
  rfl
def nCells (L : List PArc) (d : Bool) (q : Nat) : List Value := (nexts L d q).map (Value.int .i64)
/-- the table as it is read -/
def NRd (w : World) (g S : Nat) (L : List PArc) (d : Bool) : Prop := RTbl 1 w g S (fun q => (nexts L d q).length) (nCells L d)
theorem NRd.at_ {w : World} {g S : Nat} {L : List PArc} {d : Bool} (h : NRd w g S L d) {q : Nat} (hq : q < S) : ∃ A n c, w.cell? ⟨g, q, none⟩ = some (.slice A n c) ∧ RdI w (.slice A n c) (nexts L d q) := by
  obtain ⟨v, h1, h2⟩ := h.2 q hq
  have h3 : RdI w v (nexts L d q) := h2
  obtain ⟨A, n, c, rfl, _, _, _, _⟩ := h3.op
  exact ⟨A, n, c, h1, h3⟩
end Go.Proofs.YtiopgbbggeimaaaGreat


/-
  The part of older texts that this seat needs (printed by shake.py): U2 UP2
-/
/-
  Useful of fst and of the reference 20.
-/
namespace Go.Proofs.YtiopgbbggeimaaaGreat
open Go.ChangeShapes Go.WideShapes Go.ChangeAt Go.RowKit
noncomputable def useB (F : PFst) (q : Nat) : Bool := @decide (Rch F.arcs false (fun y => y ∈ [(0 : Int)]) (q : Int) ∧ Rch F.arcs true (fun y => y ∈ F.final) (q : Int)) (Classical.propDecidable _)
end Go.Proofs.YtiopgbbggeimaaaGreat

/-
  Trim, in plain words.
-/
namespace Go.Proofs.YtiopgbbggeimaaaGreat
/-- how many useful states there are from 1 on, below q -/
noncomputable def cntU (F : PFst) (q : Nat) : Nat := ((List.range q).filter fun r => useB F r && decide (1 ≤ r)).length
noncomputable def numU (F : PFst) (q : Nat) : Int := if q = 0 then 0 else 1 + (cntU F q : Int)
end Go.Proofs.YtiopgbbggeimaaaGreat


/-
  The part of older texts that this seat needs (printed by shake.py): U4 U5
-/
/-
  Trim of fst.
-/
namespace Go.Proofs.YtiopgbbggeimaaaGreat
open Go.ChangeShapes Go.WideShapes Go.ChangeAt Go.RowKit
end Go.Proofs.YtiopgbbggeimaaaGreat

/-
  Trim and Empty of the reference 20; Empty of fst.
-/
namespace Go.Proofs.YtiopgbbggeimaaaGreat
open Go.ChangeShapes Go.WideShapes Go.ChangeAt Go.RowKit
/-- the names that were given below k -/
structure NmOk (F : PFst) (S k : Nat) (D : List Int) : Prop where
  len : D.length = S
  nm : ∀ r, r < k → useB F r = true → D.getD r 0 = numU F r
theorem NmOk.skip {F : PFst} {S k : Nat} {D : List Int} (h : NmOk F S k D) (hu : useB F k = false) : NmOk F S (k + 1) D :=
  ⟨h.len, fun r hr hr2 => by
    by_cases e : r = k
    · subst e; rw [hu] at hr2; cases hr2
    · exact h.nm r (by omega) hr2⟩
theorem NmOk.set {F : PFst} {S k : Nat} {D : List Int} (h : NmOk F S k D) (hk : k < S) : NmOk F S (k + 1) (D.set k (numU F k)) :=
  ⟨by rw [List.length_set]; exact h.len, fun r hr hr2 => by
    rw [getD_setI]
    by_cases e : k = r
    · subst e; rw [if_pos ⟨rfl, by rw [h.len]; exact hk⟩]
    · rw [if_neg (fun h => e h.1)]; exact h.nm r (by omega) hr2⟩
end Go.Proofs.YtiopgbbggeimaaaGreat


/-
  The part of older texts that this seat needs (printed by shake.py): Own W1 W2 W3 W5 W6
-/
/-
  Rows of the call's own: ints, bools; appending.
-/
namespace Go.Proofs.YtiopgbbggeimaaaGreat
open Go.ChangeShapes Go.WideShapes Go.ChangeAt Go.RowKit
section
variable {w w1 : World} {base : Nat}
end
section
variable {P : Program} (w : World)
end
end Go.Proofs.YtiopgbbggeimaaaGreat

/-
  Points of a text: Scalar, encoded, first of the reference of runes.
-/
namespace Go.Proofs.YtiopgbbggeimaaaGreat
open Go.ChangeShapes Go.WideShapes Go.ChangeAt Go.RowKit
end Go.Proofs.YtiopgbbggeimaaaGreat

/-
  first of the reference of runes.
-/
namespace Go.Proofs.YtiopgbbggeimaaaGreat
open Go.ChangeShapes Go.WideShapes Go.ChangeAt Go.RowKit
end Go.Proofs.YtiopgbbggeimaaaGreat

/-
  Points, Label and Name of the references: each returns.
-/
namespace Go.Proofs.YtiopgbbggeimaaaGreat
open Go.ChangeShapes Go.WideShapes Go.ChangeAt Go.RowKit
end Go.Proofs.YtiopgbbggeimaaaGreat

/-
  Texts, inventories and orthographies in memory.
-/
namespace Go.Proofs.YtiopgbbggeimaaaGreat
open Go.ChangeShapes Go.WideShapes Go.ChangeAt Go.RowKit
/-! a list of texts -/
/-! a list of lists of texts -/
/-! the segments of an inventory -/
/-! units -/
/-! an orthography -/
end Go.Proofs.YtiopgbbggeimaaaGreat

/-
  label of the reference of orthographies; Check of the reference of phonemes.
-/
namespace Go.Proofs.YtiopgbbggeimaaaGreat
open Go.ChangeShapes Go.WideShapes Go.ChangeAt Go.RowKit
end Go.Proofs.YtiopgbbggeimaaaGreat


/-
  A region that draws its order, while one thing stays true of the world throughout: what only reads is taken first, whatever may come up beside it; where several others may come up, each is walked.
-/
namespace Go
section
variable {P : Program} {ops : Array Oper} {l : List Oper} {Q : Exit → Act → World → Prop} {S : World → Prop} {f : Nat} {listed : Array Bool} {a : Act} {w : World}
def wpAnyT (P : Program) (ops : Array Oper) (Q : Exit → Act → World → Prop) (S : World → Prop) : Nat → Array Bool → Act → World → Prop
  | 0, listed, a, w => Region.ready .any ops listed = [] ∧ Q .normal a w
  | fuel + 1, listed, a, w => (Region.ready .any ops listed = [] → Q .normal a w) ∧ ∀ i ∈ Region.ready .any ops listed, wpOp P ops Q i (fun a' w' => S w' ∧ wpAnyT P ops Q S fuel (listed.setIfInBounds i true) a' w') a w
theorem wpAny_of_T : ∀ (fuel : Nat) (listed : Array Bool) (a : Act) (w : World), wpAnyT P ops Q S fuel listed a w → wpAny P .any ops Q fuel listed a w
  | 0, _, _, _, h => h
  | fuel + 1, _, _, _, h => ⟨h.1, fun i hi => wpOp_mono (fun a' w' h' => wpAny_of_T fuel _ a' w' h'.2) (h.2 i hi)⟩
theorem wpAnyT_first {i : Nat} {oi : Oper} {v : Value} (hi : ops[i]? = some oi) (hsel : ∀ (j : Nat) (o : Oper) cs b, ops[j]? = some o → o.op ≠ .select cs b)
    (hQ : ∀ c a w, Q (.panic c) (a.put oi.dst v) w → Q (.panic c) a w) :
    ∀ (fuel : Nat) (listed : Array Bool) (a : Act) (w : World),
      (∀ j oj, ops[j]? = some oj → j ≠ i → listed.getD j true = false → (∀ e ∈ oj.after, Region.binds .any e = true → e.on ≠ i) → oi.apart ops oj = true) →
      i ∈ Region.ready .any ops listed → YieldsIf P ops S oi v a → S w →
      wpAnyT P ops Q S fuel (listed.setIfInBounds i true) (a.put oi.dst v) w → wpAnyT P ops Q S (fuel + 1) listed a w := by
  intro fuel
  induction fuel with
  | zero =>
    intro listed a w _ hr hy hS H
    refine ⟨fun h => (by rw [h] at hr; cases hr), fun j hj => ?_⟩
    by_cases hji : j = i
    · subst hji; exact hy.wpOp hi hS ⟨hS, H⟩
    · have := ready_mono hj hji
      rw [H.1] at this
      cases this
  | succ fuel ih =>
    intro listed a w hfree hr hy hS H
    have hun := (mem_ready.1 hr).1
    refine ⟨fun h => (by rw [h] at hr; cases hr), fun j hj => ?_⟩
    by_cases hji : j = i
    · subst hji; exact hy.wpOp hi hS ⟨hS, H⟩
    · have h1 := H.2 j (ready_mono hj hji)
      obtain ⟨hjun, oj, hoj, hall⟩ := mem_ready.1 hj
      have hnot : ∀ e ∈ oj.after, Region.binds .any e = true → e.on ≠ i := fun e he hb heq => by
        have h1 := hall e he hb
        rw [heq, getD_both hun] at h1
        cases h1
      have h2 := wpOp_putIf hoj (hfree j oj hoj hji hjun hnot) (fun cs b => hsel i oi cs b hi) (fun cs b => hsel j oj cs b hoj) hQ hy h1
      refine wpOp_mono (fun a' w' h3 => ⟨h3.2.1, ih (listed.setIfInBounds j true) a' w' (hfree_set hjun hfree) (ready_mono hr (Ne.symm hji)) h3.1 h3.2.1 ?_⟩) h2
      rw [Array.setIfInBounds_comm _ _ hji]
      exact h3.2.2
def wpS (P : Program) (l : List Oper) (Q : Exit → Act → World → Prop) (S : World → Prop) (f : Nat) (listed : Array Bool) (a : Act) (w : World) : Prop :=
  Region.noSelect l.toArray = true → (∀ c a d v w, Q (.panic c) (Act.put a d v) w → Q (.panic c) a w) → wpAnyT P l.toArray Q S f listed a w
theorem wp_region_all {id : Nat} (N : Nat) (S : World → Prop) (hm : P.follows .mixedOrders = true) (hB : (Region.noSelect l.toArray && decide (l.toArray.size = N)) = true)
    (h : ∀ D : World, D = w.drew → wpS P l (NoPanic Q) S N (Array.replicate N false) a D) : (Code.region id l.toArray true).wp P Q a w := by
  simp only [Bool.and_eq_true, decide_eq_true_eq] at hB
  obtain ⟨h1, h3⟩ := hB
  subst h3
  refine wp_region_noPanic (wp_region_any hm ?_)
  exact wpAny_of_T _ _ _ _ (h _ rfl h1 (fun _ _ _ _ _ h => h))
theorem wpS_take (i : Nat) {o : Oper} {v : Value} (hq : ((Region.ready .any l.toArray listed).contains i && Region.free .any l.toArray listed i) = true) (hi : l[i]? = some o) (hw : Region.wanted o (yielded l.toArray a.tmps) = true) (hS : S w)
    (hy : ∀ w', S w' → (execOp a.eval o).run P w' = .ok (.value v) w') (h : wpS P l Q S f (listed.setIfInBounds i true) (a.put o.dst v) w) : wpS P l Q S (f + 1) listed a w := by
  intro h1 hQ
  simp only [Bool.and_eq_true] at hq
  have hrd : i ∈ Region.ready .any l.toArray listed := by simpa using hq.1
  have ho : l.toArray[i]? = some o := by simpa using hi
  exact wpAnyT_first ho (Region.noSelect_spec h1) (fun c a w h => hQ c a _ _ w h) _ listed a w (Region.free_spec ho hq.2) hrd (.inl ⟨hw, hy⟩) hS (h h1 hQ)
def AllS (P : Program) (l : List Oper) (Q : Exit → Act → World → Prop) (S : World → Prop) (f : Nat) (listed : Array Bool) (a : Act) (w : World) (rs : List Nat) : Prop :=
  ∀ i ∈ rs, wpOp P l.toArray Q i (fun a' w' => S w' ∧ wpS P l Q S f (listed.setIfInBounds i true) a' w') a w
theorem wpS_br (rs : List Nat) (hr : (decide (Region.ready .any l.toArray listed = rs) && !rs.isEmpty) = true) (h : AllS P l Q S f listed a w rs) : wpS P l Q S (f + 1) listed a w := by
  intro h1 hQ
  simp only [Bool.and_eq_true, decide_eq_true_eq] at hr
  obtain ⟨r1, r2⟩ := hr
  have hne : rs ≠ [] := by intro he; simp [he] at r2
  refine ⟨fun h0 => absurd (r1 ▸ h0) hne, fun i hi => ?_⟩
  have hi' : i ∈ rs := r1 ▸ hi
  exact wpOp_mono (fun a' w' h' => ⟨h'.1, h'.2 h1 hQ⟩) (h i hi')
theorem AllS.nil : AllS P l Q S f listed a w [] := fun _ h => by cases h
theorem AllS.cons {i : Nat} {rs : List Nat} {o : Oper} (hi : l[i]? = some o) (hw : Region.wanted o (yielded l.toArray a.tmps) = true)
    (h : ∀ K : Act → World → Prop, RowKit.Hid (∀ a' w', S w' → wpS P l Q S f (listed.setIfInBounds i true) a' w' → K a' w') → o.wp P a w K Q) (hs : AllS P l Q S f listed a w rs) : AllS P l Q S f listed a w (i :: rs) := by
  intro j hj
  rcases List.mem_cons.1 hj with rfl | hj
  · unfold wpOp
    have hi : l.toArray[j]? = some o := by simpa using hi
    simp only [hi, hw, if_true]
    exact .inl (h _ (fun a' w' h1 h2 => ⟨h1, h2⟩))
  · exact hs j hj
theorem wpS_nil (hr : (Region.ready .any l.toArray listed).isEmpty = true) (h : Q .normal a w) : wpS P l Q S 0 listed a w := fun _ _ => ⟨by simpa using hr, h⟩
end
end Go

/-
  Classes and rules in memory; Is and In of both sides.
-/
namespace Go.Proofs.YtiopgbbggeimaaaGreat
open Go.ChangeShapes Go.WideShapes Go.ChangeAt Go.RowKit
theorem al_below (w : World) (o : Obj) : Below w.heap.size w (w.alloc o) := (Below.refl _ _).alloc (Nat.le_refl _) _
structure PCls where
  mask : Int
  val : Int
  deriving DecidableEq
def isB (I : List PPh) (s : Int) : Bool := decide (1 ≤ s) && decide (s ≤ (I.length : Int))
def featB (I : List PPh) (s : Int) : Int := (I.getD (s - 1).toNat ⟨⟨#[]⟩, 0⟩).feat
def inB (I : List PPh) (s : Int) (c : PCls) : Bool := isB I s && (bits .and .i64 (featB I s) c.mask == c.val)
def RdVQ (w : World) (v : Value) (I : List PPh) : Prop := ∃ u, v = .agg #[u] ∧ RdPh w u I
theorem RdVQ.below {w w' : World} {v : Value} {I : List PPh} (h : RdVQ w v I) (hb : Below w.heap.size w w') : RdVQ w' v I := by
  obtain ⟨u, rfl, h1⟩ := h
  exact ⟨u, rfl, h1.below hb⟩
def clsCells (c : PCls) : List Value := [.int .i64 c.mask, .int .i64 c.val]
def RdC (w : World) (v : Value) (l : List PCls) : Prop := Rd w 2 v l.length (l.flatMap clsCells)
theorem RdC.below {w w' : World} {v : Value} {l : List PCls} (h : RdC w v l) (hb : Below w.heap.size w w') : RdC w' v l := Rd.below h hb
def ClsAt (w : World) (A : Option Addr) (l : List PCls) (k : Nat) : Prop :=
  ∃ b off c, A = some ⟨b, off, none⟩ ∧ b < w.heap.size ∧ Hid (l.drop k = c :: l.drop (k + 1)) ∧ w.cell? ⟨b, off + k * 2, none⟩ = some (.int .i64 c.mask) ∧ w.cell? ⟨b, off + k * 2 + 1, none⟩ = some (.int .i64 c.val)
theorem RdC.op {w : World} {v : Value} {l : List PCls} (h : RdC w v l) : ∃ (A : Option Addr) (n c : Nat), v = .slice A n c ∧ n ≤ c ∧ c ≤ 9223372036854775807 ∧ Hid (l.length = n) ∧ Hid (∀ k, k < n → ClsAt w A l k) := by
  obtain ⟨A, c, rfl, h1, h2, h3, h4⟩ := h
  refine ⟨A, _, c, rfl, h1, h2, rfl, fun k hk => ?_⟩
  obtain ⟨b, off, rfl, hb, hc⟩ := h4 (by omega)
  exact ⟨b, off, l[k], rfl, hb, List.drop_eq_getElem_cons hk, hc (k * 2 + 0) _ (flat2_at clsCells (fun _ => rfl) l k hk 0 (by omega)), hc (k * 2 + 1) _ (flat2_at clsCells (fun _ => rfl) l k hk 1 (by omega))⟩
theorem ClsAt.below {w w' : World} {A : Option Addr} {l : List PCls} {k : Nat} (h : ClsAt w A l k) (hb : Below w.heap.size w w') : ClsAt w' A l k := by
  obtain ⟨b, off, c, rfl, h1, h2, h3, h4⟩ := h
  exact ⟨b, off, c, rfl, by have := hb.size; omega, h2, (hb.cell h1).trans h3, (hb.cell h1).trans h4⟩
/-- a rule -/
structure PRule where
  fr : List Int
  tto : List Int
  lft : List PCls
  rgt : List PCls
  beg : Bool
  fin : Bool
def RdR (w : World) (v : Value) (R : PRule) : Prop := ∃ vf vt vl vr, v = .agg #[vf, vt, vl, vr, .bool R.beg, .bool R.fin] ∧ RdI w vf R.fr ∧ RdI w vt R.tto ∧ RdC w vl R.lft ∧ RdC w vr R.rgt
theorem RdR.below {w w' : World} {v : Value} {R : PRule} (h : RdR w v R) (hb : Below w.heap.size w w') : RdR w' v R := by
  obtain ⟨vf, vt, vl, vr, rfl, h1, h2, h3, h4⟩ := h
  exact ⟨vf, vt, vl, vr, rfl, h1.below hb, h2.below hb, h3.below hb, h4.below hb⟩
set_option maxHeartbeats 1000000 in
theorem ris_any (v : Value) (I : List PPh) (s : Int) (w : World) (hv : RdVQ w v I) :
    Calls Tryz.prog 98 #[v, .int .i64 s] w fun e w' => e = .returned (.bool (isB I s)) ∧ Below w.heap.size w w' := by
  obtain ⟨u, rfl, hp⟩ := hv
  obtain ⟨A, n, c, rfl, _, _, HN, _⟩ := hp.op
  clear hp
  obtain ⟨b, hb⟩ : ∃ b, isB I s = b := ⟨_, rfl⟩
  rw [hb]
  rw [isB, HN.out] at hb
  have HBW : Hid (Below w.heap.size w (w.alloc (.cells #[.slice A n c] 24))) := al_below _ _
  cases h1 : decide (1 ≤ s)
  · rw [h1, Bool.false_and] at hb
    subst hb
    go_enter Tryz.func98, Tryz.ntmps98
    go_wp2_with fail
    go_ret
    exact ⟨rfl, HBW.out⟩
  · rw [h1, Bool.true_and] at hb
    go_enter Tryz.func98, Tryz.ntmps98
    go_wp2_with fail
    go_ret
    exact ⟨rfl, HBW.out⟩
set_option maxHeartbeats 1000000 in
theorem seg_any (v : Value) (I : List PPh) (s : Int) (w : World) (hv : RdVQ w v I) :
    Calls Tryz.prog 90 #[v, .int .i64 s] w fun e w' => e = .returned (.bool (isB I s)) ∧ Below w.heap.size w w' := by
  obtain ⟨u, rfl, hp⟩ := hv
  obtain ⟨A, n, c, rfl, _, _, HN, _⟩ := hp.op
  clear hp
  obtain ⟨b, hb⟩ : ∃ b, isB I s = b := ⟨_, rfl⟩
  rw [hb]
  rw [isB, HN.out] at hb
  have HBW : Hid (Below w.heap.size w (w.alloc (.cells #[.slice A n c] 24))) := al_below _ _
  cases h1 : decide (1 ≤ s)
  · rw [h1, Bool.false_and] at hb
    subst hb
    go_enter Tryz.func90, Tryz.ntmps90
    go_wp2_with fail
    go_ret
    exact ⟨rfl, HBW.out⟩
  · rw [h1, Bool.true_and] at hb
    go_enter Tryz.func90, Tryz.ntmps90
    go_wp2_with fail
    go_ret
    exact ⟨rfl, HBW.out⟩
def CBlk (w : World) (R : Nat) (c : PCls) : Prop := w.heap[R]? = some (.cells #[.int .i64 c.mask, .int .i64 c.val] 95 (0, 0))
theorem CBlk.lt {w : World} {R : Nat} {c : PCls} (h : CBlk w R c) : R < w.heap.size := (Array.getElem?_eq_some_iff.1 h).1
theorem CBlk.below {w w' : World} {R : Nat} {c : PCls} (h : CBlk w R c) (hb : Below w.heap.size w w') : CBlk w' R c := (hb.block R h.lt).trans h
theorem CBlk.facts {w : World} {R : Nat} {c : PCls} (h : CBlk w R c) : w.cell? ⟨R, 0, none⟩ = some (.int .i64 c.mask) ∧ w.cell? ⟨R, 1, none⟩ = some (.int .i64 c.val) := by
  refine ⟨?_, ?_⟩ <;> rw [cell_of_row w R _ _ _ (0, 0) h] <;> rfl
def VBlk (w : World) (R : Nat) (u : Value) : Prop := w.heap[R]? = some (.cells #[u] 24 (0, 0))
theorem VBlk.lt {w : World} {R : Nat} {u : Value} (h : VBlk w R u) : R < w.heap.size := (Array.getElem?_eq_some_iff.1 h).1
theorem VBlk.below {w w' : World} {R : Nat} {u : Value} (h : VBlk w R u) (hb : Below w.heap.size w w') : VBlk w' R u := (hb.block R h.lt).trans h
theorem VBlk.cell {w : World} {R : Nat} {u : Value} (h : VBlk w R u) : w.cell? ⟨R, 0, none⟩ = some u := by
  rw [cell_of_row w R _ _ _ (0, 0) h]; rfl
end Go.Proofs.YtiopgbbggeimaaaGreat

/-
  In of the program; a context's in; fits.
-/
namespace Go.Proofs.YtiopgbbggeimaaaGreat
open Go.ChangeShapes Go.WideShapes Go.ChangeAt Go.RowKit
theorem fieldsCl : Tryz.prog.underlying 95 = some (.struct (Tryz.prog.fieldsOf 95)) := by kernel_rfl
set_option maxHeartbeats 1000000 in
set_option maxRecDepth 100000 in
theorem eqCls (w : World) (x0 x1 y0 y1 : Int) : (binOp .eql 95 (.agg #[.int .i64 x0, .int .i64 x1]) (.agg #[.int .i64 y0, .int .i64 y1])).run Tryz.prog w = .ok (.bool (x0 == y0 && x1 == y1)) w := by
  rw [run_eql_struct, run_equalIn_agg w 9999 _ _ _ fieldsCl (by kernel_rfl)]
  have hf : (Tryz.prog.fieldsOf 95).toList = (match Tryz.prog.underlying 95 with | some (.struct fs) => fs | _ => #[]).toList := rfl
  rw [hf, Tryz.underlying95]
  simp only [Op.eqFields]
  by_cases h0 : x0 = y0
  · subst h0
    by_cases h1 : x1 = y1 <;> simp_all [go_sem, Tryz.underlying3]
  · simp_all [go_sem, Tryz.underlying3]
set_option maxHeartbeats 2000000 in
set_option maxRecDepth 100000 in
theorem pin_any (v : Value) (I : List PPh) (s : Int) (c : PCls) (w : World) (hv : RdVQ w v I) :
    Calls Tryz.prog 128 #[v, .int .i64 s, .agg #[.int .i64 c.mask, .int .i64 c.val]] w fun e w' => e = .returned (.bool (inB I s c)) ∧ Below w.heap.size w w' := by
  have HV := Lib.hid hv
  obtain ⟨u, rfl, hp⟩ := hv
  obtain ⟨A, n, cc, rfl, _, _, HN, HR⟩ := hp.op
  clear hp
  obtain ⟨b, hb⟩ : ∃ b, inB I s c = b := ⟨_, rfl⟩
  rw [hb]
  rw [inB] at hb
  have HIB := Lib.hid hb
  clear hb
  obtain ⟨m, x⟩ := c
  simp only at HIB ⊢
  go_enter Tryz.func128, Tryz.ntmps128
  go_upto_region 1 with (fail)
  generalize hW : World.alloc (World.alloc w _) _ = W
  have HBW : Hid (Below w.heap.size w W) := by rw [← hW]; exact bchain (al_below _ _) (al_below _ _)
  have HP : Hid (VBlk W w.heap.size (.slice A n cc)) := by rw [← hW]; exact VBlk.below (heap_alloc_new w _) (al_below _ _)
  have HC : Hid (CBlk W (w.heap.size + 1) ⟨m, x⟩) := by
    have h := heap_alloc_new (w.alloc (.cells #[.slice A n cc] 24)) (.cells #[.int .i64 m, .int .i64 x] 95)
    rw [World.size_alloc] at h
    rw [← hW]; exact h
  clear hW
  refine wp_region_mix 18 [0, 1, 2, 3, 4, 5, 6, 7, 8, 9, 10, 11, 12, 13, 14, 15, 16, 17] [] [(true, 0), (true, 1), (false, 2), (true, 3), (true, 4), (true, 5), (true, 6), (true, 7), (true, 8), (true, 9), (true, 10), (true, 11), (true, 12), (true, 13), (true, 14), (true, 15), (true, 16), (true, 17), (false, 18), (false, 19), (false, 20)] (fun w' => Below W.heap.size W w') (by kernel_rfl) (by kernel_rfl) ?_
  rintro D hD
  have HSD : Hid (Below W.heap.size W D) := by rw [hD]; exact (Below.refl _ _).drew
  clear hD
  refine ⟨HSD.out, ?_⟩
  by_cases h1 : isB I s = true
  · have h2 : 1 ≤ s ∧ s ≤ (n : Int) := by rw [isB, HN.out] at h1; simpa using h1
    obtain ⟨k, hk⟩ : ∃ k : Nat, s = (k : Int) + 1 := ⟨(s - 1).toNat, by omega⟩
    subst hk
    have hkn : k < n := by omega
    obtain ⟨bb, off, p, rfl, hbb, hdr, e0, e1⟩ := (HR.out k hkn).below HBW.out
    have HF : Hid (featB I ((k : Int) + 1) = p.feat) := by
      rw [Hid, featB, show ((k : Int) + 1 - 1).toNat = k by omega, List.getD_eq_getElem?_getD, show I[k]? = some p from by
        rw [← List.head?_drop, hdr.out]; rfl]
      rfl
    have HS : Hid (∀ w' : World, Below W.heap.size W w' → w'.cell? ⟨w.heap.size, 0, none⟩ = some (.slice (some ⟨bb, off, none⟩) n cc) ∧ (w'.cell? ⟨w.heap.size + 1, 0, none⟩ = some (.int .i64 m) ∧ w'.cell? ⟨w.heap.size + 1, 1, none⟩ = some (.int .i64 x)) ∧ w'.cell? ⟨bb, off + k * 2 + 1, none⟩ = some (.int .i64 p.feat)) := by
      intro w' h
      exact ⟨(HP.out.below h).cell, (HC.out.below h).facts, (h.cell hbb).trans e1⟩
    have HIC : Hid ((m == m && x == bits .and .i64 p.feat m) = b) := by
      have h := HIB.out
      rw [h1, HF.out, Bool.true_and] at h
      rw [Hid, ← h, beq_self_eq_true, Bool.true_and, Bool.eq_iff_iff, beq_iff_eq, beq_iff_eq]
      exact eq_comm
    have hwr : IntKind.i64.wrap ((k : Int) + 1 - 1) = (k : Int) := by rw [show (k : Int) + 1 - 1 = (k : Int) by omega]; exact IntWalk.i64_in _ (by omega)
    have hwr2 : IntKind.i64.wrap (k : Int) = (k : Int) := IntWalk.i64_in _ (by omega)
    have hk0 : (0 : Int) ≤ (k : Int) := by omega
    clear e0 e1 h2 HIB
    have HI1 := Lib.hid h1
    clear h1
    iterate 2 (refine wpMix_q (v := ?_) rfl rfl (fun w' hS => ?_) ?_; rotate_left; (focus ((try obtain ⟨s0, ⟨t0, t1⟩, u0⟩ := HS.out _ (hS rfl)); clear hS; go_simp; try with_reducible rfl; done)); (try simp only [Act.put, List.setIfInBounds_toArray, List.set_cons_zero, List.set_cons_succ]))
    refine wpMix_e rfl rfl (fun K hK => ?_)
    go_simp
    refine (seg_any _ I ((k : Int) + 1) _ (HV.out.below (bchain HBW.out HSD.out))).mono ?_
    rintro e Y1 ⟨rfl, hb⟩
    refine hK.out _ _ (fun _ => bchain HSD.out hb) ?_
    clear hK K
    (try simp only [Act.put, List.setIfInBounds_toArray, List.set_cons_zero, List.set_cons_succ])
    have HSY1 := Lib.hid (bchain HSD.out hb)
    clear hb
    rw [HI1.out]
    iterate 15 (refine wpMix_q (v := ?_) rfl rfl (fun w' hS => ?_) ?_; rotate_left; (focus ((try obtain ⟨s0, ⟨t0, t1⟩, u0⟩ := HS.out _ (hS rfl)); clear hS; go_simp; try with_reducible rfl; done)); (try simp only [Act.put, List.setIfInBounds_toArray, List.set_cons_zero, List.set_cons_succ]))
    have heq := fun W => eqCls W m x m (bits .and .i64 p.feat m)
    rw [HIC.out] at heq
    have hgd := fun (W : World) x y xs ys => run_eqGuard_agg (P := Tryz.prog) W .eql 95 x y xs ys (by kernel_rfl)
    iterate 3 (refine wpMix_e rfl rfl (fun K hK => ?_); go_simp; refine hK.out _ _ (fun h => absurd h (by decide)) ?_; clear hK K; (try simp only [Act.put, List.setIfInBounds_toArray, List.set_cons_zero, List.set_cons_succ]))
    clear heq hgd
    refine wpMix_nil ?_
    refine NoPanic.normal ?_
    go_wp2_with fail
    go_ret
    exact ⟨rfl, bchain HBW.out HSY1.out⟩
  · simp only [Bool.not_eq_true] at h1
    rw [h1, Bool.false_and] at HIB
    have HI1 := Lib.hid h1
    clear h1
    have HS : Hid (∀ w' : World, Below W.heap.size W w' → w'.cell? ⟨w.heap.size, 0, none⟩ = some (.slice A n cc)) := by
      intro w' h
      exact (HP.out.below h).cell
    iterate 2 (refine wpMix_q (v := ?_) rfl rfl (fun w' hS => ?_) ?_; rotate_left; (focus ((try obtain s0 := HS.out _ (hS rfl)); clear hS; go_simp; try with_reducible rfl; done)); (try simp only [Act.put, List.setIfInBounds_toArray, List.set_cons_zero, List.set_cons_succ]))
    refine wpMix_e rfl rfl (fun K hK => ?_)
    go_simp
    refine (seg_any _ I s _ (HV.out.below (bchain HBW.out HSD.out))).mono ?_
    rintro e Y1 ⟨rfl, hb⟩
    refine hK.out _ _ (fun _ => bchain HSD.out hb) ?_
    clear hK K
    (try simp only [Act.put, List.setIfInBounds_toArray, List.set_cons_zero, List.set_cons_succ])
    have HSY1 := Lib.hid (bchain HSD.out hb)
    clear hb
    rw [HI1.out]
    have hib := HIB.out
    subst hib
    iterate 1 (refine wpMix_q (v := ?_) rfl rfl (fun w' hS => ?_) ?_; rotate_left; (focus ((try obtain s0 := HS.out _ (hS rfl)); clear hS; go_simp; try with_reducible rfl; done)); (try simp only [Act.put, List.setIfInBounds_toArray, List.set_cons_zero, List.set_cons_succ]))
    iterate 14 (refine wpMix_qskip rfl rfl ?_; (try simp only [Act.put, List.setIfInBounds_toArray, List.set_cons_zero, List.set_cons_succ]))
    iterate 1 (refine wpMix_eskip rfl rfl (HSY1).out ?_; (try simp only [Act.put, List.setIfInBounds_toArray, List.set_cons_zero, List.set_cons_succ]))
    iterate 2 (refine wpMix_e rfl rfl (fun K hK => ?_); go_simp; refine hK.out _ _ (fun h => absurd h (by decide)) ?_; clear hK K; (try simp only [Act.put, List.setIfInBounds_toArray, List.set_cons_zero, List.set_cons_succ]))
    refine wpMix_nil ?_
    refine NoPanic.normal ?_
    go_wp2_with fail
    go_ret
    exact ⟨rfl, bchain HBW.out HSY1.out⟩
/-- the call of a context's in -/
def XBlk (w : World) (R : Nat) (u l : Value) : Prop := w.heap[R]? = some (.cells #[u, l] 178 (0, 0))
theorem XBlk.lt {w : World} {R : Nat} {u l : Value} (h : XBlk w R u l) : R < w.heap.size := (Array.getElem?_eq_some_iff.1 h).1
theorem XBlk.below {w w' : World} {R : Nat} {u l : Value} (h : XBlk w R u l) (hb : Below w.heap.size w w') : XBlk w' R u l := (hb.block R h.lt).trans h
theorem XBlk.cells {w : World} {R : Nat} {u l : Value} (h : XBlk w R u l) : w.cell? ⟨R, 0, none⟩ = some u ∧ w.cell? ⟨R, 1, none⟩ = some l := by
  refine ⟨?_, ?_⟩ <;> rw [cell_of_row w R _ _ _ (0, 0) h] <;> rfl
set_option maxHeartbeats 2000000 in
set_option maxRecDepth 100000 in
theorem cin_any (u vl : Value) (I : List PPh) (l : List PCls) (k : Nat) (s : Int) (c : PCls) (w : World) (hv : RdPh w u I) (hl : RdC w vl l) (hk : l[k]? = some c) :
    Calls Tryz.prog 109 #[.agg #[u, vl], .int .i64 (k : Int), .int .i64 s] w fun e w' => e = .returned (.bool (inB I s c)) ∧ Below w.heap.size w w' := by
  obtain ⟨A, n, cc, rfl, _, _, HN, HR⟩ := hl.op
  obtain ⟨A', n', cc', rfl, _, _, _, _⟩ := hv.op
  have HV : Hid (RdVQ w (.agg #[.slice A' n' cc']) I) := ⟨_, rfl, hv⟩
  clear hv hl
  have hkn : k < n := by have := (List.getElem?_eq_some_iff.1 hk).1; rw [HN.out] at this; exact this
  obtain ⟨bb, off, c', rfl, hbb, hdr, e0, e1⟩ := HR.out k hkn
  have hc : c' = c := by
    have h : l[k]? = some c' := by rw [← List.head?_drop, hdr.out]; rfl
    rw [hk] at h; exact (Option.some.inj h).symm
  subst hc
  have HE : Hid (w.cell? ⟨bb, off + k * 2, none⟩ = some (.int .i64 c'.mask) ∧ w.cell? ⟨bb, off + k * 2 + 1, none⟩ = some (.int .i64 c'.val)) := ⟨e0, e1⟩
  clear e0 e1 hk
  have hk0 : (0 : Int) ≤ (k : Int) := by omega
  go_enter Tryz.func109, Tryz.ntmps109
  go_upto_region 1 with (fail)
  generalize hW : World.alloc w _ = W
  have HBW : Hid (Below w.heap.size w W) := by rw [← hW]; exact al_below _ _
  have HP : Hid (XBlk W w.heap.size (.slice A' n' cc') (.slice (some ⟨bb, off, none⟩) n cc)) := by rw [← hW]; exact heap_alloc_new w _
  clear hW
  refine wp_region_ord 8 [0, 1, 2, 3, 4, 5, 6, 7] [] [0, 1, 2, 3, 4, 5, 6, 7] [8, 9] (fun w' => Below W.heap.size W w') (by kernel_rfl) (by kernel_rfl) ?_
  rintro Z hZ
  have HBZ : Hid (Below W.heap.size W Z) := by rw [hZ]; exact (Below.refl _ _).drew
  clear hZ
  refine ⟨HBZ.out, ?_⟩
  have HS : Hid (∀ w' : World, Below W.heap.size W w' → (w'.cell? ⟨w.heap.size, 0, none⟩ = some (.slice A' n' cc') ∧ w'.cell? ⟨w.heap.size, 1, none⟩ = some (.slice (some ⟨bb, off, none⟩) n cc)) ∧ w'.cell? ⟨bb, off + k * 2, none⟩ = some (.int .i64 c'.mask) ∧ w'.cell? ⟨bb, off + k * 2 + 1, none⟩ = some (.int .i64 c'.val)) := by
    intro w' h
    have hb := (bchain HBW.out h).cell (p := ⟨bb, off + k * 2, none⟩) hbb
    have hb1 := (bchain HBW.out h).cell (p := ⟨bb, off + k * 2 + 1, none⟩) hbb
    exact ⟨(HP.out.below h).cells, hb.trans HE.out.1, hb1.trans HE.out.2⟩
  iterate 8 (refine wpHead_cons (v := ?_) rfl rfl (fun w' hS => ?_) ?_; rotate_left; (focus ((try obtain ⟨⟨s0, s1⟩, u0, u1⟩ := HS.out _ (hS rfl)); clear hS; go_simp; try with_reducible rfl; done)); (try simp only [Act.put, List.setIfInBounds_toArray, List.set_cons_zero, List.set_cons_succ]))
  refine wpHead_nil ?_
  refine wpTail_cons rfl rfl (fun K hK => ?_)
  go_simp
  refine (pin_any _ I s c' _ (HV.out.below (bchain HBW.out HBZ.out))).mono ?_
  rintro e w9 ⟨rfl, hb⟩
  refine hK.out _ _ (fun h => absurd h (by decide)) ?_
  clear hK K
  (try simp only [Act.put, List.setIfInBounds_toArray, List.set_cons_zero, List.set_cons_succ])
  have HB9 := Lib.hid (bchain (bchain HBW.out HBZ.out) hb)
  clear hb HS
  refine wpTail_rest 9 rfl ?_
  simp only [List.drop_succ_cons, List.drop_zero]
  go_wp2_with fail
  refine NoPanic.normal ?_
  go_wp2_with fail
  go_ret
  exact ⟨rfl, HB9.out⟩
end Go.Proofs.YtiopgbbggeimaaaGreat

/-
  fits: whether segments are in the classes of a context.
-/
namespace Go.Proofs.YtiopgbbggeimaaaGreat
open Go.ChangeShapes Go.WideShapes Go.ChangeAt Go.RowKit
def fitsB (I : List PPh) : List PCls → List Int → Bool
  | c :: l, x :: s => inB I x c && fitsB I l s
  | _, _ => true
set_option maxHeartbeats 2000000 in
set_option maxRecDepth 100000 in
theorem fits_any (u vl vs : Value) (I : List PPh) (l : List PCls) (s : List Int) (w : World) (hv : RdPh w u I) (hl : RdC w vl l) (hs : RdI w vs s) (hle : s.length ≤ l.length) :
    Calls Tryz.prog 108 #[.func (.func 109) #[] #[], .agg #[u, vl], vs] w fun e w' => e = .returned (.bool (fitsB I l s)) ∧ Below w.heap.size w w' := by
  have HV := Lib.hid hv
  have HL := Lib.hid hl
  obtain ⟨A1, n1, c1, rfl, _, _, HN1, _⟩ := hl.op
  obtain ⟨A2, n2, c2, rfl, _, _, _, _⟩ := hv.op
  obtain ⟨A, n, c, rfl, _, _, HN, HR⟩ := hs.op
  have HLE : Hid (n ≤ l.length) := by rw [Hid, ← HN.out]; exact hle
  clear hv hl hs hle
  go_enter Tryz.func108, Tryz.ntmps108
  go_wp2_with fail
  generalize hW : World.alloc w _ = W
  have HBW : Hid (Below w.heap.size w W) := by rw [← hW]; exact al_below _ _
  have HP : Hid (XBlk W w.heap.size (.slice A2 n2 c2) (.slice A1 n1 c1)) := by rw [← hW]; exact heap_alloc_new w _
  clear hW
  go_loopw [11] (fun i wr => ∃ k : Nat, k ≤ n ∧ i = .int .i64 k ∧ Hid (fitsB I l s = fitsB I (l.drop k) (s.drop k)) ∧ Hid (Below W.heap.size W wr)) (fun i _ => n - (intOf i).toNat)
  case atStart => exact ⟨0, Nat.zero_le _, rfl, rfl, Below.refl _ _⟩
  case round =>
    obtain ⟨k, hk, rfl, HF, HW⟩ := hrel
    by_cases hlt : k < n
    · obtain ⟨b, off, x, rfl, hb, hd, hc0⟩ := (HR.out k hlt).below (bchain HBW.out HW.out)
      have hkl : k < l.length := Nat.lt_of_lt_of_le hlt HLE.out
      have HC : Hid (l[k]? = some l[k]) := List.getElem?_eq_getElem hkl
      have HF2 : Hid (fitsB I l s = (inB I x l[k] && fitsB I (l.drop (k + 1)) (s.drop (k + 1)))) := by
        rw [Hid, HF.out, hd.out, List.drop_eq_getElem_cons hkl]; rfl
      have hk0 : (0 : Int) ≤ (k : Int) := by omega
      generalize l[k] = cl at HC HF2
      obtain ⟨z0, z1⟩ := (HP.out.below HW.out).cells
      have hgl := (HP.out.below HW.out).lt
      clear HF hd hkl
      go_wp2_with fail
      refine (cin_any _ _ I l k x cl _ (HV.out.below (bchain HBW.out HW.out)) (HL.out.below (bchain HBW.out HW.out)) HC.out).mono ?_
      rintro e w1 ⟨rfl, hb1⟩
      have HW1 := Lib.hid (bchain HW.out hb1)
      clear hb1 z0 z1 hgl hc0
      cases hin : inB I x cl
      · have HF3 : Hid (fitsB I l s = false) := by rw [Hid, HF2.out, hin]; rfl
        clear hin
        go_wp2_with fail
        go_ret
        exact ⟨by rw [HF3.out]; rfl, bchain HBW.out HW1.out⟩
      · have HF3 : Hid (fitsB I l s = fitsB I (l.drop (k + 1)) (s.drop (k + 1))) := by rw [Hid, HF2.out, hin]; rfl
        clear hin
        go_wp2_with fail
        go_roundw
        case rel => exact ⟨k + 1, by omega, by go_num, HF3.out, HW1.out⟩
        case measure => simp [intOf]; omega
    · have HF3 : Hid (fitsB I l s = true) := by
        rw [Hid, HF.out, List.drop_of_length_le (l := s) (by rw [HN.out]; omega)]
        cases l.drop k <;> rfl
      go_wp2_with fail
      go_ret
      exact ⟨by rw [HF3.out]; rfl, bchain HBW.out HW.out⟩
end Go.Proofs.YtiopgbbggeimaaaGreat

/-
  slices.Index, slices.Contains at ints; Has of both sides.
-/
namespace Go.Proofs.YtiopgbbggeimaaaGreat
open Go.ChangeShapes Go.WideShapes Go.ChangeAt Go.RowKit
/-- a list of ints: it has no elements, or its cells lie in one block -/
theorem RdI.split {w : World} {v : Value} {l : List Int} (h : RdI w v l) : (∃ A c, v = .slice A 0 c ∧ l = []) ∨
    ∃ b off c, v = .slice (some ⟨b, off, none⟩) l.length c ∧ l.length ≤ 9223372036854775807 ∧ ∀ j, j < l.length → w.cell? ⟨b, off + j, none⟩ = some (.int .i64 (l.getD j 0)) := by
  obtain ⟨A, c, rfl, hmc, hc, hlen, hcell⟩ := h
  rcases Nat.eq_zero_or_pos l.length with h0 | h0
  · have hn : l = [] := List.eq_nil_of_length_eq_zero h0
    subst hn
    exact .inl ⟨A, c, rfl, rfl⟩
  · obtain ⟨b, off, rfl, _, hcc⟩ := hcell h0
    exact .inr ⟨b, off, c, rfl, by omega, fun j hj => hcc j _ (by simp [List.getElem?_eq_getElem hj, List.getD])⟩
def hasBQ (l : List Int) (x : Int) : Bool := l.contains x
theorem hasB_cons (y : Int) (l : List Int) (x : Int) : hasBQ (y :: l) x = (x == y || hasBQ l x) := by rw [hasBQ, List.contains_cons]; rfl
theorem index_any (v : Value) (l : List Int) (x : Int) (w : World) (hv : RdI w v l) :
    Calls Tryz.prog 86 #[v, .int .i64 x] w fun e w' => e = .returned (.int .i64 (Lib.idxOf l x)) ∧ w' = w := by
  rcases hv.split with ⟨A, c, rfl, rfl⟩ | ⟨b, off, c, rfl, h1, h2⟩
  · exact slices_Index_int_empty A c x w
  · have h := slices_Index_int b off l.length c l x w (Nat.le_refl _) h1 h2
    rw [List.take_of_length_le (Nat.le_refl _)] at h
    exact h
theorem contains_any (v : Value) (l : List Int) (x : Int) (w : World) (hv : RdI w v l) :
    Calls Tryz.prog 127 #[v, .int .i64 x] w fun e w' => e = .returned (.bool (hasBQ l x)) ∧ w' = w := by
  rcases hv.split with ⟨A, c, rfl, rfl⟩ | ⟨b, off, c, rfl, h1, h2⟩
  · exact slices_Contains_int_empty A c x w
  · have h := slices_Contains_int b off l.length c l x w (Nat.le_refl _) h1 h2
    rw [List.take_of_length_le (Nat.le_refl _)] at h
    exact h
theorem has_anyQ (v : Value) (l : List Int) (x : Int) (w : World) (hv : RdI w v l) :
    Calls Tryz.prog 107 #[v, .int .i64 x] w fun e w' => e = .returned (.bool (hasBQ l x)) ∧ w' = w := by
  have HV := Lib.hid hv
  obtain ⟨A, n, c, rfl, _, _, _, _⟩ := hv.op
  clear hv
  have HC : Hid (∃ b, hasBQ l x = b) := ⟨_, rfl⟩
  obtain ⟨b, hb⟩ := HC.out
  have HB := Lib.hid hb
  rw [hb]
  clear HC hb
  go_enter Tryz.func107, Tryz.ntmps107
  go_wp2_with fail
  refine (contains_any _ l x _ HV.out).mono ?_
  rintro e w1 ⟨rfl, rfl⟩
  rw [HB.out]
  go_wp2_with fail
  go_ret
  exact ⟨rfl, rfl⟩
end Go.Proofs.YtiopgbbggeimaaaGreat

/-
  site of the program.
-/
namespace Go.Proofs.YtiopgbbggeimaaaGreat
open Go.ChangeShapes Go.WideShapes Go.ChangeAt Go.RowKit
def siteB (I : List PPh) (R : PRule) (l : List Int) (i : Nat) : Bool :=
  hasBQ R.fr (l.getD i 0) && (decide (R.lft.length ≤ i) && (decide (i + 1 + R.rgt.length ≤ l.length) && ((!R.beg || decide (i ≤ R.lft.length)) && ((!R.fin || decide (l.length ≤ i + 1 + R.rgt.length)) && (fitsB I R.lft (l.drop (i - R.lft.length)) && fitsB I R.rgt (l.drop (i + 1)))))))
def RBlk (w : World) (B : Nat) (a b c d : Value) (x y : Bool) : Prop := w.heap[B]? = some (.cells #[a, b, c, d, .bool x, .bool y] 61 (0, 0))
theorem RBlk.lt {w : World} {B : Nat} {a b c d : Value} {x y : Bool} (h : RBlk w B a b c d x y) : B < w.heap.size := (Array.getElem?_eq_some_iff.1 h).1
theorem RBlk.below {w w' : World} {B : Nat} {a b c d : Value} {x y : Bool} (h : RBlk w B a b c d x y) (hb : Below w.heap.size w w') : RBlk w' B a b c d x y := (hb.block B h.lt).trans h
theorem RBlk.cells {w : World} {B : Nat} {a b c d : Value} {x y : Bool} (h : RBlk w B a b c d x y) : w.cell? ⟨B, 0, none⟩ = some a ∧ w.cell? ⟨B, 1, none⟩ = some b ∧ w.cell? ⟨B, 2, none⟩ = some c ∧ w.cell? ⟨B, 3, none⟩ = some d ∧ w.cell? ⟨B, 4, none⟩ = some (.bool x) ∧ w.cell? ⟨B, 5, none⟩ = some (.bool y) := by
  refine ⟨?_, ?_, ?_, ?_, ?_, ?_⟩ <;> rw [cell_of_row w B _ _ _ (0, 0) h] <;> rfl
theorem RdI.cut {w : World} {A : Option Addr} {n c : Nat} {xs : List Int} (h : RdI w (.slice A n c) xs) {lo hi : Nat} (h1 : lo ≤ hi) (h2 : hi ≤ n) : RdI w (.slice (if c = lo then A else A.map (·.add lo)) (hi - lo) (c - lo)) ((xs.drop lo).take (hi - lo)) := by
  obtain ⟨A', c', he, h3, h4, h5, h6⟩ := h
  cases he
  have hl : ((xs.drop lo).take (hi - lo)).length = hi - lo := by simp; omega
  refine ⟨_, c - lo, by rw [hl], by rw [hl]; omega, by omega, by simp, fun hn => ?_⟩
  rw [hl] at hn
  obtain ⟨b, off, rfl, hb, hc⟩ := h6 (by omega)
  rw [if_neg (by omega)]
  refine ⟨b, off + lo, by simp [add_none], hb, fun j u hu => ?_⟩
  simp only [List.getElem?_map, Option.map_eq_some_iff] at hu
  obtain ⟨y, hy, rfl⟩ := hu
  rw [List.getElem?_take] at hy
  split at hy
  · rw [List.getElem?_drop] at hy
    have := hc (lo + j) (.int .i64 y) (by simp [hy])
    rwa [show off + lo + j = off + (lo + j) by omega]
  · cases hy
theorem slice_two (A : Option Addr) (n c lo hi : Nat) (h1 : lo ≤ hi) (h2 : hi ≤ c) (W : World) : (Instr.slice 31 (.slice A n c) (some (.int .i64 (lo : Int))) (some (.int .i64 (hi : Int))) none).run Tryz.prog W = .ok (.slice (if c = lo then A else A.map (·.add lo)) (hi - lo) (c - lo)) W := by
  obtain ⟨i0, hi0, hz0, hz1, hz2⟩ := info_parts infoI0
  have he : Tryz.prog.elem 31 = 3 := by kernel_rfl
  have hs : (Go.sizeOf (Tryz.prog.elem 31)).run Tryz.prog W = .ok 1 W := by rw [he]; simp [Go.sizeOf, typeInfo, hi0, hz1]
  rw [run_slice_lh W _ _ _ _ (by kernel_rfl) .i64 .i64 _ _ (by omega) (by omega) (by omega), hs]
  simp [Result.andThen, sliced]
theorem slice_at_two (A : Option Addr) (n c lo hi : Nat) (h1 : lo ≤ hi) (h2 : hi ≤ c) (W : World) : (Instr.sliceAt 31 (.slice A n c) (some (.int .i64 (lo : Int))) (some (.int .i64 (hi : Int))) none).run Tryz.prog W = .ok (.slice (if c = lo then A else A.map (·.add lo)) (hi - lo) (c - lo)) W := by
  rw [run_sliceAt_slice W _ _ _ _ _ (by kernel_rfl), slice_two A n c lo hi h1 h2]
/-- a part of a list: its value, how it comes to be, and what it reads as -/
theorem cut_of {w : World} {A : Option Addr} {n c : Nat} {xs : List Int} (h : RdI w (.slice A n c) xs) (lo hi : Nat) (h1 : lo ≤ hi) (h2 : hi ≤ n) (h3 : n ≤ c) : ∃ (B : Option Addr) (m k : Nat), RdI w (.slice B m k) ((xs.drop lo).take (hi - lo)) ∧
    (∀ W, (Instr.slice 31 (.slice A n c) (some (.int .i64 (lo : Int))) (some (.int .i64 (hi : Int))) none).run Tryz.prog W = .ok (.slice B m k) W) ∧
    (∀ W, (Instr.sliceAt 31 (.slice A n c) (some (.int .i64 (lo : Int))) (some (.int .i64 (hi : Int))) none).run Tryz.prog W = .ok (.slice B m k) W) :=
  ⟨_, _, _, h.cut h1 h2, fun W => slice_two A n c lo hi h1 (by omega) W, fun W => slice_at_two A n c lo hi h1 (by omega) W⟩
theorem fitsB_take (I : List PPh) : ∀ (l : List PCls) (s : List Int) (k : Nat), l.length ≤ k → fitsB I l (s.take k) = fitsB I l s
  | [], _, _, _ => by cases ‹List Int› <;> simp [fitsB]
  | c :: l, [], k, _ => by simp
  | c :: l, x :: s, 0, h => by simp at h
  | c :: l, x :: s, k + 1, h => by
    simp only [List.take_succ_cons, fitsB]
    rw [fitsB_take I l s k (by simpa using h)]
set_option maxHeartbeats 4000000 in
set_option maxRecDepth 100000 in
theorem psite_any (v vr vw : Value) (I : List PPh) (R : PRule) (l : List Int) (i : Nat) (w : World) (hv : RdVQ w v I) (hr : RdR w vr R) (hw : RdI w vw l) (hi : i < l.length) (h1 : R.lft.length ≤ 1000000) (h2 : R.rgt.length ≤ 1000000) (h3 : l.length ≤ 1000000) :
    Calls Tryz.prog 85 #[v, vr, vw, .int .i64 (i : Int)] w fun e w' => e = .returned (.bool (siteB I R l i)) ∧ Below w.heap.size w w' := by
  obtain ⟨u, rfl, hp⟩ := hv
  obtain ⟨A0, n0, c0, rfl, _, _, _, _⟩ := hp.op
  have HV := Lib.hid hp
  obtain ⟨vf, vt, vl, vg, rfl, hf, ht, hl, hg⟩ := hr
  obtain ⟨A1, n1, c1, rfl, _, _, _, _⟩ := hf.op
  obtain ⟨A2, n2, c2, rfl, _, _, _, _⟩ := ht.op
  obtain ⟨A3, n3, c3, rfl, _, _, HN3, _⟩ := hl.op
  obtain ⟨A4, n4, c4, rfl, _, _, HN4, _⟩ := hg.op
  obtain ⟨A, n, c, rfl, hnc, _, HN, HR⟩ := hw.op
  have HF := Lib.hid hf
  have HL := Lib.hid hl
  have HG := Lib.hid hg
  have HW := Lib.hid hw
  rw [HN3.out] at h1
  rw [HN4.out] at h2
  rw [HN.out] at h3 hi
  clear hp hf ht hl hg hw
  obtain ⟨beg, hbeg⟩ : ∃ x, R.beg = x := ⟨_, rfl⟩
  obtain ⟨fin, hfin⟩ : ∃ x, R.fin = x := ⟨_, rfl⟩
  obtain ⟨x, hx⟩ : ∃ x, l.getD i 0 = x := ⟨_, rfl⟩
  obtain ⟨hb, hhb⟩ : ∃ h, hasBQ R.fr x = h := ⟨_, rfl⟩
  obtain ⟨sb, hsb⟩ : ∃ s, siteB I R l i = s := ⟨_, rfl⟩
  rw [hsb, hbeg, hfin]
  rw [siteB, hx, hhb, hbeg, hfin, HN3.out, HN4.out, HN.out] at hsb
  have HSB := Lib.hid hsb
  have HHB := Lib.hid hhb
  have HXX := Lib.hid hx
  clear hsb hbeg hfin hx hhb
  obtain ⟨b, off, y, rfl, hbb, hdr, hc0⟩ := HR.out i hi
  have hxy : y = x := by
    rw [← HXX.out, List.getD_eq_getElem?_getD, show l[i]? = some y from by rw [← List.head?_drop, hdr.out]; rfl]; rfl
  subst hxy
  have hi0 : (0 : Int) ≤ (i : Int) := by omega
  have HC0 := Lib.hid hc0
  clear hc0
  go_enter Tryz.func85, Tryz.ntmps85
  go_upto_region 1 with (fail)
  generalize hW : World.alloc (World.alloc w _) _ = W
  have HBW : Hid (Below w.heap.size w W) := by rw [← hW]; exact bchain (al_below _ _) (al_below _ _)
  have HP : Hid (VBlk W w.heap.size (.slice A0 n0 c0)) := by rw [← hW]; exact VBlk.below (heap_alloc_new w _) (al_below _ _)
  have HQ : Hid (RBlk W (w.heap.size + 1) (.slice A1 n1 c1) (.slice A2 n2 c2) (.slice A3 n3 c3) (.slice A4 n4 c4) beg fin) := by
    have h := heap_alloc_new (w.alloc (.cells #[.slice A0 n0 c0] 24)) (.cells #[.slice A1 n1 c1, .slice A2 n2 c2, .slice A3 n3 c3, .slice A4 n4 c4, .bool beg, .bool fin] 61)
    rw [World.size_alloc] at h
    rw [← hW]; exact h
  clear hW
  have HS : Hid (∀ w' : World, Below W.heap.size W w' → w'.cell? ⟨w.heap.size, 0, none⟩ = some (.slice A0 n0 c0) ∧ (w'.cell? ⟨w.heap.size + 1, 0, none⟩ = some (.slice A1 n1 c1) ∧ w'.cell? ⟨w.heap.size + 1, 1, none⟩ = some (.slice A2 n2 c2) ∧ w'.cell? ⟨w.heap.size + 1, 2, none⟩ = some (.slice A3 n3 c3) ∧ w'.cell? ⟨w.heap.size + 1, 3, none⟩ = some (.slice A4 n4 c4) ∧ w'.cell? ⟨w.heap.size + 1, 4, none⟩ = some (.bool beg) ∧ w'.cell? ⟨w.heap.size + 1, 5, none⟩ = some (.bool fin)) ∧ w'.cell? ⟨b, off + i, none⟩ = some (.int .i64 y)) := by
    intro w' h
    have hb := (bchain HBW.out h).cell (p := ⟨b, off + i, none⟩) hbb
    exact ⟨(HP.out.below h).cell, (HQ.out.below h).cells, hb.trans HC0.out⟩
  refine wp_region_ord 12 [0, 1, 2, 3, 4, 5, 6, 7, 8, 9, 10, 11] [] [0, 1, 2, 3, 4, 5, 6, 7, 8, 9, 10, 11] [12] (fun w' => Below W.heap.size W w') (by kernel_rfl) (by kernel_rfl) ?_
  rintro Z hZ
  have HBZ : Hid (Below W.heap.size W Z) := by rw [hZ]; exact (Below.refl _ _).drew
  clear hZ
  refine ⟨HBZ.out, ?_⟩
  iterate 12 (refine wpHead_cons (v := ?_) rfl rfl (fun w' hS => ?_) ?_; rotate_left; (focus ((try obtain ⟨s0, ⟨t0, t1, t2, t3, t4, t5⟩, u0⟩ := HS.out _ (hS rfl)); clear hS; go_simp; try with_reducible rfl; done)); (try simp only [Act.put, List.setIfInBounds_toArray, List.set_cons_zero, List.set_cons_succ]))
  refine wpHead_nil ?_
  refine wpTail_rest 12 rfl ?_
  simp only [List.drop_succ_cons, List.drop_zero]
  go_wp2_with fail
  refine NoPanic.normal ?_
  clear HS
  obtain ⟨z, hz⟩ : ∃ z : Int, (i : Int) - (n3 : Int) = z := ⟨_, rfl⟩
  obtain ⟨t, htn⟩ : ∃ t : Nat, i + 1 + n4 = t := ⟨_, rfl⟩
  have hw1 : IntKind.i64.wrap ((i : Int) - (n3 : Int)) = z := by rw [hz]; exact IntWalk.i64_in _ (by omega)
  have hw2 : IntKind.i64.wrap ((i : Int) + 1) = (i : Int) + 1 := IntWalk.i64_in _ (by omega)
  have hw3 : IntKind.i64.wrap ((i : Int) + 1 + (n4 : Int)) = (t : Int) := by rw [show (i : Int) + 1 + (n4 : Int) = (t : Int) by omega]; exact IntWalk.i64_in _ (by omega)
  rw [hw1, hw2, hw3]
  clear hw1 hw2 hw3
  have HZ := Lib.hid hz
  have HT := Lib.hid htn
  rw [htn] at HSB
  clear hz htn
  have HBX : Hid (Below w.heap.size w Z) := bchain HBW.out HBZ.out
  have HS : Hid (∀ w' : World, Below Z.heap.size Z w' → w'.cell? ⟨w.heap.size, 0, none⟩ = some (.slice A0 n0 c0) ∧ (w'.cell? ⟨w.heap.size + 1, 0, none⟩ = some (.slice A1 n1 c1) ∧ w'.cell? ⟨w.heap.size + 1, 1, none⟩ = some (.slice A2 n2 c2) ∧ w'.cell? ⟨w.heap.size + 1, 2, none⟩ = some (.slice A3 n3 c3) ∧ w'.cell? ⟨w.heap.size + 1, 3, none⟩ = some (.slice A4 n4 c4) ∧ w'.cell? ⟨w.heap.size + 1, 4, none⟩ = some (.bool beg) ∧ w'.cell? ⟨w.heap.size + 1, 5, none⟩ = some (.bool fin)) ∧ w'.cell? ⟨b, off + i, none⟩ = some (.int .i64 y)) := by
    intro w' h
    have hb := (bchain HBX.out h).cell (p := ⟨b, off + i, none⟩) hbb
    exact ⟨(HP.out.below (bchain HBZ.out h)).cell, (HQ.out.below (bchain HBZ.out h)).cells, hb.trans HC0.out⟩
  go_upto_region 2 with (fail)
  refine wp_region_mix 31 [0, 1, 2, 3, 4, 5, 6, 7, 8, 9, 10, 11, 12, 13, 14, 15, 16, 17, 18, 19, 20, 21, 22, 23, 24, 25, 26, 27, 28, 29] [30] [(true, 0), (true, 1), (true, 2), (true, 3), (true, 4), (true, 5), (false, 6), (true, 7), (true, 8), (true, 9), (true, 10), (true, 11), (true, 12), (true, 13), (true, 14), (true, 15), (true, 16), (true, 17), (true, 18), (true, 19), (true, 20), (true, 21), (true, 22), (true, 23), (true, 24), (true, 25), (true, 26), (true, 27), (true, 28), (true, 29), (true, 30), (false, 31), (false, 32), (false, 33), (false, 34), (false, 35)] (fun w' => Below Z.heap.size Z w') (by kernel_rfl) (by kernel_rfl) ?_
  rintro D hD
  have HSD : Hid (Below Z.heap.size Z D) := by rw [hD]; exact (Below.refl _ _).drew
  clear hD
  refine ⟨HSD.out, ?_⟩
  iterate 6 (refine wpMix_q (v := ?_) rfl rfl (fun w' hS => ?_) ?_; rotate_left; (focus ((try obtain ⟨s0, ⟨t0, t1, t2, t3, t4, t5⟩, u0⟩ := HS.out _ (hS rfl)); clear hS; go_simp; try with_reducible rfl; done)); (try simp only [Act.put, List.setIfInBounds_toArray, List.set_cons_zero, List.set_cons_succ]))
  refine wpMix_e rfl rfl (fun K hK => ?_)
  go_simp
  refine (has_anyQ _ R.fr y _ (HF.out.below (bchain HBX.out HSD.out))).mono ?_
  rintro e w1 ⟨rfl, rfl⟩
  rw [HHB.out]
  refine hK.out _ _ (fun _ => HSD.out) ?_
  clear hK K
  (try dsimp only); (try simp only [Act.put]); (try simp only [List.setIfInBounds_toArray, List.set_cons_zero, List.set_cons_succ])
  cases hb
  · rw [Bool.false_and] at HSB
    have hsb := HSB.out
    subst hsb
    iterate 29 (first | (refine wpMix_q (v := ?_) rfl rfl (fun w' hS => ?_) ?_; rotate_left; (focus ((try obtain ⟨s0, ⟨t0, t1, t2, t3, t4, t5⟩, u0⟩ := HS.out _ (hS rfl)); clear hS; go_simp; try with_reducible rfl; done)); (try simp only [Act.put, List.setIfInBounds_toArray, List.set_cons_zero, List.set_cons_succ])) | (refine wpMix_qskip rfl rfl ?_; (try simp only [Act.put, List.setIfInBounds_toArray, List.set_cons_zero, List.set_cons_succ])) | (refine wpMix_eskip rfl rfl ( HSD).out ?_; (try simp only [Act.put, List.setIfInBounds_toArray, List.set_cons_zero, List.set_cons_succ])) | (refine wpMix_e rfl rfl (fun K hK => ?_); go_simp; refine hK.out _ _ (fun h => absurd h (by decide)) ?_; clear hK K; (try simp only [Act.put, List.setIfInBounds_toArray, List.set_cons_zero, List.set_cons_succ])))
    refine wpMix_nil ?_
    refine NoPanic.normal ?_
    go_wp2_with fail
    go_ret
    exact ⟨rfl, bchain HBX.out HSD.out⟩
  · rw [Bool.true_and] at HSB
    have HZ2 : Hid (decide (n3 ≤ i) = !decide (z < 0)) := by
      have := HZ.out
      rw [Hid]
      by_cases h : n3 ≤ i
      · rw [decide_eq_true h, decide_eq_false (by omega)]; rfl
      · rw [decide_eq_false h, decide_eq_true (by omega)]; rfl
    by_cases hz0 : z < 0
    · have d1 : decide (z < 0) = true := by simpa using hz0
      rw [HZ2.out, d1, Bool.not_true, Bool.false_and] at HSB
      have hsb := HSB.out
      subst hsb
      clear hz0
      iterate 29 (first | (refine wpMix_q (v := ?_) rfl rfl (fun w' hS => ?_) ?_; rotate_left; (focus ((try obtain ⟨s0, ⟨t0, t1, t2, t3, t4, t5⟩, u0⟩ := HS.out _ (hS rfl)); clear hS; go_simp; try with_reducible rfl; done)); (try simp only [Act.put, List.setIfInBounds_toArray, List.set_cons_zero, List.set_cons_succ])) | (refine wpMix_qskip rfl rfl ?_; (try simp only [Act.put, List.setIfInBounds_toArray, List.set_cons_zero, List.set_cons_succ])) | (refine wpMix_eskip rfl rfl ( HSD).out ?_; (try simp only [Act.put, List.setIfInBounds_toArray, List.set_cons_zero, List.set_cons_succ])) | (refine wpMix_e rfl rfl (fun K hK => ?_); go_simp; refine hK.out _ _ (fun h => absurd h (by decide)) ?_; clear hK K; (try simp only [Act.put, List.setIfInBounds_toArray, List.set_cons_zero, List.set_cons_succ])))
      refine wpMix_nil ?_
      refine NoPanic.normal ?_
      go_wp2_with fail
      go_ret
      exact ⟨rfl, bchain HBX.out HSD.out⟩
    · have d1 : decide (z < 0) = false := by simpa using hz0
      rw [HZ2.out, d1, Bool.not_false, Bool.true_and] at HSB
      by_cases htn : t ≤ n
      · have d2 : decide ((n : Int) < (t : Int)) = false := by simp; omega
        have d3 : decide (n < t) = false := by simp; omega
        rw [decide_eq_true htn, Bool.true_and] at HSB
        have HNT := Lib.hid htn
        have HZN := Lib.hid hz0
        clear htn hz0
        cases beg
        · rw [Bool.not_false, Bool.true_or, Bool.true_and] at HSB
          cases fin
          · rw [Bool.not_false, Bool.true_or, Bool.true_and] at HSB
            iterate 29 (first | (refine wpMix_q (v := ?_) rfl rfl (fun w' hS => ?_) ?_; rotate_left; (focus ((try obtain ⟨s0, ⟨t0, t1, t2, t3, t4, t5⟩, u0⟩ := HS.out _ (hS rfl)); clear hS; go_simp; try with_reducible rfl; done)); (try simp only [Act.put, List.setIfInBounds_toArray, List.set_cons_zero, List.set_cons_succ])) | (refine wpMix_qskip rfl rfl ?_; (try simp only [Act.put, List.setIfInBounds_toArray, List.set_cons_zero, List.set_cons_succ])) | (refine wpMix_eskip rfl rfl ( HSD).out ?_; (try simp only [Act.put, List.setIfInBounds_toArray, List.set_cons_zero, List.set_cons_succ])) | (refine wpMix_e rfl rfl (fun K hK => ?_); go_simp; refine hK.out _ _ (fun h => absurd h (by decide)) ?_; clear hK K; (try simp only [Act.put, List.setIfInBounds_toArray, List.set_cons_zero, List.set_cons_succ])))
            refine wpMix_nil ?_
            refine NoPanic.normal ?_
            go_upto_region 4 with (fail)
            have HBE := Lib.hid (bchain HBX.out HSD.out)
            clear HS
            have HSX : Hid (∀ w' : World, Below w1.heap.size w1 w' → w'.cell? ⟨w.heap.size, 0, none⟩ = some (.slice A0 n0 c0) ∧ (w'.cell? ⟨w.heap.size + 1, 2, none⟩ = some (.slice A3 n3 c3) ∧ w'.cell? ⟨w.heap.size + 1, 3, none⟩ = some (.slice A4 n4 c4))) := by
              intro w' h
              have hb := bchain HBZ.out (bchain HSD.out h)
              obtain ⟨_, _, r2, r3, _, _⟩ := (HQ.out.below hb).cells
              exact ⟨(HP.out.below hb).cell, r2, r3⟩
            obtain ⟨f, hf⟩ : ∃ f : Nat, z = (f : Int) := ⟨z.toNat, by have := HZN.out; omega⟩
            subst hf
            have hfi : f ≤ i ∧ i = f + n3 := by have := HZ.out; omega
            have hti : i + 1 ≤ t ∧ t = i + 1 + n4 := by have := HT.out; omega
            obtain ⟨B1, m1, k1, hr1, sl1, sa1⟩ := cut_of HW.out f i hfi.1 (Nat.le_of_lt hi) hnc
            obtain ⟨B2, m2, k2, hr2, sl2, sa2⟩ := cut_of HW.out (i + 1) t hti.1 HNT.out hnc
            rw [Int.natCast_add, Int.natCast_one] at sl2 sa2
            have HR1 := Lib.hid hr1
            have HR2 := Lib.hid hr2
            have HL1 : Hid (((l.drop f).take (i - f)).length ≤ R.lft.length) := by rw [Hid, HN3.out, List.length_take]; omega
            have HL2 : Hid (((l.drop (i + 1)).take (t - (i + 1))).length ≤ R.rgt.length) := by rw [Hid, HN4.out, List.length_take]; omega
            have HF1 : Hid (fitsB I R.lft ((l.drop f).take (i - f)) = fitsB I R.lft (l.drop (i - n3))) := by rw [Hid, fitsB_take _ _ _ _ (by rw [HN3.out]; omega), show i - n3 = f by omega]
            have HF2 : Hid (fitsB I R.rgt ((l.drop (i + 1)).take (t - (i + 1))) = fitsB I R.rgt (l.drop (i + 1))) := fitsB_take _ _ _ _ (by rw [HN4.out]; omega)
            have hwi : IntKind.i64.wrap ((i : Int) + 1) = (i : Int) + 1 := IntWalk.i64_in _ (by omega)
            rw [← HF1.out, ← HF2.out] at HSB
            clear hr1 hr2 hfi hti HF1 HF2
            refine wp_region_mix 19 [0, 1, 2, 3, 4, 5, 6, 7, 8, 9, 10, 11, 12, 13, 14, 15, 16, 17, 18] [] [(true, 0), (true, 1), (true, 2), (true, 3), (true, 4), (true, 5), (true, 6), (true, 7), (false, 8), (true, 9), (true, 10), (true, 11), (true, 12), (true, 13), (true, 14), (true, 15), (true, 16), (true, 17), (true, 18), (false, 19), (false, 20), (false, 21)] (fun w' => Below w1.heap.size w1 w') (by kernel_rfl) (by kernel_rfl) ?_
            rintro V hV
            have HSV : Hid (Below w1.heap.size w1 V) := by rw [hV]; exact (Below.refl _ _).drew
            clear hV
            refine ⟨HSV.out, ?_⟩
            have HS := HSX
            clear HSX
            iterate 8 (refine wpMix_q (v := ?_) rfl rfl (fun w' hS => ?_) ?_; rotate_left; (focus ((try obtain ⟨s0, t2, t3⟩ := HS.out _ (hS rfl)); clear hS; go_simp; try with_reducible rfl; done)); (try simp only [Act.put, List.setIfInBounds_toArray, List.set_cons_zero, List.set_cons_succ]))
            refine wpMix_e rfl rfl (fun K hK => ?_)
            go_simp
            refine (fits_any _ _ _ I R.lft ((l.drop f).take (i - f)) _ (HV.out.below (bchain HBE.out HSV.out)) (HL.out.below (bchain HBE.out HSV.out)) (HR1.out.below (bchain HBE.out HSV.out)) HL1.out).mono ?_
            rintro e Y1 ⟨rfl, hb⟩
            refine hK.out _ _ (fun _ => bchain HSV.out hb) ?_
            clear hK K
            (try dsimp only); (try simp only [Act.put]); (try simp only [List.setIfInBounds_toArray, List.set_cons_zero, List.set_cons_succ])
            have HSY1 := Lib.hid (bchain HSV.out hb)
            clear hb
            cases hff : fitsB I R.lft ((l.drop f).take (i - f))
            · rw [hff, Bool.false_and] at HSB
              have hsb := HSB.out
              subst hsb
              clear hff
              iterate 13 (first | (refine wpMix_q (v := ?_) rfl rfl (fun w' hS => ?_) ?_; rotate_left; (focus ((try obtain ⟨s0, t2, t3⟩ := HS.out _ (hS rfl)); clear hS; go_simp; try with_reducible rfl; done)); (try simp only [Act.put, List.setIfInBounds_toArray, List.set_cons_zero, List.set_cons_succ])) | (refine wpMix_qskip rfl rfl ?_; (try simp only [Act.put, List.setIfInBounds_toArray, List.set_cons_zero, List.set_cons_succ])) | (refine wpMix_eskip rfl rfl ( HSY1).out ?_; (try simp only [Act.put, List.setIfInBounds_toArray, List.set_cons_zero, List.set_cons_succ])) | (refine wpMix_e rfl rfl (fun K hK => ?_); go_simp; refine hK.out _ _ (fun h => absurd h (by decide)) ?_; clear hK K; (try simp only [Act.put, List.setIfInBounds_toArray, List.set_cons_zero, List.set_cons_succ])))
              refine wpMix_nil ?_
              refine NoPanic.normal ?_
              go_wp2_with fail
              go_ret
              exact ⟨rfl, bchain HBE.out HSY1.out⟩
            · rw [hff, Bool.true_and] at HSB
              clear hff
              iterate 10 (refine wpMix_q (v := ?_) rfl rfl (fun w' hS => ?_) ?_; rotate_left; (focus ((try obtain ⟨s0, t2, t3⟩ := HS.out _ (hS rfl)); clear hS; go_simp; try with_reducible rfl; done)); (try simp only [Act.put, List.setIfInBounds_toArray, List.set_cons_zero, List.set_cons_succ]))
              refine wpMix_e rfl rfl (fun K hK => ?_)
              go_simp
              refine (fits_any _ _ _ I R.rgt ((l.drop (i + 1)).take (t - (i + 1))) _ (HV.out.below (bchain HBE.out HSY1.out)) (HG.out.below (bchain HBE.out HSY1.out)) (HR2.out.below (bchain HBE.out HSY1.out)) HL2.out).mono ?_
              rintro e Y2 ⟨rfl, hb⟩
              refine hK.out _ _ (fun h => absurd h (by decide)) ?_
              clear hK K
              (try dsimp only); (try simp only [Act.put]); (try simp only [List.setIfInBounds_toArray, List.set_cons_zero, List.set_cons_succ])
              have HSY2 := Lib.hid (bchain HSY1.out hb)
              clear hb
              rw [HSB.out]
              iterate 2 (refine wpMix_e rfl rfl (fun K hK => ?_); go_simp; refine hK.out _ _ (fun h => absurd h (by decide)) ?_; clear hK K; (try simp only [Act.put, List.setIfInBounds_toArray, List.set_cons_zero, List.set_cons_succ]))
              refine wpMix_nil ?_
              refine NoPanic.normal ?_
              go_wp2_with fail
              go_ret
              exact ⟨rfl, bchain HBE.out HSY2.out⟩
          · rw [Bool.not_true, Bool.false_or] at HSB
            by_cases ht1 : t < n
            · have d5 : decide (t < n) = true := by simpa using ht1
              have d6 : decide ((t : Int) < (n : Int)) = true := by simp; omega
              have hnt : ¬ n ≤ t := by omega
              rw [decide_eq_false hnt, Bool.false_and] at HSB
              have hsb := HSB.out
              subst hsb
              clear ht1 hnt
              iterate 29 (first | (refine wpMix_q (v := ?_) rfl rfl (fun w' hS => ?_) ?_; rotate_left; (focus ((try obtain ⟨s0, ⟨t0, t1, t2, t3, t4, t5⟩, u0⟩ := HS.out _ (hS rfl)); clear hS; go_simp; try with_reducible rfl; done)); (try simp only [Act.put, List.setIfInBounds_toArray, List.set_cons_zero, List.set_cons_succ])) | (refine wpMix_qskip rfl rfl ?_; (try simp only [Act.put, List.setIfInBounds_toArray, List.set_cons_zero, List.set_cons_succ])) | (refine wpMix_eskip rfl rfl ( HSD).out ?_; (try simp only [Act.put, List.setIfInBounds_toArray, List.set_cons_zero, List.set_cons_succ])) | (refine wpMix_e rfl rfl (fun K hK => ?_); go_simp; refine hK.out _ _ (fun h => absurd h (by decide)) ?_; clear hK K; (try simp only [Act.put, List.setIfInBounds_toArray, List.set_cons_zero, List.set_cons_succ])))
              refine wpMix_nil ?_
              refine NoPanic.normal ?_
              go_wp2_with fail
              go_ret
              exact ⟨rfl, bchain HBX.out HSD.out⟩
            · have d5 : decide (t < n) = false := by simpa using ht1
              have d6 : decide ((t : Int) < (n : Int)) = false := by simp; omega
              have hnt : n ≤ t := by omega
              rw [decide_eq_true hnt, Bool.true_and] at HSB
              clear ht1 hnt
              iterate 29 (first | (refine wpMix_q (v := ?_) rfl rfl (fun w' hS => ?_) ?_; rotate_left; (focus ((try obtain ⟨s0, ⟨t0, t1, t2, t3, t4, t5⟩, u0⟩ := HS.out _ (hS rfl)); clear hS; go_simp; try with_reducible rfl; done)); (try simp only [Act.put, List.setIfInBounds_toArray, List.set_cons_zero, List.set_cons_succ])) | (refine wpMix_qskip rfl rfl ?_; (try simp only [Act.put, List.setIfInBounds_toArray, List.set_cons_zero, List.set_cons_succ])) | (refine wpMix_eskip rfl rfl ( HSD).out ?_; (try simp only [Act.put, List.setIfInBounds_toArray, List.set_cons_zero, List.set_cons_succ])) | (refine wpMix_e rfl rfl (fun K hK => ?_); go_simp; refine hK.out _ _ (fun h => absurd h (by decide)) ?_; clear hK K; (try simp only [Act.put, List.setIfInBounds_toArray, List.set_cons_zero, List.set_cons_succ])))
              refine wpMix_nil ?_
              refine NoPanic.normal ?_
              go_upto_region 4 with (fail)
              have HBE := Lib.hid (bchain HBX.out HSD.out)
              clear HS
              have HSX : Hid (∀ w' : World, Below w1.heap.size w1 w' → w'.cell? ⟨w.heap.size, 0, none⟩ = some (.slice A0 n0 c0) ∧ (w'.cell? ⟨w.heap.size + 1, 2, none⟩ = some (.slice A3 n3 c3) ∧ w'.cell? ⟨w.heap.size + 1, 3, none⟩ = some (.slice A4 n4 c4))) := by
                intro w' h
                have hb := bchain HBZ.out (bchain HSD.out h)
                obtain ⟨_, _, r2, r3, _, _⟩ := (HQ.out.below hb).cells
                exact ⟨(HP.out.below hb).cell, r2, r3⟩
              obtain ⟨f, hf⟩ : ∃ f : Nat, z = (f : Int) := ⟨z.toNat, by have := HZN.out; omega⟩
              subst hf
              have hfi : f ≤ i ∧ i = f + n3 := by have := HZ.out; omega
              have hti : i + 1 ≤ t ∧ t = i + 1 + n4 := by have := HT.out; omega
              obtain ⟨B1, m1, k1, hr1, sl1, sa1⟩ := cut_of HW.out f i hfi.1 (Nat.le_of_lt hi) hnc
              obtain ⟨B2, m2, k2, hr2, sl2, sa2⟩ := cut_of HW.out (i + 1) t hti.1 HNT.out hnc
              rw [Int.natCast_add, Int.natCast_one] at sl2 sa2
              have HR1 := Lib.hid hr1
              have HR2 := Lib.hid hr2
              have HL1 : Hid (((l.drop f).take (i - f)).length ≤ R.lft.length) := by rw [Hid, HN3.out, List.length_take]; omega
              have HL2 : Hid (((l.drop (i + 1)).take (t - (i + 1))).length ≤ R.rgt.length) := by rw [Hid, HN4.out, List.length_take]; omega
              have HF1 : Hid (fitsB I R.lft ((l.drop f).take (i - f)) = fitsB I R.lft (l.drop (i - n3))) := by rw [Hid, fitsB_take _ _ _ _ (by rw [HN3.out]; omega), show i - n3 = f by omega]
              have HF2 : Hid (fitsB I R.rgt ((l.drop (i + 1)).take (t - (i + 1))) = fitsB I R.rgt (l.drop (i + 1))) := fitsB_take _ _ _ _ (by rw [HN4.out]; omega)
              have hwi : IntKind.i64.wrap ((i : Int) + 1) = (i : Int) + 1 := IntWalk.i64_in _ (by omega)
              rw [← HF1.out, ← HF2.out] at HSB
              clear hr1 hr2 hfi hti HF1 HF2
              refine wp_region_mix 19 [0, 1, 2, 3, 4, 5, 6, 7, 8, 9, 10, 11, 12, 13, 14, 15, 16, 17, 18] [] [(true, 0), (true, 1), (true, 2), (true, 3), (true, 4), (true, 5), (true, 6), (true, 7), (false, 8), (true, 9), (true, 10), (true, 11), (true, 12), (true, 13), (true, 14), (true, 15), (true, 16), (true, 17), (true, 18), (false, 19), (false, 20), (false, 21)] (fun w' => Below w1.heap.size w1 w') (by kernel_rfl) (by kernel_rfl) ?_
              rintro V hV
              have HSV : Hid (Below w1.heap.size w1 V) := by rw [hV]; exact (Below.refl _ _).drew
              clear hV
              refine ⟨HSV.out, ?_⟩
              have HS := HSX
              clear HSX
              iterate 8 (refine wpMix_q (v := ?_) rfl rfl (fun w' hS => ?_) ?_; rotate_left; (focus ((try obtain ⟨s0, t2, t3⟩ := HS.out _ (hS rfl)); clear hS; go_simp; try with_reducible rfl; done)); (try simp only [Act.put, List.setIfInBounds_toArray, List.set_cons_zero, List.set_cons_succ]))
              refine wpMix_e rfl rfl (fun K hK => ?_)
              go_simp
              refine (fits_any _ _ _ I R.lft ((l.drop f).take (i - f)) _ (HV.out.below (bchain HBE.out HSV.out)) (HL.out.below (bchain HBE.out HSV.out)) (HR1.out.below (bchain HBE.out HSV.out)) HL1.out).mono ?_
              rintro e Y1 ⟨rfl, hb⟩
              refine hK.out _ _ (fun _ => bchain HSV.out hb) ?_
              clear hK K
              (try dsimp only); (try simp only [Act.put]); (try simp only [List.setIfInBounds_toArray, List.set_cons_zero, List.set_cons_succ])
              have HSY1 := Lib.hid (bchain HSV.out hb)
              clear hb
              cases hff : fitsB I R.lft ((l.drop f).take (i - f))
              · rw [hff, Bool.false_and] at HSB
                have hsb := HSB.out
                subst hsb
                clear hff
                iterate 13 (first | (refine wpMix_q (v := ?_) rfl rfl (fun w' hS => ?_) ?_; rotate_left; (focus ((try obtain ⟨s0, t2, t3⟩ := HS.out _ (hS rfl)); clear hS; go_simp; try with_reducible rfl; done)); (try simp only [Act.put, List.setIfInBounds_toArray, List.set_cons_zero, List.set_cons_succ])) | (refine wpMix_qskip rfl rfl ?_; (try simp only [Act.put, List.setIfInBounds_toArray, List.set_cons_zero, List.set_cons_succ])) | (refine wpMix_eskip rfl rfl ( HSY1).out ?_; (try simp only [Act.put, List.setIfInBounds_toArray, List.set_cons_zero, List.set_cons_succ])) | (refine wpMix_e rfl rfl (fun K hK => ?_); go_simp; refine hK.out _ _ (fun h => absurd h (by decide)) ?_; clear hK K; (try simp only [Act.put, List.setIfInBounds_toArray, List.set_cons_zero, List.set_cons_succ])))
                refine wpMix_nil ?_
                refine NoPanic.normal ?_
                go_wp2_with fail
                go_ret
                exact ⟨rfl, bchain HBE.out HSY1.out⟩
              · rw [hff, Bool.true_and] at HSB
                clear hff
                iterate 10 (refine wpMix_q (v := ?_) rfl rfl (fun w' hS => ?_) ?_; rotate_left; (focus ((try obtain ⟨s0, t2, t3⟩ := HS.out _ (hS rfl)); clear hS; go_simp; try with_reducible rfl; done)); (try simp only [Act.put, List.setIfInBounds_toArray, List.set_cons_zero, List.set_cons_succ]))
                refine wpMix_e rfl rfl (fun K hK => ?_)
                go_simp
                refine (fits_any _ _ _ I R.rgt ((l.drop (i + 1)).take (t - (i + 1))) _ (HV.out.below (bchain HBE.out HSY1.out)) (HG.out.below (bchain HBE.out HSY1.out)) (HR2.out.below (bchain HBE.out HSY1.out)) HL2.out).mono ?_
                rintro e Y2 ⟨rfl, hb⟩
                refine hK.out _ _ (fun h => absurd h (by decide)) ?_
                clear hK K
                (try dsimp only); (try simp only [Act.put]); (try simp only [List.setIfInBounds_toArray, List.set_cons_zero, List.set_cons_succ])
                have HSY2 := Lib.hid (bchain HSY1.out hb)
                clear hb
                rw [HSB.out]
                iterate 2 (refine wpMix_e rfl rfl (fun K hK => ?_); go_simp; refine hK.out _ _ (fun h => absurd h (by decide)) ?_; clear hK K; (try simp only [Act.put, List.setIfInBounds_toArray, List.set_cons_zero, List.set_cons_succ]))
                refine wpMix_nil ?_
                refine NoPanic.normal ?_
                go_wp2_with fail
                go_ret
                exact ⟨rfl, bchain HBE.out HSY2.out⟩
        · rw [Bool.not_true, Bool.false_or] at HSB
          by_cases hz1 : 0 < z
          · have d4 : decide (0 < z) = true := by simpa using hz1
            have hni : ¬ i ≤ n3 := by have := HZ.out; omega
            rw [decide_eq_false hni, Bool.false_and] at HSB
            have hsb := HSB.out
            subst hsb
            clear hz1 hni
            iterate 29 (first | (refine wpMix_q (v := ?_) rfl rfl (fun w' hS => ?_) ?_; rotate_left; (focus ((try obtain ⟨s0, ⟨t0, t1, t2, t3, t4, t5⟩, u0⟩ := HS.out _ (hS rfl)); clear hS; go_simp; try with_reducible rfl; done)); (try simp only [Act.put, List.setIfInBounds_toArray, List.set_cons_zero, List.set_cons_succ])) | (refine wpMix_qskip rfl rfl ?_; (try simp only [Act.put, List.setIfInBounds_toArray, List.set_cons_zero, List.set_cons_succ])) | (refine wpMix_eskip rfl rfl ( HSD).out ?_; (try simp only [Act.put, List.setIfInBounds_toArray, List.set_cons_zero, List.set_cons_succ])) | (refine wpMix_e rfl rfl (fun K hK => ?_); go_simp; refine hK.out _ _ (fun h => absurd h (by decide)) ?_; clear hK K; (try simp only [Act.put, List.setIfInBounds_toArray, List.set_cons_zero, List.set_cons_succ])))
            refine wpMix_nil ?_
            refine NoPanic.normal ?_
            go_wp2_with fail
            go_ret
            exact ⟨rfl, bchain HBX.out HSD.out⟩
          · have d4 : decide (0 < z) = false := by simpa using hz1
            have hni : i ≤ n3 := by have := HZ.out; omega
            rw [decide_eq_true hni, Bool.true_and] at HSB
            clear hz1 hni
            cases fin
            · rw [Bool.not_false, Bool.true_or, Bool.true_and] at HSB
              iterate 29 (first | (refine wpMix_q (v := ?_) rfl rfl (fun w' hS => ?_) ?_; rotate_left; (focus ((try obtain ⟨s0, ⟨t0, t1, t2, t3, t4, t5⟩, u0⟩ := HS.out _ (hS rfl)); clear hS; go_simp; try with_reducible rfl; done)); (try simp only [Act.put, List.setIfInBounds_toArray, List.set_cons_zero, List.set_cons_succ])) | (refine wpMix_qskip rfl rfl ?_; (try simp only [Act.put, List.setIfInBounds_toArray, List.set_cons_zero, List.set_cons_succ])) | (refine wpMix_eskip rfl rfl ( HSD).out ?_; (try simp only [Act.put, List.setIfInBounds_toArray, List.set_cons_zero, List.set_cons_succ])) | (refine wpMix_e rfl rfl (fun K hK => ?_); go_simp; refine hK.out _ _ (fun h => absurd h (by decide)) ?_; clear hK K; (try simp only [Act.put, List.setIfInBounds_toArray, List.set_cons_zero, List.set_cons_succ])))
              refine wpMix_nil ?_
              refine NoPanic.normal ?_
              go_upto_region 4 with (fail)
              have HBE := Lib.hid (bchain HBX.out HSD.out)
              clear HS
              have HSX : Hid (∀ w' : World, Below w1.heap.size w1 w' → w'.cell? ⟨w.heap.size, 0, none⟩ = some (.slice A0 n0 c0) ∧ (w'.cell? ⟨w.heap.size + 1, 2, none⟩ = some (.slice A3 n3 c3) ∧ w'.cell? ⟨w.heap.size + 1, 3, none⟩ = some (.slice A4 n4 c4))) := by
                intro w' h
                have hb := bchain HBZ.out (bchain HSD.out h)
                obtain ⟨_, _, r2, r3, _, _⟩ := (HQ.out.below hb).cells
                exact ⟨(HP.out.below hb).cell, r2, r3⟩
              obtain ⟨f, hf⟩ : ∃ f : Nat, z = (f : Int) := ⟨z.toNat, by have := HZN.out; omega⟩
              subst hf
              have hfi : f ≤ i ∧ i = f + n3 := by have := HZ.out; omega
              have hti : i + 1 ≤ t ∧ t = i + 1 + n4 := by have := HT.out; omega
              obtain ⟨B1, m1, k1, hr1, sl1, sa1⟩ := cut_of HW.out f i hfi.1 (Nat.le_of_lt hi) hnc
              obtain ⟨B2, m2, k2, hr2, sl2, sa2⟩ := cut_of HW.out (i + 1) t hti.1 HNT.out hnc
              rw [Int.natCast_add, Int.natCast_one] at sl2 sa2
              have HR1 := Lib.hid hr1
              have HR2 := Lib.hid hr2
              have HL1 : Hid (((l.drop f).take (i - f)).length ≤ R.lft.length) := by rw [Hid, HN3.out, List.length_take]; omega
              have HL2 : Hid (((l.drop (i + 1)).take (t - (i + 1))).length ≤ R.rgt.length) := by rw [Hid, HN4.out, List.length_take]; omega
              have HF1 : Hid (fitsB I R.lft ((l.drop f).take (i - f)) = fitsB I R.lft (l.drop (i - n3))) := by rw [Hid, fitsB_take _ _ _ _ (by rw [HN3.out]; omega), show i - n3 = f by omega]
              have HF2 : Hid (fitsB I R.rgt ((l.drop (i + 1)).take (t - (i + 1))) = fitsB I R.rgt (l.drop (i + 1))) := fitsB_take _ _ _ _ (by rw [HN4.out]; omega)
              have hwi : IntKind.i64.wrap ((i : Int) + 1) = (i : Int) + 1 := IntWalk.i64_in _ (by omega)
              rw [← HF1.out, ← HF2.out] at HSB
              clear hr1 hr2 hfi hti HF1 HF2
              refine wp_region_mix 19 [0, 1, 2, 3, 4, 5, 6, 7, 8, 9, 10, 11, 12, 13, 14, 15, 16, 17, 18] [] [(true, 0), (true, 1), (true, 2), (true, 3), (true, 4), (true, 5), (true, 6), (true, 7), (false, 8), (true, 9), (true, 10), (true, 11), (true, 12), (true, 13), (true, 14), (true, 15), (true, 16), (true, 17), (true, 18), (false, 19), (false, 20), (false, 21)] (fun w' => Below w1.heap.size w1 w') (by kernel_rfl) (by kernel_rfl) ?_
              rintro V hV
              have HSV : Hid (Below w1.heap.size w1 V) := by rw [hV]; exact (Below.refl _ _).drew
              clear hV
              refine ⟨HSV.out, ?_⟩
              have HS := HSX
              clear HSX
              iterate 8 (refine wpMix_q (v := ?_) rfl rfl (fun w' hS => ?_) ?_; rotate_left; (focus ((try obtain ⟨s0, t2, t3⟩ := HS.out _ (hS rfl)); clear hS; go_simp; try with_reducible rfl; done)); (try simp only [Act.put, List.setIfInBounds_toArray, List.set_cons_zero, List.set_cons_succ]))
              refine wpMix_e rfl rfl (fun K hK => ?_)
              go_simp
              refine (fits_any _ _ _ I R.lft ((l.drop f).take (i - f)) _ (HV.out.below (bchain HBE.out HSV.out)) (HL.out.below (bchain HBE.out HSV.out)) (HR1.out.below (bchain HBE.out HSV.out)) HL1.out).mono ?_
              rintro e Y1 ⟨rfl, hb⟩
              refine hK.out _ _ (fun _ => bchain HSV.out hb) ?_
              clear hK K
              (try dsimp only); (try simp only [Act.put]); (try simp only [List.setIfInBounds_toArray, List.set_cons_zero, List.set_cons_succ])
              have HSY1 := Lib.hid (bchain HSV.out hb)
              clear hb
              cases hff : fitsB I R.lft ((l.drop f).take (i - f))
              · rw [hff, Bool.false_and] at HSB
                have hsb := HSB.out
                subst hsb
                clear hff
                iterate 13 (first | (refine wpMix_q (v := ?_) rfl rfl (fun w' hS => ?_) ?_; rotate_left; (focus ((try obtain ⟨s0, t2, t3⟩ := HS.out _ (hS rfl)); clear hS; go_simp; try with_reducible rfl; done)); (try simp only [Act.put, List.setIfInBounds_toArray, List.set_cons_zero, List.set_cons_succ])) | (refine wpMix_qskip rfl rfl ?_; (try simp only [Act.put, List.setIfInBounds_toArray, List.set_cons_zero, List.set_cons_succ])) | (refine wpMix_eskip rfl rfl ( HSY1).out ?_; (try simp only [Act.put, List.setIfInBounds_toArray, List.set_cons_zero, List.set_cons_succ])) | (refine wpMix_e rfl rfl (fun K hK => ?_); go_simp; refine hK.out _ _ (fun h => absurd h (by decide)) ?_; clear hK K; (try simp only [Act.put, List.setIfInBounds_toArray, List.set_cons_zero, List.set_cons_succ])))
                refine wpMix_nil ?_
                refine NoPanic.normal ?_
                go_wp2_with fail
                go_ret
                exact ⟨rfl, bchain HBE.out HSY1.out⟩
              · rw [hff, Bool.true_and] at HSB
                clear hff
                iterate 10 (refine wpMix_q (v := ?_) rfl rfl (fun w' hS => ?_) ?_; rotate_left; (focus ((try obtain ⟨s0, t2, t3⟩ := HS.out _ (hS rfl)); clear hS; go_simp; try with_reducible rfl; done)); (try simp only [Act.put, List.setIfInBounds_toArray, List.set_cons_zero, List.set_cons_succ]))
                refine wpMix_e rfl rfl (fun K hK => ?_)
                go_simp
                refine (fits_any _ _ _ I R.rgt ((l.drop (i + 1)).take (t - (i + 1))) _ (HV.out.below (bchain HBE.out HSY1.out)) (HG.out.below (bchain HBE.out HSY1.out)) (HR2.out.below (bchain HBE.out HSY1.out)) HL2.out).mono ?_
                rintro e Y2 ⟨rfl, hb⟩
                refine hK.out _ _ (fun h => absurd h (by decide)) ?_
                clear hK K
                (try dsimp only); (try simp only [Act.put]); (try simp only [List.setIfInBounds_toArray, List.set_cons_zero, List.set_cons_succ])
                have HSY2 := Lib.hid (bchain HSY1.out hb)
                clear hb
                rw [HSB.out]
                iterate 2 (refine wpMix_e rfl rfl (fun K hK => ?_); go_simp; refine hK.out _ _ (fun h => absurd h (by decide)) ?_; clear hK K; (try simp only [Act.put, List.setIfInBounds_toArray, List.set_cons_zero, List.set_cons_succ]))
                refine wpMix_nil ?_
                refine NoPanic.normal ?_
                go_wp2_with fail
                go_ret
                exact ⟨rfl, bchain HBE.out HSY2.out⟩
            · rw [Bool.not_true, Bool.false_or] at HSB
              by_cases ht1 : t < n
              · have d5 : decide (t < n) = true := by simpa using ht1
                have d6 : decide ((t : Int) < (n : Int)) = true := by simp; omega
                have hnt : ¬ n ≤ t := by omega
                rw [decide_eq_false hnt, Bool.false_and] at HSB
                have hsb := HSB.out
                subst hsb
                clear ht1 hnt
                iterate 29 (first | (refine wpMix_q (v := ?_) rfl rfl (fun w' hS => ?_) ?_; rotate_left; (focus ((try obtain ⟨s0, ⟨t0, t1, t2, t3, t4, t5⟩, u0⟩ := HS.out _ (hS rfl)); clear hS; go_simp; try with_reducible rfl; done)); (try simp only [Act.put, List.setIfInBounds_toArray, List.set_cons_zero, List.set_cons_succ])) | (refine wpMix_qskip rfl rfl ?_; (try simp only [Act.put, List.setIfInBounds_toArray, List.set_cons_zero, List.set_cons_succ])) | (refine wpMix_eskip rfl rfl ( HSD).out ?_; (try simp only [Act.put, List.setIfInBounds_toArray, List.set_cons_zero, List.set_cons_succ])) | (refine wpMix_e rfl rfl (fun K hK => ?_); go_simp; refine hK.out _ _ (fun h => absurd h (by decide)) ?_; clear hK K; (try simp only [Act.put, List.setIfInBounds_toArray, List.set_cons_zero, List.set_cons_succ])))
                refine wpMix_nil ?_
                refine NoPanic.normal ?_
                go_wp2_with fail
                go_ret
                exact ⟨rfl, bchain HBX.out HSD.out⟩
              · have d5 : decide (t < n) = false := by simpa using ht1
                have d6 : decide ((t : Int) < (n : Int)) = false := by simp; omega
                have hnt : n ≤ t := by omega
                rw [decide_eq_true hnt, Bool.true_and] at HSB
                clear ht1 hnt
                iterate 29 (first | (refine wpMix_q (v := ?_) rfl rfl (fun w' hS => ?_) ?_; rotate_left; (focus ((try obtain ⟨s0, ⟨t0, t1, t2, t3, t4, t5⟩, u0⟩ := HS.out _ (hS rfl)); clear hS; go_simp; try with_reducible rfl; done)); (try simp only [Act.put, List.setIfInBounds_toArray, List.set_cons_zero, List.set_cons_succ])) | (refine wpMix_qskip rfl rfl ?_; (try simp only [Act.put, List.setIfInBounds_toArray, List.set_cons_zero, List.set_cons_succ])) | (refine wpMix_eskip rfl rfl ( HSD).out ?_; (try simp only [Act.put, List.setIfInBounds_toArray, List.set_cons_zero, List.set_cons_succ])) | (refine wpMix_e rfl rfl (fun K hK => ?_); go_simp; refine hK.out _ _ (fun h => absurd h (by decide)) ?_; clear hK K; (try simp only [Act.put, List.setIfInBounds_toArray, List.set_cons_zero, List.set_cons_succ])))
                refine wpMix_nil ?_
                refine NoPanic.normal ?_
                go_upto_region 4 with (fail)
                have HBE := Lib.hid (bchain HBX.out HSD.out)
                clear HS
                have HSX : Hid (∀ w' : World, Below w1.heap.size w1 w' → w'.cell? ⟨w.heap.size, 0, none⟩ = some (.slice A0 n0 c0) ∧ (w'.cell? ⟨w.heap.size + 1, 2, none⟩ = some (.slice A3 n3 c3) ∧ w'.cell? ⟨w.heap.size + 1, 3, none⟩ = some (.slice A4 n4 c4))) := by
                  intro w' h
                  have hb := bchain HBZ.out (bchain HSD.out h)
                  obtain ⟨_, _, r2, r3, _, _⟩ := (HQ.out.below hb).cells
                  exact ⟨(HP.out.below hb).cell, r2, r3⟩
                obtain ⟨f, hf⟩ : ∃ f : Nat, z = (f : Int) := ⟨z.toNat, by have := HZN.out; omega⟩
                subst hf
                have hfi : f ≤ i ∧ i = f + n3 := by have := HZ.out; omega
                have hti : i + 1 ≤ t ∧ t = i + 1 + n4 := by have := HT.out; omega
                obtain ⟨B1, m1, k1, hr1, sl1, sa1⟩ := cut_of HW.out f i hfi.1 (Nat.le_of_lt hi) hnc
                obtain ⟨B2, m2, k2, hr2, sl2, sa2⟩ := cut_of HW.out (i + 1) t hti.1 HNT.out hnc
                rw [Int.natCast_add, Int.natCast_one] at sl2 sa2
                have HR1 := Lib.hid hr1
                have HR2 := Lib.hid hr2
                have HL1 : Hid (((l.drop f).take (i - f)).length ≤ R.lft.length) := by rw [Hid, HN3.out, List.length_take]; omega
                have HL2 : Hid (((l.drop (i + 1)).take (t - (i + 1))).length ≤ R.rgt.length) := by rw [Hid, HN4.out, List.length_take]; omega
                have HF1 : Hid (fitsB I R.lft ((l.drop f).take (i - f)) = fitsB I R.lft (l.drop (i - n3))) := by rw [Hid, fitsB_take _ _ _ _ (by rw [HN3.out]; omega), show i - n3 = f by omega]
                have HF2 : Hid (fitsB I R.rgt ((l.drop (i + 1)).take (t - (i + 1))) = fitsB I R.rgt (l.drop (i + 1))) := fitsB_take _ _ _ _ (by rw [HN4.out]; omega)
                have hwi : IntKind.i64.wrap ((i : Int) + 1) = (i : Int) + 1 := IntWalk.i64_in _ (by omega)
                rw [← HF1.out, ← HF2.out] at HSB
                clear hr1 hr2 hfi hti HF1 HF2
                refine wp_region_mix 19 [0, 1, 2, 3, 4, 5, 6, 7, 8, 9, 10, 11, 12, 13, 14, 15, 16, 17, 18] [] [(true, 0), (true, 1), (true, 2), (true, 3), (true, 4), (true, 5), (true, 6), (true, 7), (false, 8), (true, 9), (true, 10), (true, 11), (true, 12), (true, 13), (true, 14), (true, 15), (true, 16), (true, 17), (true, 18), (false, 19), (false, 20), (false, 21)] (fun w' => Below w1.heap.size w1 w') (by kernel_rfl) (by kernel_rfl) ?_
                rintro V hV
                have HSV : Hid (Below w1.heap.size w1 V) := by rw [hV]; exact (Below.refl _ _).drew
                clear hV
                refine ⟨HSV.out, ?_⟩
                have HS := HSX
                clear HSX
                iterate 8 (refine wpMix_q (v := ?_) rfl rfl (fun w' hS => ?_) ?_; rotate_left; (focus ((try obtain ⟨s0, t2, t3⟩ := HS.out _ (hS rfl)); clear hS; go_simp; try with_reducible rfl; done)); (try simp only [Act.put, List.setIfInBounds_toArray, List.set_cons_zero, List.set_cons_succ]))
                refine wpMix_e rfl rfl (fun K hK => ?_)
                go_simp
                refine (fits_any _ _ _ I R.lft ((l.drop f).take (i - f)) _ (HV.out.below (bchain HBE.out HSV.out)) (HL.out.below (bchain HBE.out HSV.out)) (HR1.out.below (bchain HBE.out HSV.out)) HL1.out).mono ?_
                rintro e Y1 ⟨rfl, hb⟩
                refine hK.out _ _ (fun _ => bchain HSV.out hb) ?_
                clear hK K
                (try dsimp only); (try simp only [Act.put]); (try simp only [List.setIfInBounds_toArray, List.set_cons_zero, List.set_cons_succ])
                have HSY1 := Lib.hid (bchain HSV.out hb)
                clear hb
                cases hff : fitsB I R.lft ((l.drop f).take (i - f))
                · rw [hff, Bool.false_and] at HSB
                  have hsb := HSB.out
                  subst hsb
                  clear hff
                  iterate 13 (first | (refine wpMix_q (v := ?_) rfl rfl (fun w' hS => ?_) ?_; rotate_left; (focus ((try obtain ⟨s0, t2, t3⟩ := HS.out _ (hS rfl)); clear hS; go_simp; try with_reducible rfl; done)); (try simp only [Act.put, List.setIfInBounds_toArray, List.set_cons_zero, List.set_cons_succ])) | (refine wpMix_qskip rfl rfl ?_; (try simp only [Act.put, List.setIfInBounds_toArray, List.set_cons_zero, List.set_cons_succ])) | (refine wpMix_eskip rfl rfl ( HSY1).out ?_; (try simp only [Act.put, List.setIfInBounds_toArray, List.set_cons_zero, List.set_cons_succ])) | (refine wpMix_e rfl rfl (fun K hK => ?_); go_simp; refine hK.out _ _ (fun h => absurd h (by decide)) ?_; clear hK K; (try simp only [Act.put, List.setIfInBounds_toArray, List.set_cons_zero, List.set_cons_succ])))
                  refine wpMix_nil ?_
                  refine NoPanic.normal ?_
                  go_wp2_with fail
                  go_ret
                  exact ⟨rfl, bchain HBE.out HSY1.out⟩
                · rw [hff, Bool.true_and] at HSB
                  clear hff
                  iterate 10 (refine wpMix_q (v := ?_) rfl rfl (fun w' hS => ?_) ?_; rotate_left; (focus ((try obtain ⟨s0, t2, t3⟩ := HS.out _ (hS rfl)); clear hS; go_simp; try with_reducible rfl; done)); (try simp only [Act.put, List.setIfInBounds_toArray, List.set_cons_zero, List.set_cons_succ]))
                  refine wpMix_e rfl rfl (fun K hK => ?_)
                  go_simp
                  refine (fits_any _ _ _ I R.rgt ((l.drop (i + 1)).take (t - (i + 1))) _ (HV.out.below (bchain HBE.out HSY1.out)) (HG.out.below (bchain HBE.out HSY1.out)) (HR2.out.below (bchain HBE.out HSY1.out)) HL2.out).mono ?_
                  rintro e Y2 ⟨rfl, hb⟩
                  refine hK.out _ _ (fun h => absurd h (by decide)) ?_
                  clear hK K
                  (try dsimp only); (try simp only [Act.put]); (try simp only [List.setIfInBounds_toArray, List.set_cons_zero, List.set_cons_succ])
                  have HSY2 := Lib.hid (bchain HSY1.out hb)
                  clear hb
                  rw [HSB.out]
                  iterate 2 (refine wpMix_e rfl rfl (fun K hK => ?_); go_simp; refine hK.out _ _ (fun h => absurd h (by decide)) ?_; clear hK K; (try simp only [Act.put, List.setIfInBounds_toArray, List.set_cons_zero, List.set_cons_succ]))
                  refine wpMix_nil ?_
                  refine NoPanic.normal ?_
                  go_wp2_with fail
                  go_ret
                  exact ⟨rfl, bchain HBE.out HSY2.out⟩
      · have d2 : decide ((n : Int) < (t : Int)) = true := by simp; omega
        have d3 : decide (n < t) = true := by simp; omega
        rw [decide_eq_false htn, Bool.false_and] at HSB
        have hsb := HSB.out
        subst hsb
        clear htn
        iterate 29 (first | (refine wpMix_q (v := ?_) rfl rfl (fun w' hS => ?_) ?_; rotate_left; (focus ((try obtain ⟨s0, ⟨t0, t1, t2, t3, t4, t5⟩, u0⟩ := HS.out _ (hS rfl)); clear hS; go_simp; try with_reducible rfl; done)); (try simp only [Act.put, List.setIfInBounds_toArray, List.set_cons_zero, List.set_cons_succ])) | (refine wpMix_qskip rfl rfl ?_; (try simp only [Act.put, List.setIfInBounds_toArray, List.set_cons_zero, List.set_cons_succ])) | (refine wpMix_eskip rfl rfl ( HSD).out ?_; (try simp only [Act.put, List.setIfInBounds_toArray, List.set_cons_zero, List.set_cons_succ])) | (refine wpMix_e rfl rfl (fun K hK => ?_); go_simp; refine hK.out _ _ (fun h => absurd h (by decide)) ?_; clear hK K; (try simp only [Act.put, List.setIfInBounds_toArray, List.set_cons_zero, List.set_cons_succ])))
        refine wpMix_nil ?_
        refine NoPanic.normal ?_
        go_wp2_with fail
        go_ret
        exact ⟨rfl, bchain HBX.out HSD.out⟩
end Go.Proofs.YtiopgbbggeimaaaGreat

