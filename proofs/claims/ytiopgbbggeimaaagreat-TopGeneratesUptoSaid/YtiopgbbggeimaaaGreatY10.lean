/-
  The part of older texts that this seat needs (printed by shake.py): Q9 QP2 Q11 Q12 Q13 Q14 Q15 Q16 Q17 QP3 Q18 Q19
-/
import Derived.Test.YtiopgbbggeimaaaGreatY9
import Derived.RangeFuncBox
import Derived.RangeFuncNested
import Derived.RangeFuncBound
import Derived.RangeFuncCalls
import Derived.RangeFuncLeaves
import Derived.Shelf.Abstract
import Derived.Shelf.RegionOpen
import Derived.OwnWalkIn
import Derived.TacticsInMore
import Derived.LoopNIn
import Derived.LoopIn
import Derived.OrdersIn
/-
  The machine in memory; owe.
-/
namespace Go.Proofs.YtiopgbbggeimaaaGreat
open Go.ChangeShapes Go.WideShapes Go.ChangeAt Go.RowKit
structure SV where
  A : Option Addr
  n : Nat
  c : Nat
structure Mch where
  i : SV
  f : SV
  t : SV
  l : SV
  r : SV
structure MmOk (w : World) (m : Mch) (I : List PPh) (R : PRule) : Prop where
  i : RdPh w (.slice m.i.A m.i.n m.i.c) I
  f : RdI w (.slice m.f.A m.f.n m.f.c) R.fr
  t : RdI w (.slice m.t.A m.t.n m.t.c) R.tto
  l : RdC w (.slice m.l.A m.l.n m.l.c) R.lft
  r : RdC w (.slice m.r.A m.r.n m.r.c) R.rgt
theorem MmOk.below {w w' : World} {m : Mch} {I : List PPh} {R : PRule} (h : MmOk w m I R) (hb : Below w.heap.size w w') : MmOk w' m I R := ⟨h.i.below hb, h.f.below hb, h.t.below hb, h.l.below hb, h.r.below hb⟩
theorem MmOk.len {w : World} {m : Mch} {I : List PPh} {R : PRule} (h : MmOk w m I R) : I.length = m.i.n ∧ R.fr.length = m.f.n ∧ R.tto.length = m.t.n ∧ R.lft.length = m.l.n ∧ R.rgt.length = m.r.n := by
  refine ⟨?_, ?_, ?_, ?_, ?_⟩
  · obtain ⟨A, c, he, _⟩ := h.i; injection he with _ h1 _; exact h1.symm
  · obtain ⟨A, c, he, _⟩ := h.f; injection he with _ h1 _; exact h1.symm
  · obtain ⟨A, c, he, _⟩ := h.t; injection he with _ h1 _; exact h1.symm
  · obtain ⟨A, c, he, _⟩ := h.l; injection he with _ h1 _; exact h1.symm
  · obtain ⟨A, c, he, _⟩ := h.r; injection he with _ h1 _; exact h1.symm
def stA (s : St) : Array Value := #[.int .i64 s.cnt, .int .u8 s.near, .int .u8 s.far, .int .i8 s.o0, .int .i8 s.o1, .int .i8 s.o2]
def stV (s : St) : Value := .agg (stA s)
structure StOk (s : St) : Prop where
  c0 : 0 ≤ s.cnt
  c1 : s.cnt ≤ 3
  n0 : 0 ≤ s.near
  n1 : s.near ≤ 3
  f0 : 0 ≤ s.far
  f1 : s.far ≤ 1
  a0 : -1 ≤ s.o0
  a1 : s.o0 ≤ 1
  b0 : -1 ≤ s.o1
  b1 : s.o1 ≤ 1
  d0 : -1 ≤ s.o2
  d1 : s.o2 ≤ 1
theorem StOk.zero : StOk St.zero := by constructor <;> decide
theorem StOk.set_ {s : St} (h : StOk s) (k : Nat) {g : Int} (h0 : -1 ≤ g) (h1 : g ≤ 1) : StOk (s.set k g) := by
  obtain ⟨a1, a2, a3, a4, a5, a6, a7, a8, a9, a10, a11, a12⟩ := h
  match k with
  | 0 => constructor <;> assumption
  | 1 => constructor <;> assumption
  | k + 2 => constructor <;> assumption
/-- what owe returns -/
def OweQ (o : Option St) (e : Ending) : Prop := (∃ s, o = some s ∧ e = .returned (.tuple #[stV s, .bool true])) ∨ (o = none ∧ ∃ s, e = .returned (.tuple #[stV s, .bool false]))
theorem OweQ.no {o : Option St} (s : St) {v : Value} (h : o = none) (hv : v = stV s) : OweQ o (.returned (.tuple #[v, .bool false])) := .inr ⟨h, s, by rw [hv]⟩
end Go.Proofs.YtiopgbbggeimaaaGreat

/-
  The search for the lists that a rule turns into a given one, in plain words: it finds what the reference finds by trying all lists, in the same order.
-/
namespace Go.Proofs.YtiopgbbggeimaaaGreat
structure Pl where
  s : St
  at_ : Nat
  left : Nat
  deriving DecidableEq
def stepAt (w : List Int) (a : Nat) (o : Int) : Option Nat := if o = 0 then some a else if w[a]? = some o then some (a + 1) else none
def stepO (w : List Int) (p : Pl) (x : Int × St) : Option Pl := (stepAt w p.at_ x.1).map fun a => ⟨x.2, a, p.left - 1⟩
def stepP (I : List PPh) (R : PRule) (w : List Int) (p : Pl) (g : Int) : List Pl := (nextM I R p.s g).filterMap (stepO w p)
def doneP (R : PRule) (w : List Int) (p : Pl) : Bool := decide (p.at_ = w.length) && endM R p.s
def canL (I : List PPh) (R : PRule) (w : List Int) : Nat → St → Nat → Bool
  | 0, s, a => doneP R w ⟨s, a, 0⟩
  | k + 1, s, a => doneP R w ⟨s, a, 0⟩ || (decide (w.length ≤ a + (k + 1)) && (List.range I.length).any fun (j : Nat) => (stepP I R w ⟨s, a, k + 1⟩ ((j : Int) + 1)).any fun q => canL I R w k q.s q.at_)
def canP (I : List PPh) (R : PRule) (w : List Int) (p : Pl) : Bool := canL I R w p.left p.s p.at_
theorem stepP_left {I : List PPh} {R : PRule} {w : List Int} {p q : Pl} {g : Int} (h : q ∈ stepP I R w p g) : q.left = p.left - 1 := by
  obtain ⟨x, _, hx⟩ := List.mem_filterMap.1 h
  unfold stepO at hx
  cases hs : stepAt w p.at_ x.1 with
  | none => rw [hs] at hx; cases hx
  | some a => rw [hs] at hx; injection hx with hx; rw [← hx]
theorem any_congr_mem {α : Type} {l : List α} {f g : α → Bool} (h : ∀ x ∈ l, f x = g x) : l.any f = l.any g := by
  induction l with
  | nil => rfl
  | cons a l ih => rw [List.any_cons, List.any_cons, h a (by simp), ih fun x hx => h x (by simp [hx])]
def canN (I : List PPh) (R : PRule) (w : List Int) (p : Pl) (n : Nat) : Bool := (List.range n).any fun (j : Nat) => (stepP I R w p ((j : Int) + 1)).any (canP I R w)
theorem canP_zero (I : List PPh) (R : PRule) (w : List Int) (p : Pl) (h : p.left = 0) : canP I R w p = doneP R w p := by
  unfold canP; rw [h, canL]; rfl
theorem canP_succ (I : List PPh) (R : PRule) (w : List Int) (p : Pl) (h : p.left ≠ 0) : canP I R w p = (doneP R w p || (decide (w.length ≤ p.at_ + p.left) && canN I R w p I.length)) := by
  obtain ⟨s, a, k⟩ := p
  cases k with
  | zero => exact absurd rfl h
  | succ k =>
    show canL I R w (k + 1) s a = _
    have key : ((List.range I.length).any fun (j : Nat) => (stepP I R w ⟨s, a, k + 1⟩ ((j : Int) + 1)).any fun q => canL I R w k q.s q.at_) = canN I R w ⟨s, a, k + 1⟩ I.length := by
      unfold canN
      refine any_congr_mem fun j _ => any_congr_mem fun q hq => ?_
      have := stepP_left hq
      unfold canP
      rw [this]; rfl
    rw [canL, key]; rfl
def rng (I : List PPh) (v : List Int) : Prop := ∀ x ∈ v, isB I x = true
theorem accM_len (I : List PPh) (R : PRule) : ∀ (v : List Int) (s : St) (out : List Int), accM I R s v out → out.length ≤ v.length
  | [], s, out, h => by rw [h.2]; exact Nat.le_refl _
  | x :: v, s, out, h => by
    obtain ⟨p, _, o, rfl, h2⟩ := h
    have := accM_len I R v _ _ h2
    have hs : (sym p.1).length ≤ 1 := by unfold sym; split <;> simp
    simp; omega
theorem step_at {w : List Int} {a : Nat} {o : Int} (ha : a ≤ w.length) (P : List Int → Prop) : (∃ u, w.drop a = sym o ++ u ∧ P u) ↔ ∃ b, stepAt w a o = some b ∧ b ≤ w.length ∧ P (w.drop b) := by
  unfold stepAt sym
  by_cases h0 : o = 0
  · simp only [if_pos h0, List.nil_append]
    constructor
    · rintro ⟨u, rfl, h⟩; exact ⟨a, rfl, ha, h⟩
    · rintro ⟨b, e, _, h⟩; injection e with e; exact ⟨_, rfl, e ▸ h⟩
  · simp only [if_neg h0]
    constructor
    · rintro ⟨u, hu, h⟩
      have hl : a < w.length := by
        rcases Nat.lt_or_ge a w.length with h' | h'
        · exact h'
        · rw [List.drop_of_length_le h'] at hu; cases hu
      rw [List.drop_eq_getElem_cons hl] at hu
      have e1 := (List.cons.inj hu).1
      have e2 : w.drop (a + 1) = u := (List.cons.inj hu).2
      rw [if_pos (by rw [List.getElem?_eq_getElem hl, e1])]
      exact ⟨a + 1, rfl, hl, by rw [e2]; exact h⟩
    · rintro ⟨b, e, hb, h⟩
      by_cases hw : w[a]? = some o
      · rw [if_pos hw] at e
        injection e with e
        obtain ⟨hl, e1⟩ := List.getElem?_eq_some_iff.1 hw
        refine ⟨w.drop (a + 1), ?_, by rw [e]; exact h⟩
        rw [List.drop_eq_getElem_cons hl, e1]; rfl
      · rw [if_neg hw] at e; cases e
theorem acc_step {I : List PPh} {R : PRule} {w : List Int} {p : Pl} (ha : p.at_ ≤ w.length) (x : Int) (v : List Int) :
    accM I R p.s (x :: v) (w.drop p.at_) ↔ ∃ q, q ∈ stepP I R w p x ∧ accM I R q.s v (w.drop q.at_) := by
  constructor
  · rintro ⟨m, hm, h⟩
    obtain ⟨b, hb, hb2, hb3⟩ := (step_at ha (fun u => accM I R m.2 v u)).1 h
    exact ⟨⟨m.2, b, p.left - 1⟩, List.mem_filterMap.2 ⟨m, hm, by rw [stepO, hb]; rfl⟩, hb3⟩
  · rintro ⟨q, hq, h⟩
    obtain ⟨m, hm, hx⟩ := List.mem_filterMap.1 hq
    unfold stepO at hx
    cases hs : stepAt w p.at_ m.1 with
    | none => rw [hs] at hx; cases hx
    | some b =>
      rw [hs] at hx
      injection hx with hx
      subst hx
      have hb : b ≤ w.length := by
        unfold stepAt at hs
        split at hs
        · injection hs with hs; omega
        · split at hs
          · rename_i hw
            obtain ⟨hl, _⟩ := List.getElem?_eq_some_iff.1 hw
            injection hs with hs; omega
          · cases hs
      exact ⟨m, hm, (step_at ha (fun u => accM I R m.2 v u)).2 ⟨b, hs, hb, h⟩⟩
theorem stepP_at {I : List PPh} {R : PRule} {w : List Int} {p q : Pl} {g : Int} (ha : p.at_ ≤ w.length) (h : q ∈ stepP I R w p g) : q.at_ ≤ w.length := by
  obtain ⟨m, hm, hx⟩ := List.mem_filterMap.1 h
  unfold stepO at hx
  cases hs : stepAt w p.at_ m.1 with
  | none => rw [hs] at hx; cases hx
  | some b =>
    rw [hs] at hx
    injection hx with hx
    subst hx
    unfold stepAt at hs
    split at hs
    · injection hs with hs; show b ≤ _; omega
    · split at hs
      · rename_i hw
        obtain ⟨hl, _⟩ := List.getElem?_eq_some_iff.1 hw
        injection hs with hs; show b ≤ _; omega
      · cases hs
theorem done_iff {I : List PPh} {R : PRule} {w : List Int} {p : Pl} (ha : p.at_ ≤ w.length) : doneP R w p = true ↔ accM I R p.s [] (w.drop p.at_) := by
  rw [doneP, Bool.and_eq_true, decide_eq_true_iff]
  constructor
  · rintro ⟨h1, h2⟩; exact ⟨h2, by rw [h1, List.drop_length]⟩
  · rintro ⟨h1, h2⟩
    have := congrArg List.length h2
    simp at this
    exact ⟨by omega, h1⟩
theorem isB_of {I : List PPh} {x : Int} (h : isB I x = true) : ∃ j : Nat, j < I.length ∧ x = (j : Int) + 1 := by
  simp only [isB, Bool.and_eq_true, decide_eq_true_iff] at h
  exact ⟨(x - 1).toNat, by omega, by omega⟩
theorem isB_succ {I : List PPh} {j : Nat} (h : j < I.length) : isB I ((j : Int) + 1) = true := by
  simp only [isB, Bool.and_eq_true, decide_eq_true_iff]; omega
theorem can_iff (I : List PPh) (R : PRule) (w : List Int) : ∀ (k : Nat) (p : Pl), p.left = k → p.at_ ≤ w.length → (canP I R w p = true ↔ ∃ v, v.length ≤ k ∧ rng I v ∧ accM I R p.s v (w.drop p.at_))
  | 0, p, hk, ha => by
    rw [canP_zero I R w p hk, done_iff (I := I) ha]
    constructor
    · intro h; exact ⟨[], Nat.le_refl _, fun x hx => (nomatch hx), h⟩
    · rintro ⟨v, hv, _, h⟩
      rw [List.length_eq_zero_iff.1 (Nat.le_zero.1 hv)] at h
      exact h
  | k + 1, p, hk, ha => by
    rw [canP_succ I R w p (by omega), Bool.or_eq_true, Bool.and_eq_true, decide_eq_true_iff, done_iff (I := I) ha, canN]
    simp only [List.any_eq_true, List.mem_range]
    constructor
    · rintro (h | ⟨_, j, hj, q, hq, hc⟩)
      · exact ⟨[], Nat.zero_le _, fun x hx => (nomatch hx), h⟩
      · obtain ⟨v, hv, hr, h⟩ := (can_iff I R w k q (by rw [stepP_left hq, hk]; rfl) (stepP_at ha hq)).1 hc
        refine ⟨((j : Int) + 1) :: v, by simpa using hv, fun x hx => ?_, (acc_step ha _ v).2 ⟨q, hq, h⟩⟩
        rcases List.mem_cons.1 hx with rfl | hx
        · exact isB_succ hj
        · exact hr x hx
    · rintro ⟨v, hv, hr, h⟩
      cases v with
      | nil => exact .inl h
      | cons x v =>
        right
        have hl := accM_len I R _ _ _ h
        rw [List.length_drop] at hl
        refine ⟨by simp at hl hv; omega, ?_⟩
        obtain ⟨j, hj, rfl⟩ := isB_of (hr x (by simp))
        obtain ⟨q, hq, h2⟩ := (acc_step ha _ v).1 h
        exact ⟨j, hj, q, hq, (can_iff I R w k q (by rw [stepP_left hq, hk]; rfl) (stepP_at ha hq)).2 ⟨v, by simpa using hv, fun y hy => hr y (by simp [hy]), h2⟩⟩
/-- the places behind some places -/
def nextS (I : List PPh) (R : PRule) (w : List Int) (l : List Pl) (g : Int) : List Pl := (l.flatMap fun p => stepP I R w p g).filter (canP I R w)
def fromK (rec : List Int → List (List Int)) (u : List Int) (n : Nat) : List (List Int) := (List.range n).flatMap fun (j : Nat) => rec (u ++ [(j : Int) + 1])
def fromLQ (I : List PPh) (R : PRule) (w : List Int) : Nat → List Int → List (List Int)
  | 0, u => if applyF I R u = w then [u] else []
  | k + 1, u => (if applyF I R u = w then [u] else []) ++ fromK (fromLQ I R w k) u I.length
theorem from_mem (I : List PPh) (R : PRule) (w : List Int) : ∀ (k : Nat) (u x : List Int), x ∈ fromLQ I R w k u ↔ ∃ v, v.length ≤ k ∧ rng I v ∧ x = u ++ v ∧ applyF I R x = w
  | 0, u, x => by
    rw [fromLQ]
    constructor
    · intro h
      split at h
      · rename_i ha
        rw [List.mem_singleton.1 h]
        exact ⟨[], Nat.le_refl _, fun x hx => (nomatch hx), by simp, ha⟩
      · cases h
    · rintro ⟨v, hv, _, rfl, h⟩
      rw [List.length_eq_zero_iff.1 (Nat.le_zero.1 hv), List.append_nil] at h ⊢
      rw [if_pos h]; simp
  | k + 1, u, x => by
    rw [fromLQ, List.mem_append, fromK, List.mem_flatMap]
    constructor
    · rintro (h | ⟨j, hj, h⟩)
      · split at h
        · rename_i ha
          rw [List.mem_singleton.1 h]
          exact ⟨[], Nat.zero_le _, fun x hx => (nomatch hx), by simp, ha⟩
        · cases h
      · obtain ⟨v, hv, hr, rfl, h2⟩ := (from_mem I R w k _ x).1 h
        refine ⟨((j : Int) + 1) :: v, by simpa using hv, fun x hx => ?_, by simp, h2⟩
        rcases List.mem_cons.1 hx with rfl | hx
        · exact isB_succ (List.mem_range.1 hj)
        · exact hr x hx
    · rintro ⟨v, hv, hr, rfl, h⟩
      cases v with
      | nil => left; rw [List.append_nil] at h ⊢; rw [if_pos h]; simp
      | cons y v =>
        right
        obtain ⟨j, hj, rfl⟩ := isB_of (hr y (by simp))
        exact ⟨j, List.mem_range.2 hj, (from_mem I R w k _ _).2 ⟨v, by simpa using hv, fun y hy => hr y (by simp [hy]), by simp, h⟩⟩
def Trk (I : List PPh) (R : PRule) (w : List Int) (k : Nat) (word : List Int) (l : List Pl) : Prop :=
  (∀ p ∈ l, p.left = k ∧ p.at_ ≤ w.length) ∧ ∀ v, v.length ≤ k → rng I v → ((∃ p, p ∈ l ∧ accM I R p.s v (w.drop p.at_)) ↔ applyF I R (word ++ v) = w)
theorem Trk.done {I : List PPh} {R : PRule} {w : List Int} {k : Nat} {word : List Int} {l : List Pl} (h : Trk I R w k word l) : l.any (doneP R w) = true ↔ applyF I R word = w := by
  have := h.2 [] (Nat.zero_le _) (fun x hx => (nomatch hx))
  rw [List.append_nil] at this
  rw [← this, List.any_eq_true]
  constructor
  · rintro ⟨p, hp, hd⟩; exact ⟨p, hp, (done_iff (h.1 p hp).2).1 hd⟩
  · rintro ⟨p, hp, hd⟩; exact ⟨p, hp, (done_iff (h.1 p hp).2).2 hd⟩
theorem Trk.step {I : List PPh} {R : PRule} {w : List Int} {k : Nat} {word : List Int} {l : List Pl} (h : Trk I R w (k + 1) word l) {j : Nat} (hj : j < I.length) : Trk I R w k (word ++ [(j : Int) + 1]) (nextS I R w l ((j : Int) + 1)) := by
  have hq : ∀ q, q ∈ (l.flatMap fun p => stepP I R w p ((j : Int) + 1)) → q.left = k ∧ q.at_ ≤ w.length := by
    intro q hq
    obtain ⟨p, hp, hs⟩ := List.mem_flatMap.1 hq
    exact ⟨by rw [stepP_left hs, (h.1 p hp).1]; rfl, stepP_at (h.1 p hp).2 hs⟩
  refine ⟨fun q hm => hq q (List.mem_filter.1 hm).1, fun v hv hr => ?_⟩
  rw [List.append_assoc, List.singleton_append, ← h.2 (((j : Int) + 1) :: v) (by simpa using hv) (fun x hx => by
    rcases List.mem_cons.1 hx with rfl | hx
    · exact isB_succ hj
    · exact hr x hx)]
  constructor
  · rintro ⟨q, hm, ha⟩
    obtain ⟨p, hp, hs⟩ := List.mem_flatMap.1 (List.mem_filter.1 hm).1
    exact ⟨p, hp, (acc_step (h.1 p hp).2 _ v).2 ⟨q, hs, ha⟩⟩
  · rintro ⟨p, hp, ha⟩
    obtain ⟨q, hs, ha⟩ := (acc_step (h.1 p hp).2 _ v).1 ha
    have hm : q ∈ l.flatMap fun p => stepP I R w p ((j : Int) + 1) := List.mem_flatMap.2 ⟨p, hp, hs⟩
    exact ⟨q, List.mem_filter.2 ⟨hm, (can_iff I R w k q (hq q hm).1 (hq q hm).2).2 ⟨v, hv, hr, ha⟩⟩, ha⟩
theorem Trk.none {I : List PPh} {R : PRule} {w : List Int} {k : Nat} {word : List Int} (h : Trk I R w k word []) : fromLQ I R w k word = [] := by
  rw [List.eq_nil_iff_forall_not_mem]
  intro x hx
  obtain ⟨v, hv, hr, rfl, h2⟩ := (from_mem I R w k word x).1 hx
  obtain ⟨p, hp, _⟩ := (h.2 v hv hr).2 h2
  cases hp
end Go.Proofs.YtiopgbbggeimaaaGreat

/-
  Rows of structs, whatever their type; next of the machine.
-/
namespace Go.Proofs.YtiopgbbggeimaaaGreat
open Go.ChangeShapes Go.WideShapes Go.ChangeAt Go.RowKit
theorem flatN_at {α : Type} (f : α → List Value) (n : Nat) (hf : ∀ a, (f a).length = n) : ∀ (l : List α) (k : Nat) (h : k < l.length) (j : Nat), j < n → (l.flatMap f)[k * n + j]? = (f l[k])[j]?
  | x :: l, 0, _, j, hj => by
    rw [List.flatMap_cons, Nat.zero_mul, Nat.zero_add, List.getElem?_append_left (by rw [hf]; exact hj)]; rfl
  | x :: l, k + 1, h, j, hj => by
    have ih := flatN_at f n hf l k (by simpa using h) j hj
    rw [List.flatMap_cons, List.getElem?_append_right (by rw [hf, Nat.succ_mul]; omega), hf, show (k + 1) * n + j - n = k * n + j by rw [Nat.succ_mul]; omega, ih]
    rfl
/-- a move -/
def mvC (p : Int × St) : List Value := [.int .i64 p.1, .int .i64 p.2.cnt, .int .u8 p.2.near, .int .u8 p.2.far, .int .i8 p.2.o0, .int .i8 p.2.o1, .int .i8 p.2.o2]
theorem mvC_len (p : Int × St) : (mvC p).length = 7 := rfl
def RdMv (w : World) (v : Value) (l : List (Int × St)) : Prop := Rd w 7 v l.length (l.flatMap mvC)
theorem RdMv.below {w w' : World} {v : Value} {l : List (Int × St)} (h : RdMv w v l) (hb : Below w.heap.size w w') : RdMv w' v l := Rd.below h hb
theorem RdMv.nil (w : World) : RdMv w (.slice none 0 0) [] := ⟨none, 0, rfl, by simp, by decide, rfl, fun h => absurd h (Nat.lt_irrefl 0)⟩
def MvAt (w : World) (A : Option Addr) (l : List (Int × St)) (k : Nat) : Prop :=
  ∃ b off p, A = some ⟨b, off, none⟩ ∧ b < w.heap.size ∧ Hid (l.drop k = p :: l.drop (k + 1)) ∧ w.cell? ⟨b, off + k * 7, none⟩ = some (.int .i64 p.1) ∧ w.cell? ⟨b, off + k * 7 + 1, none⟩ = some (.int .i64 p.2.cnt) ∧ w.cell? ⟨b, off + k * 7 + 2, none⟩ = some (.int .u8 p.2.near) ∧
    w.cell? ⟨b, off + k * 7 + 3, none⟩ = some (.int .u8 p.2.far) ∧ w.cell? ⟨b, off + k * 7 + 4, none⟩ = some (.int .i8 p.2.o0) ∧ w.cell? ⟨b, off + k * 7 + 5, none⟩ = some (.int .i8 p.2.o1) ∧ w.cell? ⟨b, off + k * 7 + 6, none⟩ = some (.int .i8 p.2.o2)
theorem RdMv.op {w : World} {v : Value} {l : List (Int × St)} (h : RdMv w v l) : ∃ (A : Option Addr) (n c : Nat), v = .slice A n c ∧ n ≤ c ∧ c ≤ 9223372036854775807 ∧ Hid (l.length = n) ∧ Hid (∀ k, k < n → MvAt w A l k) := by
  obtain ⟨A, c, rfl, h1, h2, h3, h4⟩ := h
  refine ⟨A, _, c, rfl, h1, h2, rfl, fun k hk => ?_⟩
  obtain ⟨b, off, rfl, hb, hc⟩ := h4 (by omega)
  have hj : ∀ j u, j < 7 → (mvC l[k])[j]? = some u → w.cell? ⟨b, off + k * 7 + j, none⟩ = some u := fun j u hj hu => by
    rw [Nat.add_assoc]
    exact hc (k * 7 + j) u ((flatN_at mvC 7 mvC_len l k hk j hj).trans hu)
  exact ⟨b, off, l[k], rfl, hb, List.drop_eq_getElem_cons hk, hj 0 _ (by omega) rfl, hj 1 _ (by omega) rfl, hj 2 _ (by omega) rfl, hj 3 _ (by omega) rfl, hj 4 _ (by omega) rfl, hj 5 _ (by omega) rfl, hj 6 _ (by omega) rfl⟩
theorem MvAt.below {w w' : World} {A : Option Addr} {l : List (Int × St)} {k : Nat} (h : MvAt w A l k) (hb : Below w.heap.size w w') : MvAt w' A l k := by
  obtain ⟨b, off, p, rfl, h1, h2, c0, c1, c2, c3, c4, c5, c6⟩ := h
  exact ⟨b, off, p, rfl, by have := hb.size; omega, h2, (hb.cell h1).trans c0, (hb.cell h1).trans c1, (hb.cell h1).trans c2, (hb.cell h1).trans c3, (hb.cell h1).trans c4, (hb.cell h1).trans c5, (hb.cell h1).trans c6⟩
end Go.Proofs.YtiopgbbggeimaaaGreat

/-
  Lists of rules in memory; Run, Last of both sides; the reference's Same of lists of lists, List, Few.
-/
namespace Go.Proofs.YtiopgbbggeimaaaGreat
open Go.ChangeShapes Go.WideShapes Go.ChangeAt Go.RowKit
def RAt (w : World) (A : Option Addr) (Rs : List PRule) (k : Nat) : Prop :=
  ∃ b off vf vt vl vr R, A = some ⟨b, off, none⟩ ∧ b < w.heap.size ∧ Hid (Rs.drop k = R :: Rs.drop (k + 1)) ∧
    (w.cell? ⟨b, off + k * 6, none⟩ = some vf ∧ w.cell? ⟨b, off + k * 6 + 1, none⟩ = some vt ∧ w.cell? ⟨b, off + k * 6 + 2, none⟩ = some vl ∧ w.cell? ⟨b, off + k * 6 + 3, none⟩ = some vr ∧ w.cell? ⟨b, off + k * 6 + 4, none⟩ = some (.bool R.beg) ∧ w.cell? ⟨b, off + k * 6 + 5, none⟩ = some (.bool R.fin)) ∧
    Hid (RdR w (.agg #[vf, vt, vl, vr, .bool R.beg, .bool R.fin]) R)
def RdRs (w : World) (v : Value) (Rs : List PRule) : Prop := ∃ (A : Option Addr) (n c : Nat), v = .slice A n c ∧ n ≤ c ∧ c ≤ 9223372036854775807 ∧ Hid (Rs.length = n) ∧ Hid (∀ k, k < n → RAt w A Rs k)
theorem RAt.below {w w' : World} {A : Option Addr} {Rs : List PRule} {k : Nat} (h : RAt w A Rs k) (hb : Below w.heap.size w w') : RAt w' A Rs k := by
  obtain ⟨b, off, vf, vt, vl, vr, R, rfl, h1, h2, ⟨e0, e1, e2, e3, e4, e5⟩, h3⟩ := h
  exact ⟨b, off, vf, vt, vl, vr, R, rfl, by have := hb.size; omega, h2, ⟨(hb.cell h1).trans e0, (hb.cell h1).trans e1, (hb.cell h1).trans e2, (hb.cell h1).trans e3, (hb.cell h1).trans e4, (hb.cell h1).trans e5⟩, h3.out.below hb⟩
theorem RdRs.below {w w' : World} {v : Value} {Rs : List PRule} (h : RdRs w v Rs) (hb : Below w.heap.size w w') : RdRs w' v Rs := by
  obtain ⟨A, n, c, rfl, h1, h2, h3, h4⟩ := h
  exact ⟨A, n, c, rfl, h1, h2, h3, fun k hk => (h4.out k hk).below hb⟩
/-- what the first k rules make of a list -/
def lastK (I : List PPh) (Rs : List PRule) (l : List Int) (k : Nat) : List Int := (Rs.take k).foldl (fun x R => applyF I R x) l
def lastF (I : List PPh) (Rs : List PRule) (l : List Int) : List Int := lastK I Rs l Rs.length
theorem lastK_succ (I : List PPh) {Rs : List PRule} (l : List Int) {k : Nat} {R : PRule} (h : Rs.drop k = R :: Rs.drop (k + 1)) : lastK I Rs l (k + 1) = applyF I R (lastK I Rs l k) := by
  have hk : k < Rs.length := by
    rcases Nat.lt_or_ge k Rs.length with h' | h'
    · exact h'
    · rw [List.drop_of_length_le h'] at h; cases h
  rw [List.drop_eq_getElem_cons hk] at h
  rw [lastK, List.take_succ_eq_append_getElem hk, (List.cons.inj h).1, List.foldl_append]
  rfl
theorem applyF_len (I : List PPh) (R : PRule) (l : List Int) : (applyF I R l).length ≤ l.length := applyK_len I R l l.length
theorem sym_nz (x y : Int) (h : y ∈ sym x) : y ≠ 0 := by
  unfold sym at h
  split at h
  · simp at h
  · rename_i hx; simp at h; rw [h]; exact hx
theorem applyK_nz (I : List PPh) (R : PRule) (l : List Int) : ∀ k : Nat, ∀ x ∈ applyK I R l k, x ≠ 0
  | 0 => by simp [applyK]
  | k + 1 => by
    rw [applyK_succ]
    intro x hx
    rcases List.mem_append.1 hx with h | h
    · exact applyK_nz I R l k x h
    · exact sym_nz _ _ h
theorem lastK_len (I : List PPh) (Rs : List PRule) (l : List Int) : ∀ k : Nat, (lastK I Rs l k).length ≤ l.length
  | 0 => by simp [lastK]
  | k + 1 => by
    rcases Nat.lt_or_ge k Rs.length with h | h
    · rw [lastK_succ I l (List.drop_eq_getElem_cons h)]
      exact Nat.le_trans (applyF_len _ _ _) (lastK_len I Rs l k)
    · have := lastK_len I Rs l k
      rw [lastK, List.take_of_length_le h] at this
      rwa [lastK, List.take_of_length_le (by omega)]
theorem lastK_nz (I : List PPh) (Rs : List PRule) (l : List Int) (hl : ∀ x ∈ l, x ≠ 0) : ∀ k : Nat, ∀ x ∈ lastK I Rs l k, x ≠ 0
  | 0 => by simpa [lastK] using hl
  | k + 1 => by
    rcases Nat.lt_or_ge k Rs.length with h | h
    · rw [lastK_succ I l (List.drop_eq_getElem_cons h)]
      exact applyK_nz _ _ _ _
    · have := lastK_nz I Rs l hl k
      rw [lastK, List.take_of_length_le h] at this
      rwa [lastK, List.take_of_length_le (by omega)]
structure RsOk (Rs : List PRule) : Prop where
  ok : ∀ R ∈ Rs, ROk R
  nd : ∀ R ∈ Rs, R.fr.Nodup
  len : Rs.length ≤ 1000000
theorem RsOk.at {Rs : List PRule} (_ : RsOk Rs) {k : Nat} {R : PRule} {r : List PRule} (hd : Rs.drop k = R :: r) : R ∈ Rs := List.mem_of_mem_drop (by rw [hd]; exact List.mem_cons_self)
theorem rdI_slice {w : World} {v : Value} {l : List Int} (h : RdI w v l) : ∃ A n c, v = .slice A n c := by
  obtain ⟨A, n, c, rfl, _⟩ := h.op
  exact ⟨A, n, c, rfl⟩
theorem rdR_form {w : World} {vf vt vl vr : Value} {x y : Bool} {R : PRule} (h : RdR w (.agg #[vf, vt, vl, vr, .bool x, .bool y]) R) :
    ∃ (A1 : Option Addr) (n1 c1 : Nat) (A2 : Option Addr) (n2 c2 : Nat) (A3 : Option Addr) (n3 c3 : Nat) (A4 : Option Addr) (n4 c4 : Nat), vf = .slice A1 n1 c1 ∧ vt = .slice A2 n2 c2 ∧ vl = .slice A3 n3 c3 ∧ vr = .slice A4 n4 c4 := by
  obtain ⟨a, b, c, d, he, hf, ht, hl, hg⟩ := h
  injection he with he
  simp only [Array.mk.injEq, List.cons.injEq] at he
  obtain ⟨rfl, rfl, rfl, rfl, _⟩ := he
  obtain ⟨A1, n1, c1, rfl, _⟩ := hf.op
  obtain ⟨A2, n2, c2, rfl, _⟩ := ht.op
  obtain ⟨A3, n3, c3, rfl, _⟩ := hl.op
  obtain ⟨A4, n4, c4, rfl, _⟩ := hg.op
  exact ⟨_, _, _, _, _, _, _, _, _, _, _, _, rfl, rfl, rfl, rfl⟩
end Go.Proofs.YtiopgbbggeimaaaGreat

/-
  The reference's List, Same of lists of lists, Few.
-/
namespace Go.Proofs.YtiopgbbggeimaaaGreat
open Go.ChangeShapes Go.WideShapes Go.ChangeAt Go.RowKit
def listB (I : List PPh) (l : List Int) : Bool := l.all (isB I) && decide (l.length ≤ 24)
theorem all_take_succ {α : Type} {p : α → Bool} {l : List α} {k : Nat} {x : α} (h : l.drop k = x :: l.drop (k + 1)) : (l.take (k + 1)).all p = ((l.take k).all p && p x) := by
  have hk : k < l.length := by
    rcases Nat.lt_or_ge k l.length with h' | h'
    · exact h'
    · rw [List.drop_of_length_le h'] at h; cases h
  rw [List.drop_eq_getElem_cons hk] at h
  rw [List.take_succ_eq_append_getElem hk, (List.cons.inj h).1, List.all_append]
  simp
theorem all_no {α : Type} {p : α → Bool} {l : List α} {k : Nat} {x : α} {r : List α} (h : l.drop k = x :: r) (hx : p x = false) : l.all p = false := by
  rw [← Bool.not_eq_true, List.all_eq_true]
  intro hh
  have := hh x (List.mem_of_mem_drop (by rw [h]; exact List.mem_cons_self))
  rw [hx] at this; cases this
end Go.Proofs.YtiopgbbggeimaaaGreat

/-
  Last of both sides.
-/
namespace Go.Proofs.YtiopgbbggeimaaaGreat
open Go.ChangeShapes Go.WideShapes Go.ChangeAt Go.RowKit
set_option maxHeartbeats 4000000 in
set_option maxRecDepth 100000 in
theorem plast_any (v vr vw : Value) (I : List PPh) (Rs : List PRule) (l : List Int) (w : World) (hv : RdVQ w v I) (hr : RdRs w vr Rs) (hw : RdI w vw l) (hro : RsOk Rs) (hln : l.length ≤ 1000000) (hnz : ∀ x ∈ l, x ≠ 0) :
    Calls Tryz.prog 20 #[v, vr, vw] w fun e w' => (∃ v', e = .returned v' ∧ RdI w' v' (lastF I Rs l)) ∧ Below w.heap.size w w' := by
  obtain ⟨u, rfl, hp⟩ := id hv
  obtain ⟨A0, n0, c0, rfl, _, _, _, _⟩ := hp.op
  obtain ⟨A, n, c, rfl, hnc, _, HN, HR⟩ := hr
  obtain ⟨Aw, nw, cw, rfl⟩ := rdI_slice hw
  have HV := Lib.hid hv
  have HW := Lib.hid hw
  have HRO := Lib.hid hro
  have HLN := Lib.hid hln
  have HNZ := Lib.hid hnz
  have HNL : Hid (n ≤ 1000000) := by rw [Hid, ← HN.out]; exact hro.len
  clear hw hro hnz hp hv hln
  go_enter Tryz.func20, Tryz.ntmps20
  go_wp2_with fail
  generalize hW : World.alloc w _ = W
  have HBW : Hid (Below w.heap.size w W) := by rw [← hW]; exact al_below _ _
  have HP : Hid (VBlk W w.heap.size (.slice A0 n0 c0)) := by rw [← hW]; exact heap_alloc_new w _
  clear hW
  go_loopw [2, 11] (fun v2 vi wr => ∃ k : Nat, k ≤ n ∧ vi = .int .i64 k ∧ Hid (RdI wr v2 (lastK I Rs l k)) ∧ Hid (Below W.heap.size W wr)) (fun _ vi _ => n - (intOf vi).toNat)
  case atStart => exact ⟨0, Nat.zero_le _, rfl, HW.out.below HBW.out, Below.refl _ _⟩
  case round =>
    obtain ⟨k, hk, rfl, HL, HBR⟩ := hrel
    obtain ⟨A2, n2, c2, rfl⟩ := rdI_slice HL.out
    have HBX := Lib.hid (bchain HBW.out HBR.out)
    by_cases hlt : k < n
    · obtain ⟨b, off, vf, vt, vl, vg, R, rfl, hb, HD, ⟨e0, e1, e2, e3, e4, e5⟩, HRR⟩ := (HR.out k hlt).below HBX.out
      have y0 := (HP.out.below HBR.out).cell
      have y1 := (HP.out.below HBR.out).lt
      have hk0 : (0 : Int) ≤ (k : Int) := by omega
      obtain ⟨A1, n1, c1, A3, n3, c3, A4, n4, c4, A5, n5, c5, rfl, rfl, rfl, rfl⟩ := rdR_form HRR.out
      go_wp2_with fail
      generalize hX : World.alloc wr _ = X
      have hbX : Below wr.heap.size wr X := by rw [← hX]; exact al_below _ _
      clear hX y0 y1 e0 e1 e2 e3 e4 e5
      refine (papply_any _ _ _ I R (lastK I Rs l k) _ (HV.out.below (bchain HBX.out hbX)) (HRR.out.below hbX) (HL.out.below hbX) (HRO.out.ok R (HRO.out.at HD.out)) (Nat.le_trans (lastK_len _ _ _ _) HLN.out) (lastK_nz _ _ _ HNZ.out _) ).mono ?_
      rintro e w1 ⟨⟨v1, rfl, ho1⟩, hb1⟩
      have hbx := bchain hbX hb1
      have HB1 := Lib.hid (bchain HBR.out hbx)
      obtain ⟨_, A1, c1, rfl⟩ := own_slice ho1
      have HZ1 : Hid (RdI w1 (.slice A1 (applyF I R (lastK I Rs l k)).length c1) (lastK I Rs l (k + 1))) := by rw [Hid, lastK_succ I l HD.out]; exact ho1.rd
      clear ho1 hbx
      go_wp2_with fail
      skip
      go_roundw
      case rel => exact ⟨k + 1, by omega, by go_num, HZ1.out, HB1.out⟩
      case measure => simp [intOf]; omega
    · obtain rfl : n = k := by omega
      have HOF : Hid (RdI wr (.slice A2 n2 c2) (lastF I Rs l)) := by rw [Hid, lastF, HN.out]; exact HL.out
      go_wp2_with fail
      go_ret
      exact ⟨⟨_, rfl, HOF.out⟩, HBX.out⟩
end Go.Proofs.YtiopgbbggeimaaaGreat

/-
  Put and Sorted of the first reference, at any list of small numbers.
-/
namespace Go.Proofs.YtiopgbbggeimaaaGreat
open Go.ChangeShapes Go.WideShapes Go.ChangeAt Go.RowKit
def putF : List Int → Int → List Int
  | [], x => [x]
  | y :: l, x => if y < x then y :: putF l x else if y = x then x :: l else x :: y :: l
theorem putF_cut {x : Int} : ∀ (l : List Int) (k : Nat), (∀ y ∈ l.take k, y < x) → putF l x = l.take k ++ putF (l.drop k) x
  | l, 0, _ => by simp
  | [], k + 1, _ => by simp
  | y :: l, k + 1, h => by
    rw [List.take_succ_cons, List.drop_succ_cons, List.cons_append, putF, if_pos (h y (by simp)), putF_cut l k fun z hz => h z (by simp [hz])]
theorem putF_mem {x z : Int} : ∀ {l : List Int}, z ∈ putF l x ↔ z = x ∨ z ∈ l
  | [] => by simp [putF]
  | y :: l => by
    rw [putF]
    split
    · rw [List.mem_cons, putF_mem, List.mem_cons]; constructor <;> (rintro (h | h | h) <;> simp [h])
    · split
      · rename_i h; subst h; simp
      · simp
theorem putF_up {x : Int} : ∀ {l : List Int}, l.Pairwise (· < ·) → (putF l x).Pairwise (· < ·)
  | [], _ => by simp [putF]
  | y :: l, h => by
    have h1 := List.pairwise_cons.1 h
    rw [putF]
    split
    · rename_i hy
      refine List.pairwise_cons.2 ⟨fun z hz => ?_, putF_up h1.2⟩
      rcases putF_mem.1 hz with rfl | hz
      · exact hy
      · exact h1.1 z hz
    · split
      · rename_i _ e; subst e; exact h
      · refine List.pairwise_cons.2 ⟨fun z hz => ?_, h⟩
        rcases List.mem_cons.1 hz with rfl | hz
        · omega
        · have := h1.1 z hz; omega
theorem putF_len {x : Int} : ∀ {l : List Int}, l.Pairwise (· < ·) → (putF l x).length = if x ∈ l then l.length else l.length + 1
  | [], _ => by simp [putF]
  | y :: l, h => by
    have h1 := List.pairwise_cons.1 h
    have ih := putF_len (x := x) h1.2
    rw [putF]
    split
    · rename_i hy
      rw [List.length_cons, ih]
      have : x ≠ y := by omega
      by_cases hm : x ∈ l
      · rw [if_pos hm, if_pos (by simp [hm])]; rfl
      · rw [if_neg hm, if_neg (by simp [hm, this])]; rfl
    · rename_i hy
      split
      · rename_i e; subst e; rw [if_pos (by simp)]
      · rename_i hne
        have hm : x ∉ y :: l := by
          intro hm
          rcases List.mem_cons.1 hm with e | hm
          · exact hne e.symm
          · have := h1.1 x hm; omega
        rw [if_neg hm]; rfl
def sortK (l : List Int) (k : Nat) : List Int := (l.take k).foldl putF []
def sortF (l : List Int) : List Int := sortK l l.length
theorem sortK_succ {l : List Int} {k : Nat} {x : Int} {r : List Int} (h : l.drop k = x :: r) : sortK l (k + 1) = putF (sortK l k) x := by
  have hk : k < l.length := by
    rcases Nat.lt_or_ge k l.length with h' | h'
    · exact h'
    · rw [List.drop_of_length_le h'] at h; cases h
  rw [List.drop_eq_getElem_cons hk] at h
  rw [sortK, List.take_succ_eq_append_getElem hk, (List.cons.inj h).1, List.foldl_append]
  rfl
theorem sortK_up (l : List Int) : ∀ k : Nat, (sortK l k).Pairwise (· < ·)
  | 0 => by simp [sortK]
  | k + 1 => by
    rcases Nat.lt_or_ge k l.length with h | h
    · rw [sortK_succ (List.drop_eq_getElem_cons h)]; exact putF_up (sortK_up l k)
    · have := sortK_up l k
      rw [sortK, List.take_of_length_le h] at this
      rwa [sortK, List.take_of_length_le (by omega)]
theorem sortK_mem (l : List Int) (z : Int) : ∀ k : Nat, z ∈ sortK l k ↔ z ∈ l.take k
  | 0 => by simp [sortK]
  | k + 1 => by
    rcases Nat.lt_or_ge k l.length with h | h
    · rw [sortK_succ (List.drop_eq_getElem_cons h), putF_mem, sortK_mem l z k, List.take_succ_eq_append_getElem h, List.mem_append, List.mem_singleton]
      exact or_comm
    · have := sortK_mem l z k
      rw [sortK, List.take_of_length_le h] at this
      rw [sortK, List.take_of_length_le (by omega)]
      exact this
theorem sortK_nodup (l : List Int) : ∀ k : Nat, k ≤ l.length → (sortK l k).length ≤ k ∧ ((sortK l k).length = k ↔ (l.take k).Nodup)
  | 0, _ => by simp [sortK]
  | k + 1, hk => by
    obtain ⟨h1, h2⟩ := sortK_nodup l k (by omega)
    rw [sortK_succ (List.drop_eq_getElem_cons (show k < l.length by omega)), putF_len (sortK_up l k), List.take_succ_eq_append_getElem (show k < l.length by omega)]
    have hm := sortK_mem l (l[k]'(by omega)) k
    by_cases hx : l[k]'(by omega) ∈ sortK l k
    · rw [if_pos hx]
      refine ⟨by omega, ⟨fun h => by omega, fun h => ?_⟩⟩
      exact absurd rfl ((List.nodup_append.1 h).2.2 _ (hm.1 hx) _ (by simp))
    · rw [if_neg hx]
      refine ⟨by omega, ?_⟩
      have : ((l.take k) ++ [l[k]'(by omega)]).Nodup ↔ (l.take k).Nodup := by
        rw [List.nodup_append]
        constructor
        · exact fun h => h.1
        · intro h
          refine ⟨h, by simp, fun a ha b hb => ?_⟩
          rw [List.mem_singleton.1 hb]
          intro e; exact hx (hm.2 (e ▸ ha))
      rw [this, ← h2]; omega
theorem sortF_nodup (l : List Int) : (sortF l).length ≤ l.length ∧ ((sortF l).length = l.length ↔ l.Nodup) := by
  have := sortK_nodup l l.length (Nat.le_refl _)
  rwa [List.take_of_length_le (Nat.le_refl _)] at this
/-- a strictly increasing list between 1 and n has at most n elements -/
theorem up_len {l : List Int} {n : Nat} (h : l.Pairwise (· < ·)) (hb : ∀ x ∈ l, 1 ≤ x ∧ x ≤ (n : Int)) : l.length ≤ n := by
  have hnd : l.Nodup := h.imp fun h => by omega
  have := nodup_le l ((List.range n).map fun (j : Nat) => (j : Int) + 1) hnd fun x hx => List.mem_map.2 ⟨(x - 1).toNat, List.mem_range.2 (by have := hb x hx; omega), by have := hb x hx; omega⟩
  simpa using this
theorem slice_one (A : Option Addr) (n c lo : Nat) (h1 : lo ≤ n) (W : World) : (Instr.slice 31 (.slice A n c) (some (.int .i64 (lo : Int))) none none).run Tryz.prog W = .ok (.slice (if c = lo then A else A.map (·.add lo)) (n - lo) (c - lo)) W := by
  obtain ⟨i0, hi0, hz0, hz1, hz2⟩ := info_parts infoI0
  have he : Tryz.prog.elem 31 = 3 := by kernel_rfl
  have hs : (Go.sizeOf (Tryz.prog.elem 31)).run Tryz.prog W = .ok 1 W := by rw [he]; simp [Go.sizeOf, typeInfo, hi0, hz1]
  rw [run_slice_l W _ _ _ _ (by kernel_rfl) .i64 _ (by omega) (by omega), hs]
  simp [Result.andThen, sliced]
theorem slice_at_one (A : Option Addr) (n c lo : Nat) (h1 : lo ≤ n) (W : World) : (Instr.sliceAt 31 (.slice A n c) (some (.int .i64 (lo : Int))) none none).run Tryz.prog W = .ok (.slice (if c = lo then A else A.map (·.add lo)) (n - lo) (c - lo)) W := by
  rw [run_sliceAt_slice W _ _ _ _ _ (by kernel_rfl), slice_one A n c lo h1]
theorem rest_of {w : World} {A : Option Addr} {n c : Nat} {xs : List Int} (h : RdI w (.slice A n c) xs) (lo : Nat) (h1 : lo ≤ n) : ∃ (B : Option Addr) (m k : Nat), RdI w (.slice B m k) (xs.drop lo) ∧
    (∀ W, (Instr.slice 31 (.slice A n c) (some (.int .i64 (lo : Int))) none none).run Tryz.prog W = .ok (.slice B m k) W) ∧
    (∀ W, (Instr.sliceAt 31 (.slice A n c) (some (.int .i64 (lo : Int))) none none).run Tryz.prog W = .ok (.slice B m k) W) :=
  ⟨_, _, _, RdI.drop h h1, fun W => slice_one A n c lo h1 W, fun W => slice_at_one A n c lo h1 W⟩
set_option maxHeartbeats 4000000 in
set_option maxRecDepth 100000 in
theorem put_any (v : Value) (l : List Int) (x : Int) (w : World) (hv : RdI w v l) (hln : l.length ≤ 1000000) :
    Calls Tryz.prog 119 #[v, .int .i64 x] w fun e w' => (∃ v', e = .returned v' ∧ OwnI w' w.heap.size v' (putF l x)) ∧ Below w.heap.size w w' := by
  obtain ⟨A, n, c, rfl, hnc, hcm, HN, HR⟩ := hv.op
  have HV := Lib.hid hv
  have HLN : Hid (n ≤ 1000000) := by rw [Hid, ← HN.out]; exact hln
  clear hv hln
  go_enter Tryz.func119, Tryz.ntmps119
  go_wp2_with fail
  go_loopw [5, 6] (fun v5 vi wr => ∃ k : Nat, k ≤ n ∧ vi = .int .i64 k ∧ Hid (∀ y ∈ l.take k, y < x) ∧ Hid (OwnI wr w.heap.size v5 (l.take k)) ∧ Hid (Below w.heap.size w wr)) (fun _ vi _ => n - (intOf vi).toNat)
  case atStart => exact ⟨0, Nat.zero_le _, rfl, fun y hy => (nomatch hy), World.ownsRow_nil _ _ _ _, Below.refl _ _⟩
  case round =>
    obtain ⟨k, hk, rfl, HA, HO, HBR⟩ := hrel
    obtain ⟨_, A5, c5, h5⟩ := own_slice HO.out
    have hlk : (l.take k).length = k := by rw [List.length_take, HN.out]; omega
    rw [hlk] at h5
    subst h5
    have hk0 : (0 : Int) ≤ (k : Int) := by omega
    have hsum : (l.take k ++ [x]).length + (l.drop k).length ≤ 300000000 := by
      have := HLN.out
      rw [List.length_append, hlk, List.length_drop, HN.out]; simp; omega
    have hsum1 : (l.take k ++ [x]).length + (l.drop (k + 1)).length ≤ 300000000 := by
      have := HLN.out
      rw [List.length_append, hlk, List.length_drop, HN.out]; simp; omega
    have hcut := putF_cut l k HA.out
    have HLK := Lib.hid hlk
    clear hlk
    by_cases hlt : k < n
    · obtain ⟨b, off, y, rfl, hb0, hd, c0⟩ := HR.out k hlt
      have e0 := (HBR.out.cell (p := ⟨b, off + k, none⟩) hb0).trans c0
      have HC0 := Lib.hid c0
      have HB0 := Lib.hid hb0
      clear c0 hb0
      have dlt : decide ((k : Int) < (n : Int)) = true := by simp; exact hlt
      by_cases hy : y < x
      · have d1 : decide (y < x) = true := decide_eq_true hy
        have HS : Hid (l.take (k + 1) = l.take k ++ [y]) := by
          have hk' : k < l.length := by rw [HN.out]; exact hlt
          have hd2 := hd.out
          rw [List.drop_eq_getElem_cons hk'] at hd2
          rw [Hid, List.take_succ_eq_append_getElem hk', (List.cons.inj hd2).1]
        have HA2 : Hid (∀ z ∈ l.take (k + 1), z < x) := by
          rw [Hid, HS.out]
          intro z hz
          rcases List.mem_append.1 hz with hz | hz
          · exact HA.out z hz
          · rw [List.mem_singleton.1 hz]; exact hy
        have hl1 : k ≤ 1000000 := by have := HLN.out; omega
        have hszr := HBR.out.size
        clear hcut hsum hsum1 hy
        go_wp2_with (at_builtin; refine wpList_app_int rfl (.tmp 19) (.tmp 24) rfl w.heap.size (.slice A5 k c5) (l.take k) rfl HO.out y k HLK hl1 hszr rfl ?_; intro g7 c7 w7 ho7 hgg7 hg7; have HO7 := Lib.hid ho7; have HB7 := Lib.hid (below_grown HBR.out (Nat.le_refl _) HO.out hg7); clear ho7 hgg7 hg7 e0)
        go_roundw
        case rel => exact ⟨k + 1, by omega, by go_num, HA2.out, by rw [Hid, HS.out]; exact HO7.out, HB7.out⟩
        case measure => simp [intOf]; omega
      · have d1 : decide (y < x) = false := decide_eq_false hy
        rw [hd.out, putF, if_neg hy] at hcut
        by_cases he : y = x
        · have d2 : (y == x) = true := by simpa using he
          have HF : Hid (putF l x = (l.take k ++ [x]) ++ l.drop (k + 1)) := by rw [Hid, hcut, if_pos he]; simp
          clear hcut hsum hy he
          have hsum := hsum1
          clear hsum1
          have hl1 : k ≤ 1000000 := by have := HLN.out; omega
          have hszr := HBR.out.size
          go_upto_region 9 with (at_builtin; refine wpList_app_int rfl (.tmp 28) (.tmp 30) rfl w.heap.size (.slice A5 k c5) (l.take k) rfl HO.out x k HLK hl1 hszr rfl ?_; intro g7 c7 w7 ho7 hgg7 hg7; have HO7 := Lib.hid ho7; have HB7 := Lib.hid (below_grown HBR.out (Nat.le_refl _) HO.out hg7); have hs7 := HB7.out.size; clear ho7 hgg7 hg7; have e7 := (HB7.out.cell (p := ⟨b, off + k, none⟩) HB0.out).trans HC0.out)
          obtain ⟨B9, m9, k9, HR9, sl1, sl2⟩ := rest_of (HV.out.below HB7.out) (k + 1) (by omega)
          have HRX := Lib.hid HR9
          try rw [Int.natCast_add, Int.natCast_one] at sl1 sl2
          clear HR9 hk hlt hk0 dlt
          go_wp2_with (at_builtin; refine wpList_app_ints rfl (.tmp 46) (.tmp 49) rfl w.heap.size (.slice (some ⟨g7, 0, none⟩) (k + 1) c7) (l.take k ++ [x]) rfl HO7.out (.slice B9 m9 k9) (l.drop (k + 1)) rfl HRX.out hsum hs7 ?_; intro v8 w8 ho8 hg8 hor8; have HO8 := Lib.hid ho8; have HB8 := Lib.hid (below_grown HB7.out (Nat.le_refl _) HO7.out hg8); clear ho8 hg8 hor8)
          go_ret
          refine ⟨⟨_, rfl, ?_⟩, HB8.out⟩
          rw [HF.out]
          exact HO8.out
        · have d2 : (y == x) = false := by simpa using he
          have HF : Hid (putF l x = (l.take k ++ [x]) ++ l.drop k) := by rw [Hid, hcut, if_neg he, hd.out]; simp
          clear hcut hsum1 hy he
          have hl1 : k ≤ 1000000 := by have := HLN.out; omega
          have hszr := HBR.out.size
          go_upto_region 9 with (at_builtin; refine wpList_app_int rfl (.tmp 28) (.tmp 30) rfl w.heap.size (.slice A5 k c5) (l.take k) rfl HO.out x k HLK hl1 hszr rfl ?_; intro g7 c7 w7 ho7 hgg7 hg7; have HO7 := Lib.hid ho7; have HB7 := Lib.hid (below_grown HBR.out (Nat.le_refl _) HO.out hg7); have hs7 := HB7.out.size; clear ho7 hgg7 hg7; have e7 := (HB7.out.cell (p := ⟨b, off + k, none⟩) HB0.out).trans HC0.out)
          obtain ⟨B9, m9, k9, HR9, sl1, sl2⟩ := rest_of (HV.out.below HB7.out) (k) (by omega)
          have HRX := Lib.hid HR9
          try rw [Int.natCast_add, Int.natCast_one] at sl1 sl2
          clear HR9 hk hlt hk0 dlt
          go_wp2_with (at_builtin; refine wpList_app_ints rfl (.tmp 46) (.tmp 49) rfl w.heap.size (.slice (some ⟨g7, 0, none⟩) (k + 1) c7) (l.take k ++ [x]) rfl HO7.out (.slice B9 m9 k9) (l.drop (k)) rfl HRX.out hsum hs7 ?_; intro v8 w8 ho8 hg8 hor8; have HO8 := Lib.hid ho8; have HB8 := Lib.hid (below_grown HB7.out (Nat.le_refl _) HO7.out hg8); clear ho8 hg8 hor8)
          go_ret
          refine ⟨⟨_, rfl, ?_⟩, HB8.out⟩
          rw [HF.out]
          exact HO8.out
    · obtain rfl : n = k := by omega
      have HF : Hid (putF l x = (l.take n ++ [x]) ++ l.drop n) := by rw [Hid, hcut, List.drop_of_length_le (by rw [HN.out]; omega)]; simp [putF]
      have dlt : decide ((n : Int) < (n : Int)) = false := by simp
      clear hcut hsum1 hlt
      have hl1 : n ≤ 1000000 := by have := HLN.out; omega
      have hszr := HBR.out.size
      go_upto_region 9 with (at_builtin; refine wpList_app_int rfl (.tmp 28) (.tmp 30) rfl w.heap.size (.slice A5 n c5) (l.take n) rfl HO.out x n HLK hl1 hszr rfl ?_; intro g7 c7 w7 ho7 hgg7 hg7; have HO7 := Lib.hid ho7; have HB7 := Lib.hid (below_grown HBR.out (Nat.le_refl _) HO.out hg7); have hs7 := HB7.out.size; clear ho7 hgg7 hg7; have e7 := True.intro)
      obtain ⟨B9, m9, k9, HR9, sl1, sl2⟩ := rest_of (HV.out.below HB7.out) (n) (by omega)
      have HRX := Lib.hid HR9
      try rw [Int.natCast_add, Int.natCast_one] at sl1 sl2
      clear HR9 hk dlt
      go_wp2_with (at_builtin; refine wpList_app_ints rfl (.tmp 46) (.tmp 49) rfl w.heap.size (.slice (some ⟨g7, 0, none⟩) (n + 1) c7) (l.take n ++ [x]) rfl HO7.out (.slice B9 m9 k9) (l.drop (n)) rfl HRX.out hsum hs7 ?_; intro v8 w8 ho8 hg8 hor8; have HO8 := Lib.hid ho8; have HB8 := Lib.hid (below_grown HB7.out (Nat.le_refl _) HO7.out hg8); clear ho8 hg8 hor8)
      go_ret
      refine ⟨⟨_, rfl, ?_⟩, HB8.out⟩
      rw [HF.out]
      exact HO8.out
end Go.Proofs.YtiopgbbggeimaaaGreat

/-
  Sorted of the first reference, and the reference's Check of a rule.
-/
namespace Go.Proofs.YtiopgbbggeimaaaGreat
open Go.ChangeShapes Go.WideShapes Go.ChangeAt Go.RowKit
set_option maxHeartbeats 4000000 in
set_option maxRecDepth 100000 in
theorem rsorted_any (v : Value) (l : List Int) (m : Nat) (w : World) (hv : RdI w v l) (hb : ∀ x ∈ l, 1 ≤ x ∧ x ≤ (m : Int)) (hm : m ≤ 1000000) :
    Calls Tryz.prog 99 #[v] w fun e w' => (∃ v', e = .returned v' ∧ OwnI w' w.heap.size v' (sortF l)) ∧ Below w.heap.size w w' := by
  obtain ⟨A, n, c, rfl, hnc, hcm, HN, HR⟩ := hv.op
  have HV := Lib.hid hv
  have HLN : Hid (∀ k, (sortK l k).length ≤ 1000000) := fun k => Nat.le_trans (up_len (sortK_up l k) fun x hx => hb x (List.mem_of_mem_take ((sortK_mem l x k).1 hx))) hm
  clear hv hb hm
  go_enter Tryz.func99, Tryz.ntmps99
  go_wp2_with fail
  go_loopw [3, 7] (fun v3 vi wr => ∃ k : Nat, k ≤ n ∧ vi = .int .i64 k ∧ Hid (OwnI wr w.heap.size v3 (sortK l k)) ∧ Hid (Below w.heap.size w wr)) (fun _ vi _ => n - (intOf vi).toNat)
  case atStart => exact ⟨0, Nat.zero_le _, rfl, World.ownsRow_nil _ _ _ _, Below.refl _ _⟩
  case round =>
    obtain ⟨k, hk, rfl, HO, HBR⟩ := hrel
    obtain ⟨_, A3, c3, rfl⟩ := own_slice HO.out
    by_cases hlt : k < n
    · obtain ⟨b, off, x, rfl, hbb, hd, e0⟩ := (HR.out k hlt).below HBR.out
      have hk0 : (0 : Int) ≤ (k : Int) := by omega
      go_wp2_with fail
      clear e0
      refine (put_any _ (sortK l k) x _ HO.out.rd (HLN.out k)).mono ?_
      rintro e w1 ⟨⟨v1, rfl, ho⟩, hb1⟩
      have HB1 := Lib.hid (bchain HBR.out hb1)
      have HO1 : Hid (OwnI w1 w.heap.size v1 (sortK l (k + 1))) := by rw [Hid, sortK_succ hd.out]; exact own_base ho HBR.out.size
      obtain ⟨_, A1, c1, rfl⟩ := own_slice HO1.out
      clear ho hb1
      go_wp2_with fail
      go_roundw
      case rel => exact ⟨k + 1, by omega, by go_num, HO1.out, HB1.out⟩
      case measure => simp [intOf]; omega
    · obtain rfl : n = k := by omega
      have HOF : Hid (OwnI wr w.heap.size (.slice A3 (sortK l n).length c3) (sortF l)) := by rw [Hid, sortF, HN.out]; exact HO.out
      go_wp2_with fail
      go_ret
      exact ⟨⟨_, rfl, HOF.out⟩, HBR.out⟩
def okTo (I : List PPh) (t : Int) : Bool := t == 0 || isB I t
def chkR (I : List PPh) (R : PRule) : Int :=
  if R.fr.length = 0 ∨ R.tto.length ≠ R.fr.length then 1 else if (R.fr.all (isB I) && R.tto.all (okTo I)) = false then 19 else if ¬ R.fr.Nodup then 8 else if 2 < R.lft.length ∨ 2 < R.rgt.length then 5 else 0
set_option maxHeartbeats 8000000 in
set_option maxRecDepth 100000 in
theorem rchkR_any (v vr : Value) (I : List PPh) (R : PRule) (w : World) (hv : RdVQ w v I) (hr : RdR w vr R) (hI : I.length ≤ 1000000) :
    Calls Tryz.prog 67 #[v, vr] w fun e w' => e = .returned (.int .i64 (chkR I R)) ∧ Below w.heap.size w w' := by
  obtain ⟨ck, hck⟩ : ∃ ck, chkR I R = ck := ⟨_, rfl⟩
  rw [hck]
  unfold chkR at hck
  obtain ⟨u, rfl, hp⟩ := id hv
  obtain ⟨A0, n0, c0, rfl, _, _, _, _⟩ := hp.op
  obtain ⟨vf, vt, vl, vg, rfl, hf, ht, hl, hg⟩ := id hr
  obtain ⟨A1, n1, c1, rfl, _, _, HN1, HR1⟩ := hf.op
  obtain ⟨A2, n2, c2, rfl, _, _, HN2, HR2⟩ := ht.op
  obtain ⟨A3, n3, c3, rfl, _, _, HN3, _⟩ := hl.op
  obtain ⟨A4, n4, c4, rfl, _, _, HN4, _⟩ := hg.op
  have HV := Lib.hid hv
  have HRR := Lib.hid hr
  have HF := Lib.hid hf
  have HT := Lib.hid ht
  clear hp hf ht hl hg hv hr
  obtain ⟨beg, hbeg⟩ : ∃ x, R.beg = x := ⟨_, rfl⟩
  obtain ⟨fin, hfin⟩ : ∃ x, R.fin = x := ⟨_, rfl⟩
  rw [hbeg, hfin] at HRR ⊢
  clear hbeg hfin
  rw [HN1.out, HN2.out, HN3.out, HN4.out] at hck
  have HII := Lib.hid hI
  clear hI
  go_enter Tryz.func67, Tryz.ntmps67
  go_upto_region 1 with (fail)
  generalize hW : World.alloc (World.alloc w _) _ = W
  have HBW : Hid (Below w.heap.size w W) := by rw [← hW]; exact bchain (al_below _ _) (al_below _ _)
  have HP : Hid (VBlk W w.heap.size (.slice A0 n0 c0)) := by rw [← hW]; exact VBlk.below (heap_alloc_new w _) (al_below _ _)
  have HQ : Hid (RBlk W (w.heap.size + 1) (.slice A1 n1 c1) (.slice A2 n2 c2) (.slice A3 n3 c3) (.slice A4 n4 c4) beg fin) := by
    have h := heap_alloc_new (w.alloc (.cells #[.slice A0 n0 c0] 24)) (.cells #[.slice A1 n1 c1, .slice A2 n2 c2, .slice A3 n3 c3, .slice A4 n4 c4, .bool beg, .bool fin] 61)
    rw [World.size_alloc] at h
    rw [← hW]; exact h
  clear hW
  obtain ⟨z0, z1, z2, z3, z4, z5⟩ := HQ.out.cells
  have zl := HQ.out.lt
  by_cases h0 : n1 = 0
  · rw [if_pos (.inl h0)] at hck
    have HC := Lib.hid hck
    clear hck
    subst h0
    go_wp2_with fail
    go_ret
    exact ⟨by rw [← HC.out]; rfl, HBW.out⟩
  have d0 : ((n1 : Int) == 0) = false := by simp; omega
  have d0' : (n1 == 0) = false := by simp; omega
  by_cases h1 : n2 = n1
  rotate_left
  · rw [if_pos (.inr h1)] at hck
    have HC := Lib.hid hck
    have d1 : ((n2 : Int) != (n1 : Int)) = true := by simp; omega
    have d1' : (n2 != n1) = true := by simp; omega
    clear hck h0 h1
    go_wp2_with fail
    go_ret
    exact ⟨by rw [← HC.out]; rfl, HBW.out⟩
  subst h1
  rw [if_neg (by omega)] at hck
  have d1 : ((n2 : Int) != (n2 : Int)) = false := by simp
  have d1' : (n2 != n2) = false := by simp
  have HCK := Lib.hid hck
  clear hck h0
  go_wp2_with fail
  clear z0 z1 z2 z3 z4 z5 zl d0 d0' d1 d1'
  go_loopw [22] (fun vi wr => ∃ k : Nat, k ≤ n2 ∧ vi = .int .i64 k ∧ Hid ((R.fr.take k).all (isB I) = true) ∧ Hid ((R.tto.take k).all (okTo I) = true) ∧ Hid (Below W.heap.size W wr)) (fun vi _ => n2 - (intOf vi).toNat)
  case atStart => exact ⟨0, Nat.zero_le _, rfl, rfl, rfl, Below.refl _ _⟩
  case round =>
    obtain ⟨k, hk, rfl, HA, HAT, HBR⟩ := hrel
    have HBX := Lib.hid (bchain HBW.out HBR.out)
    by_cases hlt : k < n2
    · obtain ⟨b, off, x, rfl, hb, hd, e0⟩ := (HR1.out k hlt).below HBX.out
      obtain ⟨b', off', t, rfl, hb', hd', e0'⟩ := (HR2.out k hlt).below HBX.out
      have hk0 : (0 : Int) ≤ (k : Int) := by omega
      have HE := Lib.hid e0
      have HE' := Lib.hid e0'
      have HBB := Lib.hid hb
      have HBB' := Lib.hid hb'
      clear e0 e0' hb hb'
      go_upto_region 6 with (fail)
      refine wp_region_mix 22 [0, 1, 2, 3, 4, 5, 6, 7, 8, 9, 10, 11, 12, 13, 14, 15, 16, 17, 18, 19, 20, 21] [] [(true, 0), (true, 1), (true, 2), (true, 3), (true, 4), (true, 5), (false, 6), (true, 7), (true, 8), (true, 9), (true, 10), (true, 11), (true, 12), (true, 13), (true, 14), (true, 15), (true, 16), (true, 17), (true, 18), (true, 19), (true, 20), (true, 21), (false, 22), (false, 23), (false, 24), (false, 25)] (fun w' => Below wr.heap.size wr w') (by kernel_rfl) (by kernel_rfl) ?_
      rintro D hD
      have HSD : Hid (Below wr.heap.size wr D) := by rw [hD]; exact (Below.refl _ _).drew
      clear hD
      refine ⟨HSD.out, ?_⟩
      have HS : Hid (∀ w' : World, Below wr.heap.size wr w' → w'.cell? ⟨w.heap.size, 0, none⟩ = some (.slice A0 n0 c0) ∧ (w'.cell? ⟨w.heap.size + 1, 0, none⟩ = some (.slice (some ⟨b, off, none⟩) n2 c1) ∧ w'.cell? ⟨w.heap.size + 1, 1, none⟩ = some (.slice (some ⟨b', off', none⟩) n2 c2)) ∧ w'.cell? ⟨b, off + k, none⟩ = some (.int .i64 x) ∧ w'.cell? ⟨b', off' + k, none⟩ = some (.int .i64 t)) := by
        intro w' h
        have h2 := bchain HBR.out h
        exact ⟨(HP.out.below h2).cell, ⟨(HQ.out.below h2).cells.1, (HQ.out.below h2).cells.2.1⟩, (h.cell (p := ⟨b, off + k, none⟩) HBB.out).trans HE.out, (h.cell (p := ⟨b', off' + k, none⟩) HBB'.out).trans HE'.out⟩
      iterate 6 (refine wpMix_q (v := ?_) rfl rfl (fun w' hS => ?_) ?_; rotate_left; (focus ((try obtain ⟨s0, ⟨t0, t1⟩, u0, u1⟩ := HS.out _ (hS rfl)); clear hS; go_simp; try with_reducible rfl; done)); (try simp only [Act.put, List.setIfInBounds_toArray, List.set_cons_zero, List.set_cons_succ]))
      refine wpMix_e rfl rfl (fun K hK => ?_)
      go_simp
      refine (ris_any _ I x _ (HV.out.below (bchain HBX.out HSD.out))).mono ?_
      rintro e w1 ⟨rfl, hb1⟩
      have HS1 := Lib.hid (bchain HSD.out hb1)
      refine hK.out _ _ (fun _ => HS1.out) ?_
      clear hK K hb1
      (try dsimp only); (try simp only [Act.put]); (try simp only [List.setIfInBounds_toArray, List.set_cons_zero, List.set_cons_succ])
      cases hx : isB I x
      · have HF : Hid (ck = 19) := by
          rw [Hid, ← HCK.out, all_no hd.out hx]; rfl
        clear hx
        iterate 19 (first | (refine wpMix_q (v := ?_) rfl rfl (fun w' hS => ?_) ?_; rotate_left; (focus ((try obtain ⟨s0, ⟨t0, t1⟩, u0, u1⟩ := HS.out _ (hS rfl)); clear hS; go_simp; try with_reducible rfl; done)); (try simp only [Act.put, List.setIfInBounds_toArray, List.set_cons_zero, List.set_cons_succ])) | (refine wpMix_qskip rfl rfl ?_; (try simp only [Act.put, List.setIfInBounds_toArray, List.set_cons_zero, List.set_cons_succ])) | (refine wpMix_eskip rfl rfl ( HS1).out ?_; (try simp only [Act.put, List.setIfInBounds_toArray, List.set_cons_zero, List.set_cons_succ])) | (refine wpMix_e rfl rfl (fun K hK => ?_); go_simp; refine hK.out _ _ (fun h => absurd h (by decide)) ?_; clear hK K; (try simp only [Act.put, List.setIfInBounds_toArray, List.set_cons_zero, List.set_cons_succ])))
        refine wpMix_nil ?_
        clear HS
        refine NoPanic.normal ?_
        go_wp2_with fail
        go_ret
        exact ⟨by rw [HF.out]; rfl, bchain HBX.out HS1.out⟩
      · have HAX : Hid ((R.fr.take (k + 1)).all (isB I) = true) := by rw [Hid, all_take_succ hd.out, HA.out, hx]; rfl
        clear hx
        by_cases ht0 : t = 0
        · subst ht0
          have HTX : Hid ((R.tto.take (k + 1)).all (okTo I) = true) := by rw [Hid, all_take_succ hd'.out, HAT.out]; rfl
          iterate 19 (first | (refine wpMix_q (v := ?_) rfl rfl (fun w' hS => ?_) ?_; rotate_left; (focus ((try obtain ⟨s0, ⟨t0, t1⟩, u0, u1⟩ := HS.out _ (hS rfl)); clear hS; go_simp; try with_reducible rfl; done)); (try simp only [Act.put, List.setIfInBounds_toArray, List.set_cons_zero, List.set_cons_succ])) | (refine wpMix_qskip rfl rfl ?_; (try simp only [Act.put, List.setIfInBounds_toArray, List.set_cons_zero, List.set_cons_succ])) | (refine wpMix_eskip rfl rfl ( HS1).out ?_; (try simp only [Act.put, List.setIfInBounds_toArray, List.set_cons_zero, List.set_cons_succ])) | (refine wpMix_e rfl rfl (fun K hK => ?_); go_simp; refine hK.out _ _ (fun h => absurd h (by decide)) ?_; clear hK K; (try simp only [Act.put, List.setIfInBounds_toArray, List.set_cons_zero, List.set_cons_succ])))
          refine wpMix_nil ?_
          clear HS
          refine NoPanic.normal ?_
          go_wp2_with fail
          go_roundw
          case rel => exact ⟨k + 1, by omega, by go_num, HAX.out, HTX.out, bchain HBR.out HS1.out⟩
          case measure => simp [intOf]; omega
        · have dt : (t == 0) = false := by simpa using ht0
          have dt' : (t != 0) = true := by simpa using ht0
          iterate 15 (first | (refine wpMix_q (v := ?_) rfl rfl (fun w' hS => ?_) ?_; rotate_left; (focus ((try obtain ⟨s0, ⟨t0, t1⟩, u0, u1⟩ := HS.out _ (hS rfl)); clear hS; go_simp; try with_reducible rfl; done)); (try simp only [Act.put, List.setIfInBounds_toArray, List.set_cons_zero, List.set_cons_succ])) | (refine wpMix_qskip rfl rfl ?_; (try simp only [Act.put, List.setIfInBounds_toArray, List.set_cons_zero, List.set_cons_succ])) | (refine wpMix_eskip rfl rfl ( HS1).out ?_; (try simp only [Act.put, List.setIfInBounds_toArray, List.set_cons_zero, List.set_cons_succ])) | (refine wpMix_e rfl rfl (fun K hK => ?_); go_simp; refine hK.out _ _ (fun h => absurd h (by decide)) ?_; clear hK K; (try simp only [Act.put, List.setIfInBounds_toArray, List.set_cons_zero, List.set_cons_succ])))
          refine wpMix_e rfl rfl (fun K hK => ?_)
          go_simp
          refine (ris_any _ I t _ (HV.out.below (bchain HBX.out HS1.out))).mono ?_
          rintro e w2 ⟨rfl, hb2⟩
          have HS2 := Lib.hid (bchain HS1.out hb2)
          refine hK.out _ _ (fun _ => HS2.out) ?_
          clear hK K hb2
          (try dsimp only); (try simp only [Act.put]); (try simp only [List.setIfInBounds_toArray, List.set_cons_zero, List.set_cons_succ])
          cases ht : isB I t
          · have HF : Hid (ck = 19) := by
              have : R.tto.all (okTo I) = false := all_no hd'.out (by rw [okTo, dt, ht]; rfl)
              rw [Hid, ← HCK.out, this, Bool.and_false]; rfl
            clear ht
            iterate 3 (first | (refine wpMix_q (v := ?_) rfl rfl (fun w' hS => ?_) ?_; rotate_left; (focus ((try obtain ⟨s0, ⟨t0, t1⟩, u0, u1⟩ := HS.out _ (hS rfl)); clear hS; go_simp; try with_reducible rfl; done)); (try simp only [Act.put, List.setIfInBounds_toArray, List.set_cons_zero, List.set_cons_succ])) | (refine wpMix_qskip rfl rfl ?_; (try simp only [Act.put, List.setIfInBounds_toArray, List.set_cons_zero, List.set_cons_succ])) | (refine wpMix_eskip rfl rfl ( HS2).out ?_; (try simp only [Act.put, List.setIfInBounds_toArray, List.set_cons_zero, List.set_cons_succ])) | (refine wpMix_e rfl rfl (fun K hK => ?_); go_simp; refine hK.out _ _ (fun h => absurd h (by decide)) ?_; clear hK K; (try simp only [Act.put, List.setIfInBounds_toArray, List.set_cons_zero, List.set_cons_succ])))
            refine wpMix_nil ?_
            clear HS
            refine NoPanic.normal ?_
            go_wp2_with fail
            go_ret
            exact ⟨by rw [HF.out]; rfl, bchain HBX.out HS2.out⟩
          · have HTX : Hid ((R.tto.take (k + 1)).all (okTo I) = true) := by rw [Hid, all_take_succ hd'.out, HAT.out, okTo, ht, Bool.or_true]; rfl
            clear ht
            iterate 3 (first | (refine wpMix_q (v := ?_) rfl rfl (fun w' hS => ?_) ?_; rotate_left; (focus ((try obtain ⟨s0, ⟨t0, t1⟩, u0, u1⟩ := HS.out _ (hS rfl)); clear hS; go_simp; try with_reducible rfl; done)); (try simp only [Act.put, List.setIfInBounds_toArray, List.set_cons_zero, List.set_cons_succ])) | (refine wpMix_qskip rfl rfl ?_; (try simp only [Act.put, List.setIfInBounds_toArray, List.set_cons_zero, List.set_cons_succ])) | (refine wpMix_eskip rfl rfl ( HS2).out ?_; (try simp only [Act.put, List.setIfInBounds_toArray, List.set_cons_zero, List.set_cons_succ])) | (refine wpMix_e rfl rfl (fun K hK => ?_); go_simp; refine hK.out _ _ (fun h => absurd h (by decide)) ?_; clear hK K; (try simp only [Act.put, List.setIfInBounds_toArray, List.set_cons_zero, List.set_cons_succ])))
            refine wpMix_nil ?_
            clear HS
            refine NoPanic.normal ?_
            go_wp2_with fail
            go_roundw
            case rel => exact ⟨k + 1, by omega, by go_num, HAX.out, HTX.out, bchain HBR.out HS2.out⟩
            case measure => simp [intOf]; omega
    · obtain rfl : n2 = k := by omega
      have hfa : R.fr.all (isB I) = true := by have := HA.out; rwa [List.take_of_length_le (by rw [HN1.out]; omega)] at this
      have hta : R.tto.all (okTo I) = true := by have := HAT.out; rwa [List.take_of_length_le (by rw [HN2.out]; omega)] at this
      have hck := HCK.out
      rw [hfa, hta, Bool.and_self, if_neg (by decide)] at hck
      have HCK2 := Lib.hid hck
      have HIN : Hid (∀ x ∈ R.fr, 1 ≤ x ∧ x ≤ (I.length : Int)) := by
        intro x hx
        have := List.all_eq_true.1 hfa x hx
        simpa [isB] using this
      clear hck hfa hta HCK HA HAT
      go_upto_region 9 with (fail)
      refine wp_region_mix 7 [0, 1, 2, 3, 4, 5, 6] [] [(true, 0), (true, 1), (true, 4), (true, 5), (true, 6), (false, 2), (true, 3), (false, 7)] (fun w' => Below wr.heap.size wr w') (by kernel_rfl) (by kernel_rfl) ?_
      rintro D hD
      have HSD : Hid (Below wr.heap.size wr D) := by rw [hD]; exact (Below.refl _ _).drew
      clear hD
      refine ⟨HSD.out, ?_⟩
      have HS : Hid (∀ w' : World, Below wr.heap.size wr w' → w'.cell? ⟨w.heap.size + 1, 0, none⟩ = some (.slice A1 n2 c1)) := by
        intro w' h
        exact (HQ.out.below (bchain HBR.out h)).cells.1
      iterate 5 (refine wpMix_q (v := ?_) rfl rfl (fun w' hS => ?_) ?_; rotate_left; (focus ((try obtain s0 := HS.out _ (hS rfl)); clear hS; go_simp; try with_reducible rfl; done)); (try simp only [Act.put, List.setIfInBounds_toArray, List.set_cons_zero, List.set_cons_succ]))
      refine wpMix_e rfl rfl (fun K hK => ?_)
      go_simp
      refine (rsorted_any _ R.fr I.length _ (HF.out.below (bchain HBX.out HSD.out)) HIN.out HII.out).mono ?_
      rintro e w1 ⟨⟨v1, rfl, ho⟩, hb1⟩
      obtain ⟨_, A7, c7, rfl⟩ := own_slice ho
      have HS1 := Lib.hid (bchain HSD.out hb1)
      refine hK.out _ _ (fun _ => HS1.out) ?_
      clear hK K hb1 ho
      (try dsimp only); (try simp only [Act.put]); (try simp only [List.setIfInBounds_toArray, List.set_cons_zero, List.set_cons_succ])
      have hnd := (sortF_nodup R.fr).2
      rw [HN1.out] at hnd
      by_cases hN : R.fr.Nodup
      · have hq := hnd.2 hN
        have HCK3 := HCK2.out
        rw [if_neg (fun h => h hN)] at HCK3
        have HC3 := Lib.hid HCK3
        have d2 : (((sortF R.fr).length : Int) != (n2 : Int)) = false := by simp; omega
        have d2' : ((sortF R.fr).length != n2) = false := by simp; omega
        clear HCK3 HCK2 hN hnd hq
        iterate 2 (first | (refine wpMix_q (v := ?_) rfl rfl (fun w' hS => ?_) ?_; rotate_left; (focus ((try obtain s0 := HS.out _ (hS rfl)); clear hS; go_simp; try with_reducible rfl; done)); (try simp only [Act.put, List.setIfInBounds_toArray, List.set_cons_zero, List.set_cons_succ])) | (refine wpMix_qskip rfl rfl ?_; (try simp only [Act.put, List.setIfInBounds_toArray, List.set_cons_zero, List.set_cons_succ])) | (refine wpMix_eskip rfl rfl ( HS1).out ?_; (try simp only [Act.put, List.setIfInBounds_toArray, List.set_cons_zero, List.set_cons_succ])) | (refine wpMix_e rfl rfl (fun K hK => ?_); go_simp; refine hK.out _ _ (fun h => absurd h (by decide)) ?_; clear hK K; (try simp only [Act.put, List.setIfInBounds_toArray, List.set_cons_zero, List.set_cons_succ])))
        refine wpMix_nil ?_
        clear HS
        obtain ⟨z0, z1, z2, z3, z4, z5⟩ := (HQ.out.below (bchain HBR.out HS1.out)).cells
        have zl := (HQ.out.below (bchain HBR.out HS1.out)).lt
        refine NoPanic.normal ?_
        by_cases hl3 : 2 < n3
        · have HF5 : Hid (ck = 5) := by rw [Hid, ← HC3.out, if_pos (.inl hl3)]
          have d3 : decide ((2 : Int) < (n3 : Int)) = true := by simp; omega
          have d3' : decide (2 < n3) = true := by simp; omega
          go_wp2_with fail
          go_ret
          exact ⟨by rw [HF5.out]; rfl, bchain HBX.out HS1.out⟩
        · have d3 : decide ((2 : Int) < (n3 : Int)) = false := by simp; omega
          have d3' : decide (2 < n3) = false := by simp; omega
          by_cases hl4 : 2 < n4
          · have HF5 : Hid (ck = 5) := by rw [Hid, ← HC3.out, if_pos (.inr hl4)]
            have d4 : decide ((2 : Int) < (n4 : Int)) = true := by simp; omega
            have d4' : decide (2 < n4) = true := by simp; omega
            go_wp2_with fail
            go_ret
            exact ⟨by rw [HF5.out]; rfl, bchain HBX.out HS1.out⟩
          · have HF5 : Hid (ck = 0) := by rw [Hid, ← HC3.out, if_neg (by omega)]
            have d4 : decide ((2 : Int) < (n4 : Int)) = false := by simp; omega
            have d4' : decide (2 < n4) = false := by simp; omega
            go_wp2_with fail
            go_ret
            exact ⟨by rw [HF5.out]; rfl, bchain HBX.out HS1.out⟩
      · have hq : (sortF R.fr).length ≠ n2 := fun h => hN (hnd.1 h)
        have HF8 : Hid (ck = 8) := by rw [Hid, ← HCK2.out, if_pos hN]
        have d2 : (((sortF R.fr).length : Int) != (n2 : Int)) = true := by simp; omega
        have d2' : ((sortF R.fr).length != n2) = true := by simp; omega
        clear HCK2 hN hnd hq
        iterate 2 (first | (refine wpMix_q (v := ?_) rfl rfl (fun w' hS => ?_) ?_; rotate_left; (focus ((try obtain s0 := HS.out _ (hS rfl)); clear hS; go_simp; try with_reducible rfl; done)); (try simp only [Act.put, List.setIfInBounds_toArray, List.set_cons_zero, List.set_cons_succ])) | (refine wpMix_qskip rfl rfl ?_; (try simp only [Act.put, List.setIfInBounds_toArray, List.set_cons_zero, List.set_cons_succ])) | (refine wpMix_eskip rfl rfl ( HS1).out ?_; (try simp only [Act.put, List.setIfInBounds_toArray, List.set_cons_zero, List.set_cons_succ])) | (refine wpMix_e rfl rfl (fun K hK => ?_); go_simp; refine hK.out _ _ (fun h => absurd h (by decide)) ?_; clear hK K; (try simp only [Act.put, List.setIfInBounds_toArray, List.set_cons_zero, List.set_cons_succ])))
        refine wpMix_nil ?_
        clear HS
        refine NoPanic.normal ?_
        go_wp2_with fail
        go_ret
        exact ⟨by rw [HF8.out]; rfl, bchain HBX.out HS1.out⟩
end Go.Proofs.YtiopgbbggeimaaaGreat

/-
  num.Sorted at any list: slices.Values, AppendSeq, Collect, Sort, Compact; it is shorter than the list exactly if an element comes twice.
-/
namespace Go.Proofs.YtiopgbbggeimaaaGreat
open Go.ChangeShapes Go.WideShapes Go.ChangeAt Go.RowKit Go.Shelf Go.Sort
attribute [local go_sem] Oper.semAt_some
end Go.Proofs.YtiopgbbggeimaaaGreat

/-
  What Compile builds, in plain words: a transducer that accepts a list with what the rule makes of it.
-/
namespace Go.Proofs.YtiopgbbggeimaaaGreat
def owesU : List Int := [-1, 0, 1]
def allSt : List St := [0, 1, 2, 3].flatMap fun c => [0, 1, 2, 3].flatMap fun n => [0, 1].flatMap fun f => owesU.flatMap fun a => owesU.flatMap fun b => owesU.map fun o => ⟨c, n, f, a, b, o⟩
theorem allSt_len : allSt.length = 864 := by kernel_rfl
theorem mem_allSt {s : St} (h : StOk s) : s ∈ allSt := by
  obtain ⟨c, n, f, a, b, o⟩ := s
  have h1 := h.c0; have h2 := h.c1; have h3 := h.n0; have h4 := h.n1; have h5 := h.f0; have h6 := h.f1
  have h7 := h.a0; have h8 := h.a1; have h9 := h.b0; have h10 := h.b1; have h11 := h.d0; have h12 := h.d1
  simp only at h1 h2 h3 h4 h5 h6 h7 h8 h9 h10 h11 h12
  have hw : ∀ x : Int, -1 ≤ x → x ≤ 1 → x ∈ owesU := fun x h0 h1 => by
    have : x = -1 ∨ x = 0 ∨ x = 1 := by omega
    rcases this with rfl | rfl | rfl <;> simp [owesU]
  have h4 : ∀ x : Int, 0 ≤ x → x ≤ 3 → x ∈ [(0 : Int), 1, 2, 3] := fun x h0 h1 => by
    have : x = 0 ∨ x = 1 ∨ x = 2 ∨ x = 3 := by omega
    rcases this with rfl | rfl | rfl | rfl <;> simp
  have h2' : ∀ x : Int, 0 ≤ x → x ≤ 1 → x ∈ [(0 : Int), 1] := fun x h0 h1 => by
    have : x = 0 ∨ x = 1 := by omega
    rcases this with rfl | rfl <;> simp
  exact List.mem_flatMap.2 ⟨c, h4 c (by omega) (by omega), List.mem_flatMap.2 ⟨n, h4 n (by omega) (by omega), List.mem_flatMap.2 ⟨f, h2' f (by omega) (by omega), List.mem_flatMap.2 ⟨a, hw a (by omega) (by omega),
    List.mem_flatMap.2 ⟨b, hw b (by omega) (by omega), List.mem_map.2 ⟨o, hw o (by omega) (by omega), rfl⟩⟩⟩⟩⟩⟩
abbrev Trip := Nat × Int × Int × St
/-- the states that were met, and the arcs that were written -/
structure CI (L : List St) (T : List Trip) : Prop where
  nd : L.Nodup
  z : L[0]? = some St.zero
  ok : ∀ s ∈ L, StOk s
  tin : ∀ t ∈ T, t.2.2.2 ∈ L
theorem CI.len {L : List St} {T : List Trip} (h : CI L T) : L.length ≤ 864 := by
  rw [← allSt_len]
  exact nodup_le L allSt h.nd fun s hs => mem_allSt (h.ok s hs)
theorem CI.pos {L : List St} {T : List Trip} (h : CI L T) : 0 < L.length := by
  have := h.z
  rcases Nat.eq_zero_or_pos L.length with h0 | h0
  · rw [List.length_eq_zero_iff.1 h0] at this; cases this
  · exact h0
theorem CI.old {L : List St} {T : List Trip} (h : CI L T) {t : Trip} (ht : t.2.2.2 ∈ L) : CI L (T ++ [t]) := by
  refine ⟨h.nd, h.z, h.ok, fun u hu => ?_⟩
  rcases List.mem_append.1 hu with hu | hu
  · exact h.tin u hu
  · rw [List.mem_singleton.1 hu]; exact ht
theorem CI.new {L : List St} {T : List Trip} (h : CI L T) {t : Trip} (ht : t.2.2.2 ∉ L) (ho : StOk t.2.2.2) : CI (L ++ [t.2.2.2]) (T ++ [t]) := by
  refine ⟨?_, ?_, fun s hs => ?_, fun u hu => ?_⟩
  · rw [List.nodup_append]
    refine ⟨h.nd, by simp, fun a ha b hb => ?_⟩
    rw [List.mem_singleton.1 hb]
    intro e; exact ht (e ▸ ha)
  · rw [List.getElem?_append_left h.pos]; exact h.z
  · rcases List.mem_append.1 hs with hs | hs
    · exact h.ok s hs
    · rw [List.mem_singleton.1 hs]; exact ho
  · rcases List.mem_append.1 hu with hu | hu
    · exact List.mem_append_left _ (h.tin u hu)
    · rw [List.mem_singleton.1 hu]; simp
/-- a right rule, in plain words -/
structure RGood (I : List PPh) (R : PRule) : Prop where
  l1 : R.lft.length ≤ 2
  l2 : R.rgt.length ≤ 2
  tl : R.tto.length = R.fr.length
  nd : R.fr.Nodup
  fr : ∀ x ∈ R.fr, isB I x = true
  tto : ∀ x ∈ R.tto, x = 0 ∨ isB I x = true
end Go.Proofs.YtiopgbbggeimaaaGreat

/-
  The program's Check of a rule: two closures asked by slices.ContainsFunc, then num.Sorted.
-/
namespace Go.Proofs.YtiopgbbggeimaaaGreat
open Go.ChangeShapes Go.WideShapes Go.ChangeAt Go.RowKit
attribute [local go_sem] run_store_func
/-- the index of the first element that is asked for -/
def idxP {α : Type} (p : α → Bool) : List α → Nat → Int
  | [], _ => -1
  | x :: r, k => if p x = true then k else idxP p r (k + 1)
theorem idxP_iff {α : Type} (p : α → Bool) : ∀ (l : List α) (k : Nat), decide (0 ≤ idxP p l k) = l.any p
  | [], _ => by simp [idxP]
  | x :: r, k => by
    rw [idxP, List.any_cons]
    cases h : p x
    · rw [if_neg (by simp), idxP_iff p r (k + 1)]; rfl
    · rw [if_pos rfl]; simp
set_option maxHeartbeats 1000000 in
set_option maxRecDepth 100000 in
theorem idxI_anyQ (F : Nat) (cap : Value) (p : Int → Bool) (v : Value) (l : List Int) (w : World) (hv : RdI w v l)
    (hE : ∀ (x : Int) (W : World), (callFunc F #[.int .i64 x, cap]).run Tryz.prog W = .ok (.enter F #[.int .i64 x, cap]) W)
    (hF : ∀ x w', Below w.heap.size w w' → Calls Tryz.prog F #[.int .i64 x, cap] w' fun e w'' => e = .returned (.bool (p x)) ∧ Below w'.heap.size w' w'') :
    Calls Tryz.prog 111 #[v, .func (.func F) #[] #[cap]] w fun e' w' => e' = .returned (.int .i64 (idxP p l 0)) ∧ Below w.heap.size w w' := by
  obtain ⟨A, n, c, rfl, h1, h2, HN, HR⟩ := hv.op
  have HFF := Lib.hid hF
  clear hv hF
  go_enter Tryz.func111, Tryz.ntmps111
  go_wp2_with fail
  go_loopw [8] (fun i wr => ∃ k : Nat, k ≤ n ∧ i = .int .i64 k ∧ Hid (idxP p l 0 = idxP p (l.drop k) k) ∧ Hid (Below w.heap.size w wr)) (fun i _ => n - (intOf i).toNat)
  case atStart => exact ⟨0, Nat.zero_le _, rfl, rfl, Below.refl _ _⟩
  case round =>
    obtain ⟨k, hk, rfl, HP, HW⟩ := hrel
    by_cases hlt : k < n
    · obtain ⟨b, off, x, rfl, hb, hd, c1⟩ := (HR.out k hlt).below HW.out
      have HP2 : Hid (idxP p l 0 = if p x = true then (k : Int) else idxP p (l.drop (k + 1)) (k + 1)) := by rw [Hid, HP.out, hd.out]; rfl
      have hk0 : (0 : Int) ≤ (k : Int) := by omega
      clear HP hd
      go_wp2_with fail
      refine (HFF.out x _ HW.out).mono ?_
      rintro e' w1 ⟨rfl, hb1⟩
      have HW1 := Lib.hid (bchain HW.out hb1)
      clear hb1 c1
      cases hid : p x
      · have HP3 : Hid (idxP p l 0 = idxP p (l.drop (k + 1)) (k + 1)) := by rw [Hid, HP2.out, if_neg (by simp [hid])]
        clear hid
        go_wp2_with fail
        go_roundw
        case rel => exact ⟨k + 1, by omega, by go_num, HP3.out, HW1.out⟩
        case measure => simp [intOf]; omega
      · have HP3 : Hid (idxP p l 0 = k) := by rw [Hid, HP2.out, if_pos hid]
        clear hid
        go_wp2_with fail
        go_ret
        exact ⟨by rw [HP3.out]; rfl, HW1.out⟩
    · obtain rfl : n = k := by omega
      have HP3 : Hid (idxP p l 0 = -1) := by rw [Hid, HP.out, List.drop_of_length_le (by rw [HN.out]; omega)]; rfl
      go_wp2_with fail
      go_ret
      exact ⟨by rw [HP3.out]; rfl, HW.out⟩
set_option maxHeartbeats 1000000 in
set_option maxRecDepth 100000 in
theorem contI_any (F : Nat) (cap : Value) (p : Int → Bool) (v : Value) (l : List Int) (w : World) (hv : RdI w v l)
    (hE : ∀ (x : Int) (W : World), (callFunc F #[.int .i64 x, cap]).run Tryz.prog W = .ok (.enter F #[.int .i64 x, cap]) W)
    (hF : ∀ x w', Below w.heap.size w w' → Calls Tryz.prog F #[.int .i64 x, cap] w' fun e w'' => e = .returned (.bool (p x)) ∧ Below w'.heap.size w' w'') :
    Calls Tryz.prog 88 #[v, .func (.func F) #[] #[cap]] w fun e' w' => e' = .returned (.bool (l.any p)) ∧ Below w.heap.size w w' := by
  obtain ⟨A, n, c, rfl, h1, h2, HN, HR⟩ := hv.op
  have HVV := Lib.hid hv
  have HFF := Lib.hid hF
  clear hv hF
  go_enter Tryz.func88, Tryz.ntmps88
  go_wp2_with fail
  refine (idxI_anyQ F cap p _ l _ HVV.out hE HFF.out).mono ?_
  rintro e w1 ⟨rfl, hb⟩
  have HB1 := Lib.hid hb
  have HI := Lib.hid (idxP_iff p l 0)
  clear hb
  go_wp2_with fail
  go_ret
  exact ⟨by rw [← HI.out]; rfl, HB1.out⟩
end Go.Proofs.YtiopgbbggeimaaaGreat

/-
  sound, right, all, sounds: what the statements ask of their arguments.
-/
namespace Go.Proofs.YtiopgbbggeimaaaGreat
open Go.ChangeShapes Go.WideShapes Go.ChangeAt Go.RowKit
theorem rgood_of {I : List PPh} {R : PRule} (h : chkR I R = 0) : RGood I R := by
  unfold chkR at h
  split at h
  · cases h
  rename_i h1
  split at h
  · cases h
  rename_i h2
  split at h
  · cases h
  rename_i h3
  split at h
  · cases h
  rename_i h4
  rw [Bool.not_eq_false, Bool.and_eq_true, List.all_eq_true, List.all_eq_true] at h2
  refine ⟨by omega, by omega, by omega, Decidable.not_not.1 h3, h2.1, fun x hx => ?_⟩
  have := h2.2 x hx
  simpa [okTo] using this
theorem RGood.ok {I : List PPh} {R : PRule} (h : RGood I R) : ROk R := ⟨by have := h.l1; omega, by have := h.l2; omega, h.tl⟩
theorem listB_iff {I : List PPh} {l : List Int} : listB I l = true ↔ (∀ x ∈ l, isB I x = true) ∧ l.length ≤ 24 := by
  rw [listB, Bool.and_eq_true, List.all_eq_true, decide_eq_true_iff]
theorem isB_nz {I : List PPh} {x : Int} (h : isB I x = true) : x ≠ 0 := by
  simp only [isB, Bool.and_eq_true, decide_eq_true_iff] at h; omega
theorem list_nz {I : List PPh} {l : List Int} (h : listB I l = true) : ∀ x ∈ l, x ≠ 0 := fun x hx => isB_nz ((listB_iff.1 h).1 x hx)
end Go.Proofs.YtiopgbbggeimaaaGreat

