/-
  The search for the lists that a rule turns into a given one, in plain words: it finds what the reference finds by trying all lists, in the same order.
-/
import Derived.Test.YtdijlakeonionaaQP1
namespace Go.Proofs.Ytdijlakeonionaa
structure Pl where
  s : St
  at_ : Nat
  left : Nat
  deriving DecidableEq
def stepAt (w : List Int) (a : Nat) (o : Int) : Option Nat := if o = 0 then some a else if w[a]? = some o then some (a + 1) else none
def stepO (w : List Int) (p : Pl) (x : Int × St) : Option Pl := (stepAt w p.at_ x.1).map fun a => ⟨x.2, a, p.left - 1⟩
def stepP (I : List PPh) (R : PRule) (w : List Int) (p : Pl) (g : Int) : List Pl := (nextM I R p.s g).filterMap (stepO w p)
def doneP (R : PRule) (w : List Int) (p : Pl) : Bool := decide (p.at_ = w.length) && endM R p.s
def canL (I : List PPh) (R : PRule) (w : List Int) : Nat → St → Nat → Bool
  | 0, s, a => doneP R w ⟨s, a, 0⟩
  | k + 1, s, a => doneP R w ⟨s, a, 0⟩ || (decide (w.length ≤ a + (k + 1)) && (List.range I.length).any fun (j : Nat) => (stepP I R w ⟨s, a, k + 1⟩ ((j : Int) + 1)).any fun q => canL I R w k q.s q.at_)
def canP (I : List PPh) (R : PRule) (w : List Int) (p : Pl) : Bool := canL I R w p.left p.s p.at_
theorem stepP_left {I : List PPh} {R : PRule} {w : List Int} {p q : Pl} {g : Int} (h : q ∈ stepP I R w p g) : q.left = p.left - 1 := by
  obtain ⟨x, _, hx⟩ := List.mem_filterMap.1 h
  unfold stepO at hx
  cases hs : stepAt w p.at_ x.1 with
  | none => rw [hs] at hx; cases hx
  | some a => rw [hs] at hx; injection hx with hx; rw [← hx]
theorem any_congr_mem {α : Type} {l : List α} {f g : α → Bool} (h : ∀ x ∈ l, f x = g x) : l.any f = l.any g := by
  induction l with
  | nil => rfl
  | cons a l ih => rw [List.any_cons, List.any_cons, h a (by simp), ih fun x hx => h x (by simp [hx])]
def canN (I : List PPh) (R : PRule) (w : List Int) (p : Pl) (n : Nat) : Bool := (List.range n).any fun (j : Nat) => (stepP I R w p ((j : Int) + 1)).any (canP I R w)
theorem canN_succ (I : List PPh) (R : PRule) (w : List Int) (p : Pl) (n : Nat) : canN I R w p (n + 1) = (canN I R w p n || (stepP I R w p ((n : Int) + 1)).any (canP I R w)) := by
  rw [canN, List.range_succ, List.any_append]; simp [canN]
theorem canP_zero (I : List PPh) (R : PRule) (w : List Int) (p : Pl) (h : p.left = 0) : canP I R w p = doneP R w p := by
  unfold canP; rw [h, canL]; rfl
theorem canP_succ (I : List PPh) (R : PRule) (w : List Int) (p : Pl) (h : p.left ≠ 0) : canP I R w p = (doneP R w p || (decide (w.length ≤ p.at_ + p.left) && canN I R w p I.length)) := by
  obtain ⟨s, a, k⟩ := p
  cases k with
  | zero => exact absurd rfl h
  | succ k =>
    show canL I R w (k + 1) s a = _
    have key : ((List.range I.length).any fun (j : Nat) => (stepP I R w ⟨s, a, k + 1⟩ ((j : Int) + 1)).any fun q => canL I R w k q.s q.at_) = canN I R w ⟨s, a, k + 1⟩ I.length := by
      unfold canN
      refine any_congr_mem fun j _ => any_congr_mem fun q hq => ?_
      have := stepP_left hq
      unfold canP
      rw [this]; rfl
    rw [canL, key]; rfl
def rng (I : List PPh) (v : List Int) : Prop := ∀ x ∈ v, isB I x = true
theorem accM_len (I : List PPh) (R : PRule) : ∀ (v : List Int) (s : St) (out : List Int), accM I R s v out → out.length ≤ v.length
  | [], s, out, h => by rw [h.2]; exact Nat.le_refl _
  | x :: v, s, out, h => by
    obtain ⟨p, _, o, rfl, h2⟩ := h
    have := accM_len I R v _ _ h2
    have hs : (sym p.1).length ≤ 1 := by unfold sym; split <;> simp
    simp; omega
theorem step_at {w : List Int} {a : Nat} {o : Int} (ha : a ≤ w.length) (P : List Int → Prop) : (∃ u, w.drop a = sym o ++ u ∧ P u) ↔ ∃ b, stepAt w a o = some b ∧ b ≤ w.length ∧ P (w.drop b) := by
  unfold stepAt sym
  by_cases h0 : o = 0
  · simp only [if_pos h0, List.nil_append]
    constructor
    · rintro ⟨u, rfl, h⟩; exact ⟨a, rfl, ha, h⟩
    · rintro ⟨b, e, _, h⟩; injection e with e; exact ⟨_, rfl, e ▸ h⟩
  · simp only [if_neg h0]
    constructor
    · rintro ⟨u, hu, h⟩
      have hl : a < w.length := by
        rcases Nat.lt_or_ge a w.length with h' | h'
        · exact h'
        · rw [List.drop_of_length_le h'] at hu; cases hu
      rw [List.drop_eq_getElem_cons hl] at hu
      have e1 := (List.cons.inj hu).1
      have e2 : w.drop (a + 1) = u := (List.cons.inj hu).2
      rw [if_pos (by rw [List.getElem?_eq_getElem hl, e1])]
      exact ⟨a + 1, rfl, hl, by rw [e2]; exact h⟩
    · rintro ⟨b, e, hb, h⟩
      by_cases hw : w[a]? = some o
      · rw [if_pos hw] at e
        injection e with e
        obtain ⟨hl, e1⟩ := List.getElem?_eq_some_iff.1 hw
        refine ⟨w.drop (a + 1), ?_, by rw [e]; exact h⟩
        rw [List.drop_eq_getElem_cons hl, e1]; rfl
      · rw [if_neg hw] at e; cases e
theorem acc_step {I : List PPh} {R : PRule} {w : List Int} {p : Pl} (ha : p.at_ ≤ w.length) (x : Int) (v : List Int) :
    accM I R p.s (x :: v) (w.drop p.at_) ↔ ∃ q, q ∈ stepP I R w p x ∧ accM I R q.s v (w.drop q.at_) := by
  constructor
  · rintro ⟨m, hm, h⟩
    obtain ⟨b, hb, hb2, hb3⟩ := (step_at ha (fun u => accM I R m.2 v u)).1 h
    exact ⟨⟨m.2, b, p.left - 1⟩, List.mem_filterMap.2 ⟨m, hm, by rw [stepO, hb]; rfl⟩, hb3⟩
  · rintro ⟨q, hq, h⟩
    obtain ⟨m, hm, hx⟩ := List.mem_filterMap.1 hq
    unfold stepO at hx
    cases hs : stepAt w p.at_ m.1 with
    | none => rw [hs] at hx; cases hx
    | some b =>
      rw [hs] at hx
      injection hx with hx
      subst hx
      have hb : b ≤ w.length := by
        unfold stepAt at hs
        split at hs
        · injection hs with hs; omega
        · split at hs
          · rename_i hw
            obtain ⟨hl, _⟩ := List.getElem?_eq_some_iff.1 hw
            injection hs with hs; omega
          · cases hs
      exact ⟨m, hm, (step_at ha (fun u => accM I R m.2 v u)).2 ⟨b, hs, hb, h⟩⟩
theorem stepP_at {I : List PPh} {R : PRule} {w : List Int} {p q : Pl} {g : Int} (ha : p.at_ ≤ w.length) (h : q ∈ stepP I R w p g) : q.at_ ≤ w.length := by
  obtain ⟨m, hm, hx⟩ := List.mem_filterMap.1 h
  unfold stepO at hx
  cases hs : stepAt w p.at_ m.1 with
  | none => rw [hs] at hx; cases hx
  | some b =>
    rw [hs] at hx
    injection hx with hx
    subst hx
    unfold stepAt at hs
    split at hs
    · injection hs with hs; show b ≤ _; omega
    · split at hs
      · rename_i hw
        obtain ⟨hl, _⟩ := List.getElem?_eq_some_iff.1 hw
        injection hs with hs; show b ≤ _; omega
      · cases hs
theorem done_iff {I : List PPh} {R : PRule} {w : List Int} {p : Pl} (ha : p.at_ ≤ w.length) : doneP R w p = true ↔ accM I R p.s [] (w.drop p.at_) := by
  rw [doneP, Bool.and_eq_true, decide_eq_true_iff]
  constructor
  · rintro ⟨h1, h2⟩; exact ⟨h2, by rw [h1, List.drop_length]⟩
  · rintro ⟨h1, h2⟩
    have := congrArg List.length h2
    simp at this
    exact ⟨by omega, h1⟩
theorem isB_of {I : List PPh} {x : Int} (h : isB I x = true) : ∃ j : Nat, j < I.length ∧ x = (j : Int) + 1 := by
  simp only [isB, Bool.and_eq_true, decide_eq_true_iff] at h
  exact ⟨(x - 1).toNat, by omega, by omega⟩
theorem isB_succ {I : List PPh} {j : Nat} (h : j < I.length) : isB I ((j : Int) + 1) = true := by
  simp only [isB, Bool.and_eq_true, decide_eq_true_iff]; omega
theorem can_iff (I : List PPh) (R : PRule) (w : List Int) : ∀ (k : Nat) (p : Pl), p.left = k → p.at_ ≤ w.length → (canP I R w p = true ↔ ∃ v, v.length ≤ k ∧ rng I v ∧ accM I R p.s v (w.drop p.at_))
  | 0, p, hk, ha => by
    rw [canP_zero I R w p hk, done_iff (I := I) ha]
    constructor
    · intro h; exact ⟨[], Nat.le_refl _, fun x hx => (nomatch hx), h⟩
    · rintro ⟨v, hv, _, h⟩
      rw [List.length_eq_zero_iff.1 (Nat.le_zero.1 hv)] at h
      exact h
  | k + 1, p, hk, ha => by
    rw [canP_succ I R w p (by omega), Bool.or_eq_true, Bool.and_eq_true, decide_eq_true_iff, done_iff (I := I) ha, canN]
    simp only [List.any_eq_true, List.mem_range]
    constructor
    · rintro (h | ⟨_, j, hj, q, hq, hc⟩)
      · exact ⟨[], Nat.zero_le _, fun x hx => (nomatch hx), h⟩
      · obtain ⟨v, hv, hr, h⟩ := (can_iff I R w k q (by rw [stepP_left hq, hk]; rfl) (stepP_at ha hq)).1 hc
        refine ⟨((j : Int) + 1) :: v, by simpa using hv, fun x hx => ?_, (acc_step ha _ v).2 ⟨q, hq, h⟩⟩
        rcases List.mem_cons.1 hx with rfl | hx
        · exact isB_succ hj
        · exact hr x hx
    · rintro ⟨v, hv, hr, h⟩
      cases v with
      | nil => exact .inl h
      | cons x v =>
        right
        have hl := accM_len I R _ _ _ h
        rw [List.length_drop] at hl
        refine ⟨by simp at hl hv; omega, ?_⟩
        obtain ⟨j, hj, rfl⟩ := isB_of (hr x (by simp))
        obtain ⟨q, hq, h2⟩ := (acc_step ha _ v).1 h
        exact ⟨j, hj, q, hq, (can_iff I R w k q (by rw [stepP_left hq, hk]; rfl) (stepP_at ha hq)).2 ⟨v, by simpa using hv, fun y hy => hr y (by simp [hy]), h2⟩⟩
/-- the places behind some places -/
def nextS (I : List PPh) (R : PRule) (w : List Int) (l : List Pl) (g : Int) : List Pl := (l.flatMap fun p => stepP I R w p g).filter (canP I R w)
def srchK (I : List PPh) (R : PRule) (w : List Int) (rec : List Int → List Pl → List (List Int)) (word : List Int) (l : List Pl) (n : Nat) : List (List Int) :=
  (List.range n).flatMap fun (j : Nat) => if nextS I R w l ((j : Int) + 1) = [] then [] else rec (word ++ [(j : Int) + 1]) (nextS I R w l ((j : Int) + 1))
def srch (I : List PPh) (R : PRule) (w : List Int) : Nat → List Int → List Pl → List (List Int)
  | 0, word, l => if l.any (doneP R w) then [word] else []
  | k + 1, word, l => (if l.any (doneP R w) then [word] else []) ++ srchK I R w (srch I R w k) word l I.length
def fromK (rec : List Int → List (List Int)) (u : List Int) (n : Nat) : List (List Int) := (List.range n).flatMap fun (j : Nat) => rec (u ++ [(j : Int) + 1])
def fromL (I : List PPh) (R : PRule) (w : List Int) : Nat → List Int → List (List Int)
  | 0, u => if applyF I R u = w then [u] else []
  | k + 1, u => (if applyF I R u = w then [u] else []) ++ fromK (fromL I R w k) u I.length
theorem srchK_succ (I : List PPh) (R : PRule) (w : List Int) (rec : List Int → List Pl → List (List Int)) (word : List Int) (l : List Pl) (n : Nat) :
    srchK I R w rec word l (n + 1) = srchK I R w rec word l n ++ if nextS I R w l ((n : Int) + 1) = [] then [] else rec (word ++ [(n : Int) + 1]) (nextS I R w l ((n : Int) + 1)) := by
  rw [srchK, List.range_succ, List.flatMap_append]; simp [srchK]
theorem fromK_succ (rec : List Int → List (List Int)) (u : List Int) (n : Nat) : fromK rec u (n + 1) = fromK rec u n ++ rec (u ++ [(n : Int) + 1]) := by
  rw [fromK, List.range_succ, List.flatMap_append]; simp [fromK]
theorem from_mem (I : List PPh) (R : PRule) (w : List Int) : ∀ (k : Nat) (u x : List Int), x ∈ fromL I R w k u ↔ ∃ v, v.length ≤ k ∧ rng I v ∧ x = u ++ v ∧ applyF I R x = w
  | 0, u, x => by
    rw [fromL]
    constructor
    · intro h
      split at h
      · rename_i ha
        rw [List.mem_singleton.1 h]
        exact ⟨[], Nat.le_refl _, fun x hx => (nomatch hx), by simp, ha⟩
      · cases h
    · rintro ⟨v, hv, _, rfl, h⟩
      rw [List.length_eq_zero_iff.1 (Nat.le_zero.1 hv), List.append_nil] at h ⊢
      rw [if_pos h]; simp
  | k + 1, u, x => by
    rw [fromL, List.mem_append, fromK, List.mem_flatMap]
    constructor
    · rintro (h | ⟨j, hj, h⟩)
      · split at h
        · rename_i ha
          rw [List.mem_singleton.1 h]
          exact ⟨[], Nat.zero_le _, fun x hx => (nomatch hx), by simp, ha⟩
        · cases h
      · obtain ⟨v, hv, hr, rfl, h2⟩ := (from_mem I R w k _ x).1 h
        refine ⟨((j : Int) + 1) :: v, by simpa using hv, fun x hx => ?_, by simp, h2⟩
        rcases List.mem_cons.1 hx with rfl | hx
        · exact isB_succ (List.mem_range.1 hj)
        · exact hr x hx
    · rintro ⟨v, hv, hr, rfl, h⟩
      cases v with
      | nil => left; rw [List.append_nil] at h ⊢; rw [if_pos h]; simp
      | cons y v =>
        right
        obtain ⟨j, hj, rfl⟩ := isB_of (hr y (by simp))
        exact ⟨j, List.mem_range.2 hj, (from_mem I R w k _ _).2 ⟨v, by simpa using hv, fun y hy => hr y (by simp [hy]), by simp, h⟩⟩
theorem flatMap_congr_mem {α β : Type} {l : List α} {f g : α → List β} (h : ∀ x ∈ l, f x = g x) : l.flatMap f = l.flatMap g := by
  induction l with
  | nil => rfl
  | cons a l ih => rw [List.flatMap_cons, List.flatMap_cons, h a (by simp), ih fun x hx => h x (by simp [hx])]
def Trk (I : List PPh) (R : PRule) (w : List Int) (k : Nat) (word : List Int) (l : List Pl) : Prop :=
  (∀ p ∈ l, p.left = k ∧ p.at_ ≤ w.length) ∧ ∀ v, v.length ≤ k → rng I v → ((∃ p, p ∈ l ∧ accM I R p.s v (w.drop p.at_)) ↔ applyF I R (word ++ v) = w)
theorem Trk.done {I : List PPh} {R : PRule} {w : List Int} {k : Nat} {word : List Int} {l : List Pl} (h : Trk I R w k word l) : l.any (doneP R w) = true ↔ applyF I R word = w := by
  have := h.2 [] (Nat.zero_le _) (fun x hx => (nomatch hx))
  rw [List.append_nil] at this
  rw [← this, List.any_eq_true]
  constructor
  · rintro ⟨p, hp, hd⟩; exact ⟨p, hp, (done_iff (h.1 p hp).2).1 hd⟩
  · rintro ⟨p, hp, hd⟩; exact ⟨p, hp, (done_iff (h.1 p hp).2).2 hd⟩
theorem Trk.step {I : List PPh} {R : PRule} {w : List Int} {k : Nat} {word : List Int} {l : List Pl} (h : Trk I R w (k + 1) word l) {j : Nat} (hj : j < I.length) : Trk I R w k (word ++ [(j : Int) + 1]) (nextS I R w l ((j : Int) + 1)) := by
  have hq : ∀ q, q ∈ (l.flatMap fun p => stepP I R w p ((j : Int) + 1)) → q.left = k ∧ q.at_ ≤ w.length := by
    intro q hq
    obtain ⟨p, hp, hs⟩ := List.mem_flatMap.1 hq
    exact ⟨by rw [stepP_left hs, (h.1 p hp).1]; rfl, stepP_at (h.1 p hp).2 hs⟩
  refine ⟨fun q hm => hq q (List.mem_filter.1 hm).1, fun v hv hr => ?_⟩
  rw [List.append_assoc, List.singleton_append, ← h.2 (((j : Int) + 1) :: v) (by simpa using hv) (fun x hx => by
    rcases List.mem_cons.1 hx with rfl | hx
    · exact isB_succ hj
    · exact hr x hx)]
  constructor
  · rintro ⟨q, hm, ha⟩
    obtain ⟨p, hp, hs⟩ := List.mem_flatMap.1 (List.mem_filter.1 hm).1
    exact ⟨p, hp, (acc_step (h.1 p hp).2 _ v).2 ⟨q, hs, ha⟩⟩
  · rintro ⟨p, hp, ha⟩
    obtain ⟨q, hs, ha⟩ := (acc_step (h.1 p hp).2 _ v).1 ha
    have hm : q ∈ l.flatMap fun p => stepP I R w p ((j : Int) + 1) := List.mem_flatMap.2 ⟨p, hp, hs⟩
    exact ⟨q, List.mem_filter.2 ⟨hm, (can_iff I R w k q (hq q hm).1 (hq q hm).2).2 ⟨v, hv, hr, ha⟩⟩, ha⟩
theorem Trk.none {I : List PPh} {R : PRule} {w : List Int} {k : Nat} {word : List Int} (h : Trk I R w k word []) : fromL I R w k word = [] := by
  rw [List.eq_nil_iff_forall_not_mem]
  intro x hx
  obtain ⟨v, hv, hr, rfl, h2⟩ := (from_mem I R w k word x).1 hx
  obtain ⟨p, hp, _⟩ := (h.2 v hv hr).2 h2
  cases hp
theorem srch_eq (I : List PPh) (R : PRule) (w : List Int) : ∀ (k : Nat) (word : List Int) (l : List Pl), Trk I R w k word l → srch I R w k word l = fromL I R w k word
  | 0, word, l, h => by
    rw [srch, fromL]
    by_cases hd : applyF I R word = w
    · rw [if_pos hd, if_pos (h.done.2 hd)]
    · rw [if_neg hd, if_neg fun hh => hd (h.done.1 hh)]
  | k + 1, word, l, h => by
    rw [srch, fromL]
    congr 1
    · by_cases hd : applyF I R word = w
      · rw [if_pos hd, if_pos (h.done.2 hd)]
      · rw [if_neg hd, if_neg fun hh => hd (h.done.1 hh)]
    · rw [srchK, fromK]
      refine flatMap_congr_mem fun j hj => ?_
      have ht := h.step (List.mem_range.1 hj)
      split
      · rename_i he
        rw [he] at ht
        exact ht.none.symm
      · exact srch_eq I R w k _ _ ht
theorem srch_start (I : List PPh) (R : PRule) (w : List Int) (k : Nat) (hl : R.lft.length ≤ 2) (hr : R.rgt.length ≤ 2) : srch I R w k [] [⟨St.zero, 0, k⟩] = fromL I R w k [] := by
  refine srch_eq I R w k [] _ ⟨fun p hp => ?_, fun v _ _ => ?_⟩
  · rw [List.mem_singleton.1 hp]; exact ⟨rfl, Nat.zero_le _⟩
  · rw [List.nil_append]
    constructor
    · rintro ⟨p, hp, h⟩
      rw [List.mem_singleton.1 hp] at h
      exact ((acc_start I R hl hr v w).1 h).symm
    · intro h
      exact ⟨_, List.mem_singleton.2 rfl, (acc_start I R hl hr v w).2 h.symm⟩
end Go.Proofs.Ytdijlakeonionaa
