/-
  Plain mathematics of acceptance: paths, and the table of what is reached. No program in sight.
-/
import Derived.Test.YtmejihlplbeekaaMem
namespace Go.Proofs.Ytmejihlplbeekaa

def plainB (l : List Int) : Bool := l.all fun x => decide (1 ≤ x)
def sym (x : Int) : List Int := if x = 0 then [] else [x]
def ins (p : List PArc) : List Int := p.flatMap fun a => sym a.inp
def outs (p : List PArc) : List Int := p.flatMap fun a => sym a.out
def chain : Int → List PArc → Int → Prop
  | s, [], t => s = t
  | s, a :: p, t => a.fr = s ∧ chain a.tgt p t
/-- a path of L from s to t that reads xs and writes ys -/
def Path (L : List PArc) (s t : Int) (xs ys : List Int) : Prop := ∃ p, (∀ a, a ∈ p → a ∈ L) ∧ chain s p t ∧ ins p = xs ∧ outs p = ys
def Acc (F : PFst) (xs ys : List Int) : Prop := plainB xs = true ∧ plainB ys = true ∧ ∃ q, q ∈ F.final ∧ Path F.arcs 0 q xs ys

theorem chain_append (p p' : List PArc) (s t : Int) : chain s (p ++ p') t ↔ ∃ m, chain s p m ∧ chain m p' t := by
  induction p generalizing s with
  | nil => simp [chain]
  | cons a p ih =>
    simp only [List.cons_append, chain, ih]
    constructor
    · rintro ⟨h, m, h1, h2⟩; exact ⟨m, ⟨h, h1⟩, h2⟩
    · rintro ⟨m, ⟨h, h1⟩, h2⟩; exact ⟨h, m, h1, h2⟩
theorem ins_append (p p' : List PArc) : ins (p ++ p') = ins p ++ ins p' := by simp [ins]
theorem outs_append (p p' : List PArc) : outs (p ++ p') = outs p ++ outs p' := by simp [outs]
theorem Path.nil (L : List PArc) (s : Int) : Path L s s [] [] := ⟨[], by simp, rfl, rfl, rfl⟩
theorem Path.trans {L : List PArc} {s m t : Int} {xs ys xs' ys' : List Int} (h : Path L s m xs ys) (h' : Path L m t xs' ys') : Path L s t (xs ++ xs') (ys ++ ys') := by
  obtain ⟨p, h1, h2, h3, h4⟩ := h
  obtain ⟨p', h1', h2', h3', h4'⟩ := h'
  refine ⟨p ++ p', ?_, (chain_append _ _ _ _).2 ⟨m, h2, h2'⟩, by rw [ins_append, h3, h3'], by rw [outs_append, h4, h4']⟩
  intro a ha
  rcases List.mem_append.1 ha with h | h
  · exact h1 a h
  · exact h1' a h
theorem Path.one {L : List PArc} {a : PArc} (h : a ∈ L) : Path L a.fr a.tgt (sym a.inp) (sym a.out) :=
  ⟨[a], by simpa using h, ⟨rfl, rfl⟩, by simp [ins], by simp [outs]⟩

/-- one step over an arc reads symbol x at place i of l -/
def stepOk (l : List Int) (i : Nat) (x : Int) : Bool := x == 0 || l[i]? == some x
def stepD (x : Int) : Nat := if x = 0 then 0 else 1
theorem step_take (l : List Int) (i : Nat) (x : Int) (h : stepOk l i x = true) : l.take (i + stepD x) = l.take i ++ sym x := by
  unfold stepOk at h
  unfold stepD sym
  by_cases hx : x = 0
  · simp [hx]
  · simp only [hx, if_false]
    have h2 : l[i]? = some x := by simpa [hx] using h
    rw [List.take_add_one, h2]
    rfl
theorem step_le (l : List Int) (i : Nat) (x : Int) (hi : i ≤ l.length) (h : stepOk l i x = true) : i + stepD x ≤ l.length := by
  unfold stepOk at h
  unfold stepD
  by_cases hx : x = 0
  · simp [hx, hi]
  · have h2 : l[i]? = some x := by simpa [hx] using h
    have := (List.getElem?_eq_some_iff.1 h2).1
    simp only [hx, if_false]
    omega
theorem step_drop (l : List Int) (i : Nat) (x : Int) (r : List Int) (h : sym x ++ r = l.drop i) : stepOk l i x = true ∧ r = l.drop (i + stepD x) := by
  unfold sym at h
  unfold stepOk stepD
  by_cases hx : x = 0
  · simp only [hx, if_true, List.nil_append] at h
    simp [hx, h]
  · simp only [hx, if_false, List.cons_append, List.nil_append] at h
    have hi : l[i]? = some x := by
      have := congrArg (fun t => t[0]?) h
      simpa using this.symm
    have hd : r = l.drop (i + 1) := by
      have := congrArg (fun t => t.drop 1) h
      simpa using this
    simp [hx, hi, hd]

def idx (n m : Nat) (q i k : Nat) : Nat := (q * n + i) * m + k
theorem idx_inj {n m q i k q' i' k' : Nat} (hi : i < n) (hk : k < m) (hi' : i' < n) (hk' : k' < m) (h : idx n m q i k = idx n m q' i' k') : q = q' ∧ i = i' ∧ k = k' := by
  unfold idx at h
  have e1 : ((q * n + i) * m + k) / m = q * n + i := by rw [Nat.mul_comm, Nat.mul_add_div (by omega), Nat.div_eq_of_lt hk]; rfl
  have e2 : ((q' * n + i') * m + k') / m = q' * n + i' := by rw [Nat.mul_comm, Nat.mul_add_div (by omega), Nat.div_eq_of_lt hk']; rfl
  have e3 : q * n + i = q' * n + i' := by rw [← e1, ← e2, h]
  have f1 : (q * n + i) / n = q := by rw [Nat.mul_comm, Nat.mul_add_div (by omega), Nat.div_eq_of_lt hi]; rfl
  have f2 : (q' * n + i') / n = q' := by rw [Nat.mul_comm, Nat.mul_add_div (by omega), Nat.div_eq_of_lt hi']; rfl
  have e4 : q = q' := by rw [← f1, ← f2, e3]
  subst e4
  have e5 : i = i' := by omega
  subst e5
  exact ⟨rfl, rfl, by omega⟩
theorem idx_lt {n m S q i k : Nat} (hq : q < S) (hi : i < n) (hk : k < m) : idx n m q i k < S * n * m := by
  unfold idx
  have h1 : q * n + i < S * n := by
    have : (q + 1) * n ≤ S * n := Nat.mul_le_mul_right n hq
    rw [Nat.add_mul] at this
    omega
  have h2 : (q * n + i + 1) * m ≤ S * n * m := Nat.mul_le_mul_right m h1
  rw [Nat.add_mul (q * n + i) 1 m] at h2
  omega

/-- one place of the table that the reference fills: arc a, places i and k -/
def stf (xs ys : List Int) (a : PArc) (i k : Nat) (s : List Bool × Bool) : List Bool × Bool :=
  if stepOk xs i a.inp && stepOk ys k a.out && s.1.getD (idx (xs.length + 1) (ys.length + 1) a.fr.toNat i k) false then
    (s.1.set (idx (xs.length + 1) (ys.length + 1) a.tgt.toNat (i + stepD a.inp) (k + stepD a.out)) true, s.2 || !s.1.getD (idx (xs.length + 1) (ys.length + 1) a.tgt.toNat (i + stepD a.inp) (k + stepD a.out)) false)
  else s
def rowF (xs ys : List Int) (a : PArc) (i K : Nat) (s : List Bool × Bool) : List Bool × Bool := (List.range K).foldl (fun s k => stf xs ys a i k s) s
def arcF (xs ys : List Int) (a : PArc) (I : Nat) (s : List Bool × Bool) : List Bool × Bool := (List.range I).foldl (fun s i => rowF xs ys a i (ys.length + 1) s) s
def passF (xs ys : List Int) (L : List PArc) (s : List Bool × Bool) : List Bool × Bool := L.foldl (fun s a => arcF xs ys a (xs.length + 1) s) s
theorem rowF_succ (xs ys : List Int) (a : PArc) (i K : Nat) (s : List Bool × Bool) : rowF xs ys a i (K + 1) s = stf xs ys a i K (rowF xs ys a i K s) := by simp [rowF, List.range_succ]
theorem arcF_succ (xs ys : List Int) (a : PArc) (I : Nat) (s : List Bool × Bool) : arcF xs ys a (I + 1) s = rowF xs ys a I (ys.length + 1) (arcF xs ys a I s) := by simp [arcF, List.range_succ]
theorem passF_snoc (xs ys : List Int) (L : List PArc) (a : PArc) (s : List Bool × Bool) : passF xs ys (L ++ [a]) s = arcF xs ys a (xs.length + 1) (passF xs ys L s) := by simp [passF]
def cf : List Bool → Nat
  | [] => 0
  | b :: l => (if b then 0 else 1) + cf l
theorem cf_set (l : List Bool) (j : Nat) : cf (l.set j true) ≤ cf l ∧ (j < l.length → l.getD j false = false → cf (l.set j true) < cf l) := by
  induction l generalizing j with
  | nil => simp [cf]
  | cons b l ih =>
    cases j with
    | zero => cases b <;> simp [cf]
    | succ j => have := ih j; simp only [List.set_cons_succ, cf]; refine ⟨by omega, fun h1 h2 => ?_⟩; have := this.2 (by simpa using h1) (by simpa using h2); omega
theorem set_same (l : List Bool) (j : Nat) (h : l.getD j false = true) : l.set j true = l := by
  induction l generalizing j with
  | nil => rfl
  | cons b l ih =>
    cases j with
    | zero => simp at h; simp [h]
    | succ j => rw [List.set_cons_succ, ih j (by simpa using h)]
theorem getD_set (l : List Bool) (j j' : Nat) : (l.set j true).getD j' false = if j = j' ∧ j < l.length then true else l.getD j' false := by
  induction l generalizing j j' with
  | nil => simp
  | cons b l ih =>
    cases j with
    | zero => cases j' <;> simp
    | succ j => cases j' with
      | zero => simp
      | succ j' => simpa using ih j j'

section
variable (F : PFst) (xs ys : List Int)
/-- the arcs and final states are right -/
def Right : Prop := 1 ≤ F.states ∧ (∀ a, a ∈ F.arcs → 0 ≤ a.fr ∧ a.fr < F.states ∧ 0 ≤ a.tgt ∧ a.tgt < F.states) ∧ ∀ q, q ∈ F.final → 0 ≤ q ∧ q < F.states
def size : Nat := F.states.toNat * (xs.length + 1) * (ys.length + 1)
def at3 (M : List Bool) (q i k : Nat) : Bool := M.getD (idx (xs.length + 1) (ys.length + 1) q i k) false
/-- what is marked is reached -/
def Inv (M : List Bool) : Prop := M.length = size F xs ys ∧ at3 xs ys M 0 0 0 = true ∧
  ∀ q i k, q < F.states.toNat → i ≤ xs.length → k ≤ ys.length → at3 xs ys M q i k = true → Path F.arcs 0 (q : Int) (xs.take i) (ys.take k)
def ClosedAt (M : List Bool) (a : PArc) (i k : Nat) : Prop := stepOk xs i a.inp = true → stepOk ys k a.out = true → at3 xs ys M a.fr.toNat i k = true → at3 xs ys M a.tgt.toNat (i + stepD a.inp) (k + stepD a.out) = true
def Closed (M : List Bool) : Prop := ∀ a, a ∈ F.arcs → ∀ i k, i ≤ xs.length → k ≤ ys.length → ClosedAt xs ys M a i k
/-- what a pass has done so far, from the table M0 -/
def Pass (M0 : List Bool) (D : PArc → Nat → Nat → Prop) (s : List Bool × Bool) : Prop :=
  Inv F xs ys s.1 ∧ cf s.1 ≤ cf M0 ∧ (s.2 = true → cf s.1 < cf M0) ∧ (s.2 = false → s.1 = M0 ∧ ∀ a i k, D a i k → ClosedAt xs ys M0 a i k)
variable {F xs ys}
theorem Pass.step (hR : Right F) {M0 : List Bool} {D : PArc → Nat → Nat → Prop} {s : List Bool × Bool} (h : Pass F xs ys M0 D s) {a : PArc} (ha : a ∈ F.arcs) {i k : Nat} (hi : i ≤ xs.length) (hk : k ≤ ys.length) :
    Pass F xs ys M0 (fun a' i' k' => D a' i' k' ∨ (a' = a ∧ i' = i ∧ k' = k)) (stf xs ys a i k s) := by
  obtain ⟨⟨hl, h0, hp⟩, hc, ht, hf⟩ := h
  obtain ⟨h1, h2, h3, h4⟩ := hR.2.1 a ha
  unfold stf
  by_cases hb : (stepOk xs i a.inp && stepOk ys k a.out && s.1.getD (idx (xs.length + 1) (ys.length + 1) a.fr.toNat i k) false) = true
  · rw [if_pos hb]
    simp only [Bool.and_eq_true] at hb
    obtain ⟨⟨hx, hy⟩, hm⟩ := hb
    have hi' := step_le xs i a.inp hi hx
    have hk' := step_le ys k a.out hk hy
    have hpath := (hp a.fr.toNat i k (by omega) hi hk hm).trans (by have := Path.one ha; rwa [show a.fr = (a.fr.toNat : Int) by omega] at this)
    rw [← step_take xs i a.inp hx, ← step_take ys k a.out hy] at hpath
    have hlt : idx (xs.length + 1) (ys.length + 1) a.tgt.toNat (i + stepD a.inp) (k + stepD a.out) < s.1.length := by
      rw [hl]; exact idx_lt (by omega) (by omega) (by omega)
    have cs := cf_set s.1 (idx (xs.length + 1) (ys.length + 1) a.tgt.toNat (i + stepD a.inp) (k + stepD a.out))
    refine ⟨⟨by simpa using hl, ?_, ?_⟩, by have := cs.1; simp only; omega, ?_, ?_⟩
    · unfold at3 at h0 ⊢; rw [getD_set]; split
      · rfl
      · exact h0
    · intro q i' k' hq hi2 hk2 hat
      unfold at3 at hat
      rw [getD_set] at hat
      split at hat
      · rename_i he
        obtain ⟨e1, e2, e3⟩ := idx_inj (by omega) (by omega) (by omega) (by omega) he.1
        subst e2 e3
        rwa [show (q : Int) = a.tgt by omega]
      · exact hp q i' k' hq hi2 hk2 hat
    · intro hb
      simp only [Bool.or_eq_true, Bool.not_eq_true'] at hb
      rcases hb with hb | hb
      · have := ht hb; have := cs.1; simp only; omega
      · have := cs.2 hlt hb; simp only; omega
    · intro hb
      simp only [Bool.or_eq_false_iff, Bool.not_eq_false'] at hb
      obtain ⟨e, hd⟩ := hf hb.1
      have es := set_same s.1 _ hb.2
      refine ⟨by rw [es, e], ?_⟩
      rintro a' i' k' (h | ⟨rfl, rfl, rfl⟩)
      · exact hd a' i' k' h
      · intro _ _ _
        rw [← e]
        exact hb.2
  · rw [if_neg hb]
    refine ⟨⟨hl, h0, hp⟩, hc, ht, fun hb2 => ?_⟩
    obtain ⟨e, hd⟩ := hf hb2
    refine ⟨e, ?_⟩
    rintro a' i' k' (h | ⟨rfl, rfl, rfl⟩)
    · exact hd a' i' k' h
    · intro c1 c2 c3
      exfalso
      apply hb
      unfold at3 at c3
      rw [e, c1, c2, c3]
      rfl
theorem Pass.weaken {M0 : List Bool} {D D' : PArc → Nat → Nat → Prop} {s : List Bool × Bool} (h : Pass F xs ys M0 D s) (hD : ∀ a i k, D' a i k → D a i k) : Pass F xs ys M0 D' s :=
  ⟨h.1, h.2.1, h.2.2.1, fun hb => ⟨(h.2.2.2 hb).1, fun a i k hd => (h.2.2.2 hb).2 a i k (hD a i k hd)⟩⟩
theorem Pass.row (hR : Right F) {M0 : List Bool} {D : PArc → Nat → Nat → Prop} {s : List Bool × Bool} (h : Pass F xs ys M0 D s) {a : PArc} (ha : a ∈ F.arcs) {i : Nat} (hi : i ≤ xs.length) (K : Nat) (hK : K ≤ ys.length + 1) :
    Pass F xs ys M0 (fun a' i' k' => D a' i' k' ∨ (a' = a ∧ i' = i ∧ k' < K)) (rowF xs ys a i K s) := by
  induction K with
  | zero => exact h.weaken (by rintro a' i' k' (h | ⟨_, _, h⟩); exact h; omega)
  | succ K ih =>
    rw [rowF_succ]
    refine ((ih (by omega)).step hR ha hi (k := K) (by omega)).weaken ?_
    rintro a' i' k' (h | ⟨h1, h2, h3⟩)
    · exact .inl (.inl h)
    · by_cases e : k' = K
      · exact .inr ⟨h1, h2, e⟩
      · exact .inl (.inr ⟨h1, h2, by omega⟩)
theorem Pass.arc (hR : Right F) {M0 : List Bool} {D : PArc → Nat → Nat → Prop} {s : List Bool × Bool} (h : Pass F xs ys M0 D s) {a : PArc} (ha : a ∈ F.arcs) (I : Nat) (hI : I ≤ xs.length + 1) :
    Pass F xs ys M0 (fun a' i' k' => D a' i' k' ∨ (a' = a ∧ i' < I ∧ k' ≤ ys.length)) (arcF xs ys a I s) := by
  induction I with
  | zero => exact h.weaken (by rintro a' i' k' (h | ⟨_, h, _⟩); exact h; omega)
  | succ I ih =>
    rw [arcF_succ]
    refine ((ih (by omega)).row hR ha (i := I) (by omega) (ys.length + 1) (Nat.le_refl _)).weaken ?_
    rintro a' i' k' (h | ⟨h1, h2, h3⟩)
    · exact .inl (.inl h)
    · by_cases e : i' = I
      · exact .inr ⟨h1, e, by omega⟩
      · exact .inl (.inr ⟨h1, by omega, h3⟩)
theorem Pass.arcs (hR : Right F) (L : List PArc) (hL : ∀ a, a ∈ L → a ∈ F.arcs) : ∀ {M0 : List Bool} {D : PArc → Nat → Nat → Prop} {s : List Bool × Bool}, Pass F xs ys M0 D s →
    Pass F xs ys M0 (fun a' i' k' => D a' i' k' ∨ (a' ∈ L ∧ i' ≤ xs.length ∧ k' ≤ ys.length)) (passF xs ys L s) := by
  induction L with
  | nil => intro M0 D s h; exact h.weaken (by rintro a' i' k' (h | ⟨h, _, _⟩); exact h; cases h)
  | cons a L ih =>
    intro M0 D s h
    have h1 := h.arc hR (hL a (by simp)) (xs.length + 1) (Nat.le_refl _)
    have h2 := ih (fun b hb => hL b (by simp [hb])) h1
    refine h2.weaken ?_
    rintro a' i' k' (h | ⟨h1, h2, h3⟩)
    · exact .inl (.inl h)
    · rcases List.mem_cons.1 h1 with e | e
      · exact .inl (.inr ⟨e, by omega, h3⟩)
      · exact .inr ⟨e, h2, h3⟩
/-- A whole pass: the table stays right; it has changed something, or is closed. -/
theorem pass_whole (hR : Right F) {M : List Bool} (h : Inv F xs ys M) : Inv F xs ys (passF xs ys F.arcs (M, false)).1 ∧ ((passF xs ys F.arcs (M, false)).2 = true → cf (passF xs ys F.arcs (M, false)).1 < cf M) ∧
    ((passF xs ys F.arcs (M, false)).2 = false → Closed F xs ys (passF xs ys F.arcs (M, false)).1) := by
  have h0 : Pass F xs ys M (fun _ _ _ => False) (M, false) := ⟨h, Nat.le_refl _, (fun hb => by cases hb), fun _ => ⟨rfl, fun _ _ _ h => h.elim⟩⟩
  obtain ⟨h1, _, h3, h4⟩ := Pass.arcs hR F.arcs (fun _ h => h) h0
  refine ⟨h1, h3, fun hb a ha i k hi hk => ?_⟩
  obtain ⟨e, hd⟩ := h4 hb
  rw [e]
  exact hd a i k (.inr ⟨ha, hi, hk⟩)
theorem pass_le (hR : Right F) {M : List Bool} (h : Inv F xs ys M) : cf (passF xs ys F.arcs (M, false)).1 ≤ cf M := by
  have h0 : Pass F xs ys M (fun _ _ _ => False) (M, false) := ⟨h, Nat.le_refl _, (fun hb => by cases hb), fun _ => ⟨rfl, fun _ _ _ h => h.elim⟩⟩
  exact (Pass.arcs hR F.arcs (fun _ h => h) h0).2.1
theorem complete (hR : Right F) {M : List Bool} (hc : Closed F xs ys M) {t : Int} (p : List PArc) : ∀ (q : Int) (i k : Nat), 0 ≤ q → i ≤ xs.length → k ≤ ys.length → (∀ a, a ∈ p → a ∈ F.arcs) → chain q p t → ins p = xs.drop i → outs p = ys.drop k →
    at3 xs ys M q.toNat i k = true → at3 xs ys M t.toNat xs.length ys.length = true := by
  induction p with
  | nil =>
    intro q i k _ hi hk _ hch h1 h2 hm
    have e1 : i = xs.length := by have := congrArg List.length h1; simp [ins] at this; omega
    have e2 : k = ys.length := by have := congrArg List.length h2; simp [outs] at this; omega
    subst e1 e2
    simp only [chain] at hch
    subst hch
    exact hm
  | cons a p ih =>
    intro q i k hq hi hk hs hch h1 h2 hm
    obtain ⟨rfl, hch⟩ := hch
    have ha := hs a (by simp)
    obtain ⟨o1, d1⟩ := step_drop xs i a.inp (ins p) (by rw [← h1]; simp [ins])
    obtain ⟨o2, d2⟩ := step_drop ys k a.out (outs p) (by rw [← h2]; simp [outs])
    have := hc a ha i k hi hk o1 o2 hm
    exact ih a.tgt _ _ (hR.2.1 a ha).2.2.1 (step_le _ _ _ hi o1) (step_le _ _ _ hk o2) (fun b hb => hs b (by simp [hb])) hch d1 d2 this
open Classical in
/-- acceptance, as a bool -/
noncomputable def accB (F : PFst) (xs ys : List Int) : Bool := decide (Acc F xs ys)
theorem accB_iff (F : PFst) (xs ys : List Int) : accB F xs ys = true ↔ Acc F xs ys := by simp [accB]
theorem accB_no (F : PFst) (xs ys : List Int) (h : plainB xs = false ∨ plainB ys = false) : accB F xs ys = false := by
  rw [← Bool.not_eq_true, accB_iff]
  rintro ⟨h1, h2, _⟩
  rcases h with h | h
  · rw [h] at h1; cases h1
  · rw [h] at h2; cases h2
/-- what the last loop of the reference asks is acceptance -/
theorem accB_of (hR : Right F) {M : List Bool} (hi : Inv F xs ys M) (hc : Closed F xs ys M) (hx : plainB xs = true) (hy : plainB ys = true) : F.final.any (fun q => at3 xs ys M q.toNat xs.length ys.length) = accB F xs ys := by
  rw [Bool.eq_iff_iff, accB_iff, List.any_eq_true]
  constructor
  · rintro ⟨q, hq, hm⟩
    obtain ⟨h1, h2⟩ := hR.2.2 q hq
    have := hi.2.2 q.toNat xs.length ys.length (by omega) (Nat.le_refl _) (Nat.le_refl _) hm
    rw [List.take_length, List.take_length, show ((q.toNat : Nat) : Int) = q by omega] at this
    exact ⟨hx, hy, q, hq, this⟩
  · rintro ⟨_, _, q, hq, p, h1, h2, h3, h4⟩
    exact ⟨q, hq, complete hR hc p 0 0 0 (Int.le_refl _) (Nat.zero_le _) (Nat.zero_le _) h1 h2 (by simpa using h3) (by simpa using h4) hi.2.1⟩
/-- the table at the start -/
theorem inv_start (hR : Right F) : Inv F xs ys ((List.replicate (size F xs ys) false).set 0 true) := by
  have hs : 0 < size F xs ys := by
    unfold size
    have := hR.1
    exact Nat.mul_pos (Nat.mul_pos (by omega) (by omega)) (by omega)
  refine ⟨by simp, ?_, ?_⟩
  · unfold at3; rw [getD_set]; simp [idx, hs]
  · intro q i k hq hi hk hat
    unfold at3 at hat
    rw [getD_set] at hat
    split at hat
    · rename_i he
      have e0 : idx (xs.length + 1) (ys.length + 1) 0 0 0 = 0 := by simp [idx]
      obtain ⟨e1, e2, e3⟩ := idx_inj (q := 0) (i := 0) (k := 0) (by omega) (by omega) (by omega) (by omega) (e0.trans he.1)
      subst e1 e2 e3
      simpa using Path.nil F.arcs 0
    · simp [List.getElem?_replicate] at hat
      split at hat <;> cases hat
end
end Go.Proofs.Ytmejihlplbeekaa
