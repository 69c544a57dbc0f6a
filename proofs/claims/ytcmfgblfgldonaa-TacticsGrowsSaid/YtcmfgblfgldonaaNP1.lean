/-
  Sets of states that are reached: plain laws.
-/
import Derived.Test.YtcmfgblfgldonaaN3
namespace Go.Proofs.Ytcmfgblfgldonaa
theorem withB_bit (m : Nat) (t : Int) (q : Nat) : (withB m t).testBit q = (m.testBit q || decide (t.toNat = q)) := by
  unfold withB
  rw [Nat.testBit_or, Nat.one_shiftLeft, Nat.testBit_two_pow]
theorem fold_bit (f : PStep → Bool) (l : List PStep) (o q : Nat) : (l.foldl (fun o s => if f s then withB o s.tgt else o) o).testBit q = (o.testBit q || l.any fun s => f s && decide (s.tgt.toNat = q)) := by
  induction l generalizing o with
  | nil => simp
  | cons s l ih =>
    rw [List.foldl_cons, ih, List.any_cons]
    cases hf : f s <;> simp [withB_bit, Bool.or_assoc]
theorem addC_eq (c : Int) : addC c = fun o s => if decide (s.cls = c) then withB o s.tgt else o := by funext o s; unfold addC; by_cases h : s.cls = c <;> simp [h]
theorem addAny_eq : addAny = fun o s => if (fun _ : PStep => true) s then withB o s.tgt else o := by funext o s; simp [addAny]
theorem after_bit (L : List PStep) (m : Nat) (c : Int) (q : Nat) : (afterF L m c).testBit q = L.any fun s => bitI m s.fr && (decide (s.cls = c) && decide (s.tgt.toNat = q)) := by
  rw [afterF, addC_eq, fold_bit, fromL, List.any_filter]
  simp [Nat.zero_testBit]
theorem round_bit (L : List PStep) (m : Nat) (q : Nat) : (roundF L m).testBit q = (m.testBit q || L.any fun s => bitI m s.fr && decide (s.tgt.toNat = q)) := by
  rw [roundF, addAny_eq, fold_bit, fromL, List.any_filter]
  simp
def iterF (L : List PStep) : Nat → Nat → Nat
  | 0, m => m
  | k + 1, m => iterF L k (roundF L m)
theorem iterF_succ (L : List PStep) (k m : Nat) : iterF L (k + 1) m = roundF L (iterF L k m) := by
  induction k generalizing m with
  | zero => rfl
  | succ k ih => rw [iterF, ih]; rfl
theorem iterF_fix (L : List PStep) (k : Nat) {m : Nat} (h : roundF L m = m) : iterF L k m = m := by
  induction k with
  | zero => rfl
  | succ k ih => rw [iterF, h, ih]
/-- what is reached from m, in a net of S states -/
def reachF (L : List PStep) (S m : Nat) : Nat := iterF L S m
def cnt (S m : Nat) : Nat := ((List.range S).filter fun q => m.testBit q).length
theorem cnt_le (S m : Nat) : cnt S m ≤ S := by have := List.length_filter_le (fun q => m.testBit q) (List.range S); simpa [cnt] using this
theorem sub_grow {S m M : Nat} (h : ∀ q, m.testBit q = true → M.testBit q = true) : cnt S m ≤ cnt S M := by
  unfold cnt
  induction List.range S with
  | nil => simp
  | cons q l ih =>
    simp only [List.filter_cons]
    cases hm : m.testBit q
    · cases hM : M.testBit q
      · simpa using ih
      · simp; omega
    · rw [h q hm]; simpa using ih
theorem cnt_lt {S m M : Nat} (hm : m < 2 ^ S) (hM : M < 2 ^ S) (h : ∀ q, m.testBit q = true → M.testBit q = true) (hne : M ≠ m) : cnt S m < cnt S M := by
  have hex : ∃ q, q < S ∧ m.testBit q = false ∧ M.testBit q = true := by
    rcases Classical.em (∃ q, q < S ∧ m.testBit q = false ∧ M.testBit q = true) with h1 | h1
    · exact h1
    · exfalso
      apply hne
      refine Nat.eq_of_testBit_eq fun q => ?_
      rcases Nat.lt_or_ge q S with hq | hq
      · cases hmq : m.testBit q
        · cases hMq : M.testBit q
          · rfl
          · exact absurd ⟨q, hq, hmq, hMq⟩ h1
        · exact h q hmq
      · rw [Nat.testBit_lt_two_pow (Nat.lt_of_lt_of_le hm (Nat.pow_le_pow_right (by decide) hq)), Nat.testBit_lt_two_pow (Nat.lt_of_lt_of_le hM (Nat.pow_le_pow_right (by decide) hq))]
  obtain ⟨q, hq, h1, h2⟩ := hex
  have hsplit : List.range S = List.range q ++ q :: (List.range' (q + 1) (S - (q + 1))) := by
    apply List.ext_getElem
    · simp; omega
    · intro i h3 h4
      simp only [List.getElem_range, List.getElem_append, List.length_range, List.getElem_cons, List.getElem_range']
      split
      · rfl
      · split <;> omega
  have key : ∀ l : List Nat, (l.filter fun q => m.testBit q).length ≤ (l.filter fun q => M.testBit q).length := by
    intro l
    induction l with
    | nil => simp
    | cons x l ih =>
      simp only [List.filter_cons]
      cases hm : m.testBit x
      · cases hM : M.testBit x
        · simpa using ih
        · simp; omega
      · rw [h x hm]; simpa using ih
  unfold cnt
  rw [hsplit, List.filter_append, List.filter_append, List.filter_cons, List.filter_cons, h1, h2]
  have k1 := key (List.range q)
  have k2 := key (List.range' (q + 1) (S - (q + 1)))
  simp
  omega
section
variable {N : PNet} (hG : GoodN N) {S : Nat} (hS : N.states = (S : Int))
include hG hS
theorem round_lt {m : Nat} (hm : m < 2 ^ S) : roundF N.steps m < 2 ^ S :=
  fold_lt hG addAny (fun o s h1 h2 => addAny_lt hS o s h1 h2) _ (fun _ hs => (List.mem_filter.1 hs).1) m hm
theorem after_lt (m : Nat) (c : Int) : afterF N.steps m c < 2 ^ S :=
  fold_lt hG (addC c) (fun o s h1 h2 => addC_lt hS c o s h1 h2) _ (fun _ hs => (List.mem_filter.1 hs).1) 0 (Nat.two_pow_pos S)
theorem iter_lt (k : Nat) {m : Nat} (hm : m < 2 ^ S) : iterF N.steps k m < 2 ^ S := by
  induction k generalizing m with
  | zero => exact hm
  | succ k ih => exact ih (round_lt hG hS hm)
theorem reach_lt {m : Nat} (hm : m < 2 ^ S) : reachF N.steps S m < 2 ^ S := iter_lt hG hS S hm
omit hG hS in
theorem round_sub (L : List PStep) (m q : Nat) (h : m.testBit q = true) : (roundF L m).testBit q = true := by rw [round_bit, h]; rfl
theorem iter_cnt (k : Nat) {m : Nat} (hm : m < 2 ^ S) (h : ∀ j, j ≤ k → roundF N.steps (iterF N.steps j m) ≠ iterF N.steps j m) : k + 1 ≤ cnt S (iterF N.steps (k + 1) m) := by
  induction k with
  | zero =>
    have h1 := cnt_lt hm (round_lt hG hS hm) (round_sub N.steps m) (h 0 (Nat.le_refl _))
    show 1 ≤ cnt S (roundF N.steps m)
    omega
  | succ k ih =>
    have h0 := ih fun j hj => h j (by omega)
    have hl := iter_lt hG hS (k + 1) hm
    have h1 := cnt_lt hl (round_lt hG hS hl) (round_sub N.steps _) (h (k + 1) (Nat.le_refl _))
    rw [iterF_succ N.steps (k + 1)]
    omega
theorem reach_fix {m : Nat} (hm : m < 2 ^ S) : roundF N.steps (reachF N.steps S m) = reachF N.steps S m := by
  rcases Classical.em (∃ j, j ≤ S ∧ roundF N.steps (iterF N.steps j m) = iterF N.steps j m) with ⟨j, hj, he⟩ | hne
  · have e : ∀ d, iterF N.steps (j + d) m = iterF N.steps j m := by
      intro d
      induction d with
      | zero => rfl
      | succ d ih => rw [← Nat.add_assoc, iterF_succ, ih, he]
    have := e (S - j)
    rw [show j + (S - j) = S by omega] at this
    rw [reachF, this, he]
  · exfalso
    have := iter_cnt hG hS S hm fun j hj he => hne ⟨j, hj, he⟩
    have h2 := cnt_le S (iterF N.steps (S + 1) m)
    omega
theorem reach_round {m : Nat} (hm : m < 2 ^ S) : reachF N.steps S (roundF N.steps m) = reachF N.steps S m := by
  have h1 : iterF N.steps S (roundF N.steps m) = iterF N.steps (S + 1) m := rfl
  rw [reachF, h1, iterF_succ]
  exact reach_fix hG hS hm
omit hG hS in
theorem reach_of_fix (S : Nat) {m : Nat} (h : roundF N.steps m = m) : reachF N.steps S m = m := iterF_fix _ _ h
end
end Go.Proofs.Ytcmfgblfgldonaa
