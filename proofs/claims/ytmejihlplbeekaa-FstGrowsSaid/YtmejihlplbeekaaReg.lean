/-
  A region that draws its order: some operations only read ('head': they may be taken first, because what they read stays as it is till operation number n, which waits for all of them), the others come in one forced order ('tail').
-/
import Derived.OrdersHeld
import Derived.Deep.RegionHeld3
import Derived.StillTail
import Derived.KernelRfl
import Derived.Lib.Hide
namespace Go
section
variable {P : Program} {ops : Array Oper} {Q : Exit → Act → World → Prop} {md : Region.Mode} {S : World → Prop}

theorem wanted_plain {o : Oper} (h : o.guard = none) (y : Nat → Option Bool) : Region.wanted o y = true := by simp [Region.wanted, h]

/-- whatever order is picked; an operation of U leaves the world as it is; S holds behind every other operation below number n -/
def wpAnyE (P : Program) (md : Region.Mode) (ops : Array Oper) (Q : Exit → Act → World → Prop) (S : World → Prop) (n : Nat) (U : List Nat) : Nat → Array Bool → Act → World → Prop
  | 0, listed, a, w => Region.ready md ops listed = [] ∧ Q .normal a w
  | fuel + 1, listed, a, w =>
    (Region.ready md ops listed = [] → Q .normal a w) ∧
    ∀ i ∈ Region.ready md ops listed, wpOp P ops Q i (fun a' w' => ((i ∈ U → w' = w) ∧ (i ∉ U → i < n → S w')) ∧ wpAnyE P md ops Q S n U fuel (listed.setIfInBounds i true) a' w') a w

theorem wpAny_of_E {n : Nat} {U : List Nat} : ∀ (fuel : Nat) (listed : Array Bool) (a : Act) (w : World), wpAnyE P md ops Q S n U fuel listed a w → wpAny P md ops Q fuel listed a w
  | 0, _, _, _, h => h
  | fuel + 1, _, _, _, h => ⟨h.1, fun i hi => wpOp_mono (fun a' w' h' => wpAny_of_E fuel _ a' w' h'.2) (h.2 i hi)⟩

def Region.sinkA (md : Region.Mode) (ops : Array Oper) (n : Nat) (A : List Nat) : Bool :=
  A.all fun i => decide (i < n) && (List.range (n + 1)).any fun j => decide (i < j) && ((decide (j = n) || A.contains j) && Region.waitsFor md ops j i)
theorem tail_waitsA {n : Nat} {A : List Nat} {listed : Array Bool} (hs : Region.sinkA md ops n A = true) (hc : Region.chainB md ops n = true) (inv : HeadInv md ops n listed) :
    ∀ (d i : Nat), n - i = d → i ∈ A → listed.getD i true = false → ∀ t, n ≤ t → t ∉ Region.ready md ops listed := by
  intro d
  induction d using Nat.strongRecOn with
  | _ d ih =>
    intro i hd hi hun t ht hr
    obtain ⟨_, ot, hot, hall⟩ := mem_ready.1 hr
    have htlt : t < ops.size := (Array.getElem?_eq_some_iff.1 hot).1
    have h0 := List.all_eq_true.1 hs i hi
    simp only [Bool.and_eq_true, decide_eq_true_eq] at h0
    by_cases htn : t = n
    · subst htn
      obtain ⟨j, hj, hj2⟩ := List.any_eq_true.1 h0.2
      simp only [Bool.and_eq_true, decide_eq_true_eq, Bool.or_eq_true] at hj2
      obtain ⟨hij, hjA, hjw⟩ := hj2
      obtain ⟨oj, hoj, e, he, hb, hon⟩ := Region.waitsFor_spec hjw
      by_cases hjt : j = t
      · subst hjt
        have : oj = ot := Option.some.inj (hoj.symm.trans hot)
        subst this
        have h2 := hall e he hb
        rw [hon, getD_both hun] at h2
        cases h2
      · have hjA' : j ∈ A := by
          rcases hjA with h | h
          · exact absurd h hjt
          · simpa using h
        cases hl : listed.getD j false with
        | true =>
          have h2 := inv.closed j oj hoj hl e he hb
          rw [hon, getD_both hun] at h2
          cases h2
        | false =>
          have hjs : j < listed.size := by rw [inv.size]; exact (Array.getElem?_eq_some_iff.1 hoj).1
          have hjn := (List.mem_range.1 hj)
          exact ih (t - j) (by omega) j rfl hjA' (getD_in hjs hl) t (Nat.le_refl _) hr
    · have h1 := List.all_eq_true.1 hc t (List.mem_range.2 htlt)
      simp only [Bool.or_eq_true, decide_eq_true_eq] at h1
      rcases h1 with h1 | h1
      · omega
      · obtain ⟨o', ho', e, he, hb, hon⟩ := Region.waitsFor_spec h1
        have : o' = ot := Option.some.inj (ho'.symm.trans hot)
        subst this
        have h2 := hall e he hb
        rw [hon, getD_both (inv.tail (t - 1) (by omega) (by omega))] at h2
        cases h2

theorem hfree_set {i j : Nat} {oi : Oper} {listed : Array Bool} (hjun : listed.getD j true = false)
    (hfree : ∀ j oj, ops[j]? = some oj → j ≠ i → listed.getD j true = false → (∀ e ∈ oj.after, Region.binds md e = true → e.on ≠ i) → oi.apart ops oj = true) :
    ∀ k ok, ops[k]? = some ok → k ≠ i → (listed.setIfInBounds j true).getD k true = false → (∀ e ∈ ok.after, Region.binds md e = true → e.on ≠ i) → oi.apart ops ok = true := fun k ok hk hki hun hno => by
  refine hfree k ok hk hki ?_ hno
  by_cases hjk : j = k
  · subst hjk; exact hjun
  · rw [getD_set_ne true hjk] at hun; exact hun
theorem wpAnyE_pure {n i : Nat} {U : List Nat} {oi : Oper} {v : Value} (hi : ops[i]? = some oi) (hsel : ∀ (j : Nat) (o : Oper) cs b, ops[j]? = some o → o.op ≠ .select cs b) (hU : i ∈ U)
    (hQ : ∀ c a w, Q (.panic c) (a.put oi.dst v) w → Q (.panic c) a w) :
    ∀ (fuel : Nat) (listed : Array Bool) (a : Act) (w : World),
      (∀ j oj, ops[j]? = some oj → j ≠ i → listed.getD j true = false → (∀ e ∈ oj.after, Region.binds md e = true → e.on ≠ i) → oi.apart ops oj = true) →
      i ∈ Region.ready md ops listed → YieldsIf P ops (fun _ => True) oi v a →
      wpAnyE P md ops Q S n U fuel (listed.setIfInBounds i true) (a.put oi.dst v) w → wpAnyE P md ops Q S n U (fuel + 1) listed a w := by
  intro fuel
  induction fuel with
  | zero =>
    intro listed a w _ hr hy H
    refine ⟨fun h => (by rw [h] at hr; cases hr), fun j hj => ?_⟩
    by_cases hji : j = i
    · subst hji; exact hy.wpOp hi trivial ⟨⟨fun _ => rfl, fun h => absurd hU h⟩, H⟩
    · have := ready_mono hj hji
      rw [H.1] at this
      cases this
  | succ fuel ih =>
    intro listed a w hfree hr hy H
    have hun := (mem_ready.1 hr).1
    refine ⟨fun h => (by rw [h] at hr; cases hr), fun j hj => ?_⟩
    by_cases hji : j = i
    · subst hji; exact hy.wpOp hi trivial ⟨⟨fun _ => rfl, fun h => absurd hU h⟩, H⟩
    · have h1 := H.2 j (ready_mono hj hji)
      obtain ⟨hjun, oj, hoj, hall⟩ := mem_ready.1 hj
      have hnot : ∀ e ∈ oj.after, Region.binds md e = true → e.on ≠ i := fun e he hb heq => by
        have h1 := hall e he hb
        rw [heq, getD_both hun] at h1
        cases h1
      have h2 := wpOp_putIf hoj (hfree j oj hoj hji hjun hnot) (fun cs b => hsel i oi cs b hi) (fun cs b => hsel j oj cs b hoj) hQ hy h1
      refine wpOp_mono (fun a' w' h3 => ⟨h3.2.1, ih (listed.setIfInBounds j true) a' w' (hfree_set hjun hfree) (ready_mono hr (Ne.symm hji)) h3.1 ?_⟩) h2
      rw [Array.setIfInBounds_comm _ _ hji]
      exact h3.2.2
theorem wpAnyE_first {n i : Nat} {A U : List Nat} {oi : Oper} {v : Value} (hi : ops[i]? = some oi) (hsel : ∀ (j : Nat) (o : Oper) cs b, ops[j]? = some o → o.op ≠ .select cs b)
    (hs : Region.sinkA md ops n A = true) (hc : Region.chainB md ops n = true) (hiA : i ∈ A)
    (hQ : ∀ c a w, Q (.panic c) (a.put oi.dst v) w → Q (.panic c) a w) :
    ∀ (fuel : Nat) (listed : Array Bool) (a : Act) (w : World), HeadInv md ops n listed →
      (∀ j oj, ops[j]? = some oj → j ≠ i → listed.getD j true = false → (∀ e ∈ oj.after, Region.binds md e = true → e.on ≠ i) → oi.apart ops oj = true) →
      i ∈ Region.ready md ops listed → YieldsIf P ops S oi v a → S w →
      wpAnyE P md ops Q S n U fuel (listed.setIfInBounds i true) (a.put oi.dst v) w → wpAnyE P md ops Q S n U (fuel + 1) listed a w := by
  intro fuel
  induction fuel with
  | zero =>
    intro listed a w _ _ hr hy hS H
    refine ⟨fun h => (by rw [h] at hr; cases hr), fun j hj => ?_⟩
    by_cases hji : j = i
    · subst hji; exact hy.wpOp hi hS ⟨⟨fun _ => rfl, fun _ _ => hS⟩, H⟩
    · have := ready_mono hj hji
      rw [H.1] at this
      cases this
  | succ fuel ih =>
    intro listed a w inv hfree hr hy hS H
    have hun := (mem_ready.1 hr).1
    refine ⟨fun h => (by rw [h] at hr; cases hr), fun j hj => ?_⟩
    have hjn : j < n := by
      rcases Nat.lt_or_ge j n with h | h
      · exact h
      · exact absurd hj (tail_waitsA hs hc inv _ i rfl hiA hun j h)
    by_cases hji : j = i
    · subst hji; exact hy.wpOp hi hS ⟨⟨fun _ => rfl, fun _ _ => hS⟩, H⟩
    · have h1 := H.2 j (ready_mono hj hji)
      obtain ⟨hjun, oj, hoj, hall⟩ := mem_ready.1 hj
      have hnot : ∀ e ∈ oj.after, Region.binds md e = true → e.on ≠ i := fun e he hb heq => by
        have h1 := hall e he hb
        rw [heq, getD_both hun] at h1
        cases h1
      have h2 := wpOp_putIf hoj (hfree j oj hoj hji hjun hnot) (fun cs b => hsel i oi cs b hi) (fun cs b => hsel j oj cs b hoj) hQ hy h1
      have hSw : ∀ w' : World, ((j ∈ U → w' = w) ∧ (j ∉ U → j < n → S w')) → S w' := fun w' h => by
        by_cases hjU : j ∈ U
        · rw [h.1 hjU]; exact hS
        · exact h.2 hjU hjn
      refine wpOp_mono (fun a' w' h3 => ⟨h3.2.1, ih (listed.setIfInBounds j true) a' w' (inv.set hj hjn) (hfree_set hjun hfree) (ready_mono hr (Ne.symm hji)) h3.1 (hSw w' h3.2.1) ?_⟩) h2
      rw [Array.setIfInBounds_comm _ _ hji]
      exact h3.2.2

/-- the operations of the head, taken one by one -/
def wpHead (P : Program) (ops : Array Oper) (S : World → Prop) (A : List Nat) (K : Act → World → Prop) : List Nat → Act → World → Prop
  | [], a, w => K a w
  | i :: r, a, w => ∃ o v, ops[i]? = some o ∧ YieldsIf P ops (fun w' => A.contains i = true → S w') o v a ∧ wpHead P ops S A K r (a.put o.dst v) w
/-- the operations of the tail, one by one; S is shown anew behind each below number n -/
def wpTail (P : Program) (ops : Array Oper) (Q : Exit → Act → World → Prop) (S : World → Prop) (n : Nat) : List Nat → Act → World → Prop
  | [], a, w => Q .normal a w
  | i :: r, a, w => wpOp P ops Q i (fun a' w' => (i < n → S w') ∧ wpTail P ops Q S n r a' w') a w
def Region.tailB (md : Region.Mode) (ops : Array Oper) (U : List Nat) : Array Bool → List Nat → Bool
  | listed, [] => (Region.ready md ops listed).isEmpty
  | listed, t :: r => decide (Region.ready md ops listed = [t]) && (!U.contains t && Region.tailB md ops U (listed.setIfInBounds t true) r)
def Region.headB (md : Region.Mode) (ops : Array Oper) (n : Nat) (A U T : List Nat) : Array Bool → List Nat → Bool
  | listed, [] => Region.tailB md ops U listed T
  | listed, i :: r => (Region.ready md ops listed).contains i && (decide (i < n) && ((A.contains i || U.contains i) && (Region.free md ops listed i && Region.headB md ops n A U T (listed.setIfInBounds i true) r)))
def Region.ordB (md : Region.Mode) (ops : Array Oper) (n : Nat) (A U H T : List Nat) : Bool :=
  Region.noSelect ops && (decide (H.length + T.length = ops.size) && (Region.sinkA md ops n A && (Region.chainB md ops n && Region.headB md ops n A U T (Array.replicate ops.size false) H)))

theorem wpAnyE_tail {n : Nat} {U : List Nat} : ∀ (T : List Nat) (listed : Array Bool) (a : Act) (w : World), Region.tailB md ops U listed T = true → wpTail P ops Q S n T a w → wpAnyE P md ops Q S n U T.length listed a w
  | [], listed, a, w, hB, h => ⟨by simpa [Region.tailB] using hB, h⟩
  | t :: T, listed, a, w, hB, h => by
    simp only [Region.tailB, Bool.and_eq_true, decide_eq_true_eq] at hB
    refine ⟨fun h0 => (by rw [hB.1] at h0; cases h0), fun i hi => ?_⟩
    rw [hB.1] at hi
    have hit : i = t := by simpa using hi
    subst hit
    have hiU : i ∉ U := by simpa using hB.2.1
    exact wpOp_mono (fun a' w' h' => ⟨⟨fun h => absurd h hiU, fun _ => h'.1⟩, wpAnyE_tail T _ a' w' hB.2.2 h'.2⟩) h
theorem YieldsIf.weaken {S S' : World → Prop} {o : Oper} {v : Value} {a : Act} (h : YieldsIf P ops S o v a) (hS : ∀ w, S' w → S w) : YieldsIf P ops S' o v a :=
  h.imp (fun ⟨h1, h2⟩ => ⟨h1, fun w hw => h2 w (hS w hw)⟩) id
theorem wpAnyE_head {n : Nat} {A U T : List Nat} (hsel : Region.noSelect ops = true) (hs : Region.sinkA md ops n A = true) (hc : Region.chainB md ops n = true)
    (hQ : ∀ c a d v w, Q (.panic c) (Act.put a d v) w → Q (.panic c) a w) : ∀ (H : List Nat) (listed : Array Bool) (a : Act) (w : World), HeadInv md ops n listed → Region.headB md ops n A U T listed H = true → S w →
      wpHead P ops S A (wpTail P ops Q S n T) H a w → wpAnyE P md ops Q S n U (H.length + T.length) listed a w
  | [], listed, a, w, _, hB, _, h => by
    simp only [List.length_nil, Nat.zero_add]
    exact wpAnyE_tail T listed a w hB h
  | i :: H, listed, a, w, inv, hB, hS, h => by
    simp only [Region.headB, Bool.and_eq_true, decide_eq_true_eq] at hB
    obtain ⟨h1, h2, hAU, h3, h4⟩ := hB
    obtain ⟨o, v, ho, hy, hr⟩ := h
    have hrd : i ∈ Region.ready md ops listed := by simpa using h1
    rw [show (i :: H).length + T.length = (H.length + T.length) + 1 by simp; omega]
    have hrec := wpAnyE_head hsel hs hc hQ H _ _ w (inv.set hrd h2) h4 hS hr
    cases hA : A.contains i with
    | true =>
      exact wpAnyE_first ho (Region.noSelect_spec hsel) hs hc (by simpa using hA) (fun c a w h => hQ c a _ _ w h) _ listed a w inv (Region.free_spec ho h3) hrd (hy.weaken fun w hw _ => hw) hS hrec
    | false =>
      have hU : i ∈ U := by rw [hA] at hAU; simpa using hAU
      exact wpAnyE_pure ho (Region.noSelect_spec hsel) hU (fun c a w h => hQ c a _ _ w h) _ listed a w (Region.free_spec ho h3) hrd (hy.weaken fun w _ h => absurd h (by rw [hA]; simp)) hrec
/-- A region by its head and its tail; it is shown not to panic. -/
theorem wp_region_ord {id : Nat} {a : Act} {w : World} (n : Nat) (A U H T : List Nat) (S : World → Prop) (hm : P.follows .mixedOrders = true) (hB : Region.ordB .any ops n A U H T = true)
    (h : ∀ D : World, D = w.drew → S D ∧ wpHead P ops S A (wpTail P ops (NoPanic Q) S n T) H a D) : (Code.region id ops true).wp P Q a w := by
  obtain ⟨hS, h⟩ := h _ rfl
  simp only [Region.ordB, Bool.and_eq_true, decide_eq_true_eq] at hB
  obtain ⟨h1, h3, h4, h5, h6⟩ := hB
  refine wp_region_noPanic (wp_region_any hm ?_)
  have inv0 : HeadInv .any ops n (Array.replicate ops.size false) :=
    ⟨by simp, fun j oj _ hl => (by rw [getD_replicate_false] at hl; cases hl), fun t _ ht => getD_in (by simpa using ht) (getD_replicate_false _ _)⟩
  have := wpAnyE_head h1 h4 h5 (fun _ _ _ _ _ h => h) H _ a w.drew inv0 h6 hS h
  rw [h3] at this
  exact wpAny_of_E _ _ _ _ this

theorem wpHead_nil {A : List Nat} {K : Act → World → Prop} {a : Act} {w : World} (h : K a w) : wpHead P ops S A K [] a w := h
theorem wpHead_cons {l : List Oper} {A : List Nat} {K : Act → World → Prop} {a : Act} {w : World} {i : Nat} {r : List Nat} {o : Oper} {v : Value} (hi : l[i]? = some o) (hg : o.guard = none)
    (hy : ∀ w', (A.contains i = true → S w') → (execOp a.eval o).run P w' = .ok (.value v) w') (h : wpHead P l.toArray S A K r (a.put o.dst v) w) : wpHead P l.toArray S A K (i :: r) a w :=
  ⟨o, v, by simpa using hi, .inl ⟨wanted_plain hg _, hy⟩, h⟩
theorem wpTail_nil {n : Nat} {a : Act} {w : World} (h : Q .normal a w) : wpTail P ops Q S n [] a w := h
theorem wpTail_cons {l : List Oper} {n : Nat} {a : Act} {w : World} {i : Nat} {r : List Nat} {o : Oper} (hi : l[i]? = some o) (hg : o.guard = none)
    (h : ∀ K : Act → World → Prop, RowKit.Hid (∀ a' w', (i < n → S w') → wpTail P l.toArray Q S n r a' w' → K a' w') → o.wp P a w K Q) : wpTail P l.toArray Q S n (i :: r) a w := by
  show wpOp P l.toArray Q i _ a w
  unfold wpOp
  have hi : l.toArray[i]? = some o := by simpa using hi
  simp only [hi, wanted_plain hg, if_true]
  exact .inl (h _ (fun a' w' h1 h2 => ⟨h1, h2⟩))
theorem wpTail_list {l : List Oper} {n : Nat} : ∀ (m k : Nat) (a : Act) (w : World), n ≤ k → k + m = l.length → wpList P l.toArray Q (l.drop k) a w → wpTail P l.toArray Q S n (List.range' k m) a w
  | 0, k, a, w, _, hk, h => by
    rw [List.drop_of_length_le (by omega)] at h
    exact h
  | m + 1, k, a, w, hn, hk, h => by
    have hlt : k < l.length := by omega
    rw [List.drop_eq_getElem_cons hlt] at h
    rw [List.range'_succ]
    show wpOp P l.toArray Q k _ a w
    unfold wpList at h
    unfold wpOp
    have ho : l.toArray[k]? = some l[k] := by simp [hlt]
    simp only [ho]
    by_cases hw : Region.wanted l[k] (yielded l.toArray a.tmps) = true
    · rw [if_pos hw] at h ⊢
      exact h.imp (Oper.wp_mono fun a' w' h' => ⟨fun hc => absurd hc (by omega), wpTail_list m (k + 1) a' w' (by omega) (by omega) h'⟩) id
    · rw [if_neg hw] at h ⊢
      exact ⟨fun hc => absurd hc (by omega), wpTail_list m (k + 1) _ w (by omega) (by omega) h⟩
/-- behind the head and the tail's first part: a plain walk -/
theorem wpTail_rest {l : List Oper} {n : Nat} (k : Nat) {T : List Nat} {a : Act} {w : World} (hT : (decide (n ≤ k) && decide (k ≤ l.length) && T == List.range' k (l.length - k)) = true) (h : wpList P l.toArray Q (l.drop k) a w) : wpTail P l.toArray Q S n T a w := by
  simp only [Bool.and_eq_true, decide_eq_true_eq, beq_iff_eq] at hT
  rw [hT.2]
  exact wpTail_list _ k a w hT.1.1 (by have := hT.1.2; omega) h
end
end Go
