/-
  A region that draws its order, while one thing stays true of the world throughout: what only reads is taken first, whatever may come up beside it; where several others may come up, each is walked.
-/
import Derived.Test.YtdijlakeonionaaZ1
namespace Go
section
variable {P : Program} {ops : Array Oper} {l : List Oper} {Q : Exit → Act → World → Prop} {S : World → Prop} {f : Nat} {listed : Array Bool} {a : Act} {w : World}
def wpAnyT (P : Program) (ops : Array Oper) (Q : Exit → Act → World → Prop) (S : World → Prop) : Nat → Array Bool → Act → World → Prop
  | 0, listed, a, w => Region.ready .any ops listed = [] ∧ Q .normal a w
  | fuel + 1, listed, a, w => (Region.ready .any ops listed = [] → Q .normal a w) ∧ ∀ i ∈ Region.ready .any ops listed, wpOp P ops Q i (fun a' w' => S w' ∧ wpAnyT P ops Q S fuel (listed.setIfInBounds i true) a' w') a w
theorem wpAny_of_T : ∀ (fuel : Nat) (listed : Array Bool) (a : Act) (w : World), wpAnyT P ops Q S fuel listed a w → wpAny P .any ops Q fuel listed a w
  | 0, _, _, _, h => h
  | fuel + 1, _, _, _, h => ⟨h.1, fun i hi => wpOp_mono (fun a' w' h' => wpAny_of_T fuel _ a' w' h'.2) (h.2 i hi)⟩
theorem wpAnyT_first {i : Nat} {oi : Oper} {v : Value} (hi : ops[i]? = some oi) (hsel : ∀ (j : Nat) (o : Oper) cs b, ops[j]? = some o → o.op ≠ .select cs b)
    (hQ : ∀ c a w, Q (.panic c) (a.put oi.dst v) w → Q (.panic c) a w) :
    ∀ (fuel : Nat) (listed : Array Bool) (a : Act) (w : World),
      (∀ j oj, ops[j]? = some oj → j ≠ i → listed.getD j true = false → (∀ e ∈ oj.after, Region.binds .any e = true → e.on ≠ i) → oi.apart ops oj = true) →
      i ∈ Region.ready .any ops listed → YieldsIf P ops S oi v a → S w →
      wpAnyT P ops Q S fuel (listed.setIfInBounds i true) (a.put oi.dst v) w → wpAnyT P ops Q S (fuel + 1) listed a w := by
  intro fuel
  induction fuel with
  | zero =>
    intro listed a w _ hr hy hS H
    refine ⟨fun h => (by rw [h] at hr; cases hr), fun j hj => ?_⟩
    by_cases hji : j = i
    · subst hji; exact hy.wpOp hi hS ⟨hS, H⟩
    · have := ready_mono hj hji
      rw [H.1] at this
      cases this
  | succ fuel ih =>
    intro listed a w hfree hr hy hS H
    have hun := (mem_ready.1 hr).1
    refine ⟨fun h => (by rw [h] at hr; cases hr), fun j hj => ?_⟩
    by_cases hji : j = i
    · subst hji; exact hy.wpOp hi hS ⟨hS, H⟩
    · have h1 := H.2 j (ready_mono hj hji)
      obtain ⟨hjun, oj, hoj, hall⟩ := mem_ready.1 hj
      have hnot : ∀ e ∈ oj.after, Region.binds .any e = true → e.on ≠ i := fun e he hb heq => by
        have h1 := hall e he hb
        rw [heq, getD_both hun] at h1
        cases h1
      have h2 := wpOp_putIf hoj (hfree j oj hoj hji hjun hnot) (fun cs b => hsel i oi cs b hi) (fun cs b => hsel j oj cs b hoj) hQ hy h1
      refine wpOp_mono (fun a' w' h3 => ⟨h3.2.1, ih (listed.setIfInBounds j true) a' w' (hfree_set hjun hfree) (ready_mono hr (Ne.symm hji)) h3.1 h3.2.1 ?_⟩) h2
      rw [Array.setIfInBounds_comm _ _ hji]
      exact h3.2.2
def wpS (P : Program) (l : List Oper) (Q : Exit → Act → World → Prop) (S : World → Prop) (f : Nat) (listed : Array Bool) (a : Act) (w : World) : Prop :=
  Region.noSelect l.toArray = true → (∀ c a d v w, Q (.panic c) (Act.put a d v) w → Q (.panic c) a w) → wpAnyT P l.toArray Q S f listed a w
theorem wp_region_all {id : Nat} (N : Nat) (S : World → Prop) (hm : P.follows .mixedOrders = true) (hB : (Region.noSelect l.toArray && decide (l.toArray.size = N)) = true)
    (h : ∀ D : World, D = w.drew → wpS P l (NoPanic Q) S N (Array.replicate N false) a D) : (Code.region id l.toArray true).wp P Q a w := by
  simp only [Bool.and_eq_true, decide_eq_true_eq] at hB
  obtain ⟨h1, h3⟩ := hB
  subst h3
  refine wp_region_noPanic (wp_region_any hm ?_)
  exact wpAny_of_T _ _ _ _ (h _ rfl h1 (fun _ _ _ _ _ h => h))
theorem wpS_take (i : Nat) {o : Oper} {v : Value} (hq : ((Region.ready .any l.toArray listed).contains i && Region.free .any l.toArray listed i) = true) (hi : l[i]? = some o) (hw : Region.wanted o (yielded l.toArray a.tmps) = true) (hS : S w)
    (hy : ∀ w', S w' → (execOp a.eval o).run P w' = .ok (.value v) w') (h : wpS P l Q S f (listed.setIfInBounds i true) (a.put o.dst v) w) : wpS P l Q S (f + 1) listed a w := by
  intro h1 hQ
  simp only [Bool.and_eq_true] at hq
  have hrd : i ∈ Region.ready .any l.toArray listed := by simpa using hq.1
  have ho : l.toArray[i]? = some o := by simpa using hi
  exact wpAnyT_first ho (Region.noSelect_spec h1) (fun c a w h => hQ c a _ _ w h) _ listed a w (Region.free_spec ho hq.2) hrd (.inl ⟨hw, hy⟩) hS (h h1 hQ)
def AllS (P : Program) (l : List Oper) (Q : Exit → Act → World → Prop) (S : World → Prop) (f : Nat) (listed : Array Bool) (a : Act) (w : World) (rs : List Nat) : Prop :=
  ∀ i ∈ rs, wpOp P l.toArray Q i (fun a' w' => S w' ∧ wpS P l Q S f (listed.setIfInBounds i true) a' w') a w
theorem wpS_br (rs : List Nat) (hr : (decide (Region.ready .any l.toArray listed = rs) && !rs.isEmpty) = true) (h : AllS P l Q S f listed a w rs) : wpS P l Q S (f + 1) listed a w := by
  intro h1 hQ
  simp only [Bool.and_eq_true, decide_eq_true_eq] at hr
  obtain ⟨r1, r2⟩ := hr
  have hne : rs ≠ [] := by intro he; simp [he] at r2
  refine ⟨fun h0 => absurd (r1 ▸ h0) hne, fun i hi => ?_⟩
  have hi' : i ∈ rs := r1 ▸ hi
  exact wpOp_mono (fun a' w' h' => ⟨h'.1, h'.2 h1 hQ⟩) (h i hi')
theorem AllS.nil : AllS P l Q S f listed a w [] := fun _ h => by cases h
theorem AllS.cons {i : Nat} {rs : List Nat} {o : Oper} (hi : l[i]? = some o) (hw : Region.wanted o (yielded l.toArray a.tmps) = true)
    (h : ∀ K : Act → World → Prop, RowKit.Hid (∀ a' w', S w' → wpS P l Q S f (listed.setIfInBounds i true) a' w' → K a' w') → o.wp P a w K Q) (hs : AllS P l Q S f listed a w rs) : AllS P l Q S f listed a w (i :: rs) := by
  intro j hj
  rcases List.mem_cons.1 hj with rfl | hj
  · unfold wpOp
    have hi : l.toArray[j]? = some o := by simpa using hi
    simp only [hi, hw, if_true]
    exact .inl (h _ (fun a' w' h1 h2 => ⟨h1, h2⟩))
  · exact hs j hj
theorem wpS_nil (hr : (Region.ready .any l.toArray listed).isEmpty = true) (h : Q .normal a w) : wpS P l Q S 0 listed a w := fun _ _ => ⟨by simpa using hr, h⟩
end
end Go
