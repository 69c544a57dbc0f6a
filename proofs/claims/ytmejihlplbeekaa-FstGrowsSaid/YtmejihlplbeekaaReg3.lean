/-
  A region that draws its order, step by step: what only reads is taken first; where several others may come up, each is walked.
-/
import Derived.Test.YtmejihlplbeekaaReg2
namespace Go
section
variable {P : Program} {l : List Oper} {Q : Exit → Act → World → Prop} {S : World → Prop} {n f : Nat} {A U : List Nat} {listed : Array Bool} {a : Act} {w : World}
def wpE (P : Program) (l : List Oper) (Q : Exit → Act → World → Prop) (S : World → Prop) (n : Nat) (A U : List Nat) (f : Nat) (listed : Array Bool) (a : Act) (w : World) : Prop :=
  (HeadInv .any l.toArray n listed ∧ Region.noSelect l.toArray = true ∧ Region.sinkA .any l.toArray n A = true ∧ Region.chainB .any l.toArray n = true) → (∀ c a d v w, Q (.panic c) (Act.put a d v) w → Q (.panic c) a w) → wpAnyE P .any l.toArray Q S n U f listed a w
def Region.qB (l : List Oper) (n : Nat) (A U : List Nat) (listed : Array Bool) (i : Nat) : Bool :=
  (Region.ready .any l.toArray listed).contains i && (decide (i < n) && ((A.contains i || U.contains i) && Region.free .any l.toArray listed i))
def Region.startB (l : List Oper) (N n : Nat) (A : List Nat) : Bool :=
  Region.noSelect l.toArray && (decide (l.toArray.size = N) && (Region.sinkA .any l.toArray n A && Region.chainB .any l.toArray n))
theorem wp_region_steps {id : Nat} (N n : Nat) (A U : List Nat) (S : World → Prop) (hm : P.follows .mixedOrders = true) (hB : Region.startB l N n A = true)
    (h : ∀ D : World, D = w.drew → wpE P l (NoPanic Q) S n A U N (Array.replicate N false) a D) : (Code.region id l.toArray true).wp P Q a w := by
  simp only [Region.startB, Bool.and_eq_true, decide_eq_true_eq] at hB
  obtain ⟨h1, h3, h4, h5⟩ := hB
  subst h3
  refine wp_region_noPanic (wp_region_any hm ?_)
  have inv0 : HeadInv .any l.toArray n (Array.replicate l.toArray.size false) :=
    ⟨by simp, fun j oj _ hl => (by rw [getD_replicate_false] at hl; cases hl), fun t _ ht => getD_in (by simpa using ht) (getD_replicate_false _ _)⟩
  exact wpAny_of_E _ _ _ _ (h _ rfl ⟨inv0, h1, h4, h5⟩ (fun _ _ _ _ _ h => h))
theorem wpE_take (i : Nat) {o : Oper} {v : Value} (hq : Region.qB l n A U listed i = true) (hi : l[i]? = some o) (hw : Region.wanted o (yielded l.toArray a.tmps) = true) (hS : S w)
    (hy : ∀ w', (A.contains i = true → S w') → (execOp a.eval o).run P w' = .ok (.value v) w') (h : wpE P l Q S n A U f (listed.setIfInBounds i true) (a.put o.dst v) w) : wpE P l Q S n A U (f + 1) listed a w := by
  intro ⟨inv, h1, h4, h5⟩ hQ
  simp only [Region.qB, Bool.and_eq_true, decide_eq_true_eq] at hq
  obtain ⟨q1, q2, q3, q4⟩ := hq
  have hrd : i ∈ Region.ready .any l.toArray listed := by simpa using q1
  have ho : l.toArray[i]? = some o := by simpa using hi
  have hrec := h ⟨inv.set hrd q2, h1, h4, h5⟩ hQ
  have hyy : YieldsIf P l.toArray (fun w' => A.contains i = true → S w') o v a := .inl ⟨hw, hy⟩
  cases hA : A.contains i with
  | true => exact wpAnyE_first ho (Region.noSelect_spec h1) h4 h5 (by simpa using hA) (fun c a w h => hQ c a _ _ w h) _ listed a w inv (Region.free_spec ho q4) hrd (hyy.weaken fun w hw _ => hw) hS hrec
  | false =>
    have hU : i ∈ U := by rw [hA] at q3; simpa using q3
    exact wpAnyE_pure ho (Region.noSelect_spec h1) hU (fun c a w h => hQ c a _ _ w h) _ listed a w (Region.free_spec ho q4) hrd (hyy.weaken fun w _ h => absurd h (by rw [hA]; simp)) hrec
def Region.brB (l : List Oper) (n : Nat) (U : List Nat) (listed : Array Bool) (rs : List Nat) : Bool :=
  decide (Region.ready .any l.toArray listed = rs) && (!rs.isEmpty && rs.all fun i => decide (i < n) && !U.contains i)
def AllE (P : Program) (l : List Oper) (Q : Exit → Act → World → Prop) (S : World → Prop) (n : Nat) (A U : List Nat) (f : Nat) (listed : Array Bool) (a : Act) (w : World) (rs : List Nat) : Prop :=
  ∀ i ∈ rs, wpOp P l.toArray Q i (fun a' w' => S w' ∧ wpE P l Q S n A U f (listed.setIfInBounds i true) a' w') a w
theorem wpE_br (rs : List Nat) (hr : Region.brB l n U listed rs = true) (h : AllE P l Q S n A U f listed a w rs) : wpE P l Q S n A U (f + 1) listed a w := by
  intro ⟨inv, h1, h4, h5⟩ hQ
  simp only [Region.brB, Bool.and_eq_true, decide_eq_true_eq] at hr
  obtain ⟨r1, r2, r3⟩ := hr
  have hne : rs ≠ [] := by intro he; simp [he] at r2
  refine ⟨fun h0 => absurd (r1 ▸ h0) hne, fun i hi => ?_⟩
  have hi' : i ∈ rs := r1 ▸ hi
  have h3 := List.all_eq_true.1 r3 i hi'
  simp only [Bool.and_eq_true, decide_eq_true_eq] at h3
  have hU : i ∉ U := by simpa using h3.2
  exact wpOp_mono (fun a' w' h' => ⟨⟨fun hc => absurd hc hU, fun _ _ => h'.1⟩, h'.2 ⟨inv.set hi h3.1, h1, h4, h5⟩ hQ⟩) (h i hi')
theorem AllE.nil : AllE P l Q S n A U f listed a w [] := fun _ h => by cases h
theorem AllE.cons {i : Nat} {rs : List Nat} {o : Oper} (hi : l[i]? = some o) (hw : Region.wanted o (yielded l.toArray a.tmps) = true)
    (h : ∀ K : Act → World → Prop, RowKit.Hid (∀ a' w', S w' → wpE P l Q S n A U f (listed.setIfInBounds i true) a' w' → K a' w') → o.wp P a w K Q) (hs : AllE P l Q S n A U f listed a w rs) : AllE P l Q S n A U f listed a w (i :: rs) := by
  intro j hj
  rcases List.mem_cons.1 hj with rfl | hj
  · unfold wpOp
    have hi : l.toArray[j]? = some o := by simpa using hi
    simp only [hi, hw, if_true]
    exact .inl (h _ (fun a' w' h1 h2 => ⟨h1, h2⟩))
  · exact hs j hj
/-- the rest, in one forced order -/
theorem wpE_rest (k : Nat) (hT : (decide (n ≤ k) && (decide (k + f = l.length) && Region.tailB .any l.toArray U listed (List.range' k f))) = true) (h : wpList P l.toArray Q (l.drop k) a w) : wpE P l Q S n A U f listed a w := by
  intro _ _
  simp only [Bool.and_eq_true, decide_eq_true_eq] at hT
  have h1 := wpTail_list (S := S) (n := n) f k a w hT.1 hT.2.1 h
  have h2 := wpAnyE_tail (md := .any) (U := U) _ listed a w hT.2.2 h1
  rwa [List.length_range'] at h2
end
end Go
