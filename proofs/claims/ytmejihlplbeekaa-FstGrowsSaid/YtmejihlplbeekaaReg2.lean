/-
  A region that draws its order, with guards: steps that only read (taken as soon as they may come up) and steps that come in one forced order, mixed.
-/
import Derived.Test.YtmejihlplbeekaaReg
namespace Go
section
variable {P : Program} {ops : Array Oper} {Q : Exit → Act → World → Prop} {md : Region.Mode} {S : World → Prop}
def wpMix (P : Program) (ops : Array Oper) (Q : Exit → Act → World → Prop) (S : World → Prop) (n : Nat) (A : List Nat) : List (Bool × Nat) → Act → World → Prop
  | [], a, w => Q .normal a w
  | (true, i) :: r, a, w => ∃ o v, ops[i]? = some o ∧ YieldsIf P ops (fun w' => A.contains i = true → S w') o v a ∧ wpMix P ops Q S n A r (a.put o.dst v) w
  | (false, i) :: r, a, w => wpOp P ops Q i (fun a' w' => (i < n → S w') ∧ wpMix P ops Q S n A r a' w') a w
def Region.mixB (md : Region.Mode) (ops : Array Oper) (n : Nat) (A U : List Nat) : Array Bool → List (Bool × Nat) → Bool
  | listed, [] => (Region.ready md ops listed).isEmpty
  | listed, (true, i) :: r => (Region.ready md ops listed).contains i && (decide (i < n) && ((A.contains i || U.contains i) && (Region.free md ops listed i && Region.mixB md ops n A U (listed.setIfInBounds i true) r)))
  | listed, (false, i) :: r => decide (Region.ready md ops listed = [i]) && (!U.contains i && ((decide (i < n) || r.all (fun p => !p.1)) && Region.mixB md ops n A U (listed.setIfInBounds i true) r))
def Region.mixOk (md : Region.Mode) (ops : Array Oper) (n : Nat) (A U : List Nat) (L : List (Bool × Nat)) : Bool :=
  Region.noSelect ops && (decide (L.length = ops.size) && (Region.sinkA md ops n A && (Region.chainB md ops n && Region.mixB md ops n A U (Array.replicate ops.size false) L)))
theorem wpAnyE_mix {n : Nat} {A U : List Nat} (hsel : Region.noSelect ops = true) (hs : Region.sinkA md ops n A = true) (hc : Region.chainB md ops n = true)
    (hQ : ∀ c a d v w, Q (.panic c) (Act.put a d v) w → Q (.panic c) a w) : ∀ (L : List (Bool × Nat)) (listed : Array Bool) (a : Act) (w : World), Region.mixB md ops n A U listed L = true →
      ((HeadInv md ops n listed ∧ S w) ∨ L.all (fun p => !p.1) = true) → wpMix P ops Q S n A L a w → wpAnyE P md ops Q S n U L.length listed a w
  | [], listed, a, w, hB, _, h => ⟨by simpa [Region.mixB] using hB, h⟩
  | (true, i) :: L, listed, a, w, hB, hI, h => by
    rcases hI with ⟨inv, hS⟩ | hI
    · simp only [Region.mixB, Bool.and_eq_true, decide_eq_true_eq] at hB
      obtain ⟨h1, h2, hAU, h3, h4⟩ := hB
      obtain ⟨o, v, ho, hy, hr⟩ := h
      have hrd : i ∈ Region.ready md ops listed := by simpa using h1
      have hrec := wpAnyE_mix hsel hs hc hQ L _ _ w h4 (.inl ⟨inv.set hrd h2, hS⟩) hr
      cases hA : A.contains i with
      | true =>
        exact wpAnyE_first ho (Region.noSelect_spec hsel) hs hc (by simpa using hA) (fun c a w h => hQ c a _ _ w h) _ listed a w inv (Region.free_spec ho h3) hrd (hy.weaken fun w hw _ => hw) hS hrec
      | false =>
        have hU : i ∈ U := by rw [hA] at hAU; simpa using hAU
        exact wpAnyE_pure ho (Region.noSelect_spec hsel) hU (fun c a w h => hQ c a _ _ w h) _ listed a w (Region.free_spec ho h3) hrd (hy.weaken fun w _ h => absurd h (by rw [hA]; simp)) hrec
    · simp at hI
  | (false, t) :: L, listed, a, w, hB, hI, h => by
    simp only [Region.mixB, Bool.and_eq_true, decide_eq_true_eq, Bool.or_eq_true] at hB
    obtain ⟨h1, h2, h3, h4⟩ := hB
    have hrd : t ∈ Region.ready md ops listed := by rw [h1]; simp
    refine ⟨fun h0 => (by rw [h1] at h0; cases h0), fun i hi => ?_⟩
    rw [h1] at hi
    have hit : i = t := by simpa using hi
    subst hit
    have hiU : i ∉ U := by simpa using h2
    refine wpOp_mono (fun a' w' h' => ⟨⟨fun h => absurd h hiU, fun _ => h'.1⟩, wpAnyE_mix hsel hs hc hQ L _ a' w' h4 ?_ h'.2⟩) h
    rcases hI with ⟨inv, _⟩ | hI
    · by_cases hin : i < n
      · exact .inl ⟨inv.set hrd hin, h'.1 hin⟩
      · rcases h3 with h3 | h3
        · exact absurd h3 hin
        · exact .inr h3
    · simp only [List.all_cons, Bool.and_eq_true] at hI
      exact .inr hI.2
/-- A region by its mixed steps; it is shown not to panic. -/
theorem wp_region_mix {id : Nat} {a : Act} {w : World} (n : Nat) (A U : List Nat) (L : List (Bool × Nat)) (S : World → Prop) (hm : P.follows .mixedOrders = true) (hB : Region.mixOk .any ops n A U L = true)
    (h : ∀ D : World, D = w.drew → S D ∧ wpMix P ops (NoPanic Q) S n A L a D) : (Code.region id ops true).wp P Q a w := by
  obtain ⟨hS, h⟩ := h _ rfl
  simp only [Region.mixOk, Bool.and_eq_true, decide_eq_true_eq] at hB
  obtain ⟨h1, h3, h4, h5, h6⟩ := hB
  refine wp_region_noPanic (wp_region_any hm ?_)
  have inv0 : HeadInv .any ops n (Array.replicate ops.size false) :=
    ⟨by simp, fun j oj _ hl => (by rw [getD_replicate_false] at hl; cases hl), fun t _ ht => getD_in (by simpa using ht) (getD_replicate_false _ _)⟩
  have := wpAnyE_mix h1 h4 h5 (fun _ _ _ _ _ h => h) L _ a w.drew h6 (.inl ⟨inv0, hS⟩) h
  rw [h3] at this
  exact wpAny_of_E _ _ _ _ this
section
variable {l : List Oper} {A : List Nat} {a : Act} {w : World} {i n : Nat} {r : List (Bool × Nat)} {o : Oper} {v : Value}
theorem wpMix_nil (h : Q .normal a w) : wpMix P ops Q S n A [] a w := h
theorem wpMix_q (hi : l[i]? = some o) (hw : Region.wanted o (yielded l.toArray a.tmps) = true)
    (hy : ∀ w', (A.contains i = true → S w') → (execOp a.eval o).run P w' = .ok (.value v) w') (h : wpMix P l.toArray Q S n A r (a.put o.dst v) w) : wpMix P l.toArray Q S n A ((true, i) :: r) a w :=
  ⟨o, v, by simpa using hi, .inl ⟨hw, hy⟩, h⟩
theorem wpMix_qskip (hi : l[i]? = some o) (hw : Region.wanted o (yielded l.toArray a.tmps) = false)
    (h : wpMix P l.toArray Q S n A r (a.put o.dst undef) w) : wpMix P l.toArray Q S n A ((true, i) :: r) a w :=
  ⟨o, undef, by simpa using hi, .inr ⟨hw, rfl⟩, h⟩
theorem wpMix_e (hi : l[i]? = some o) (hw : Region.wanted o (yielded l.toArray a.tmps) = true)
    (h : ∀ K : Act → World → Prop, RowKit.Hid (∀ a' w', (i < n → S w') → wpMix P l.toArray Q S n A r a' w' → K a' w') → o.wp P a w K Q) : wpMix P l.toArray Q S n A ((false, i) :: r) a w := by
  show wpOp P l.toArray Q i _ a w
  unfold wpOp
  have hi : l.toArray[i]? = some o := by simpa using hi
  simp only [hi, hw, if_true]
  exact .inl (h _ (fun a' w' h1 h2 => ⟨h1, h2⟩))
theorem wpMix_eskip (hi : l[i]? = some o) (hw : Region.wanted o (yielded l.toArray a.tmps) = false) (hS : S w)
    (h : wpMix P l.toArray Q S n A r (a.put o.dst undef) w) : wpMix P l.toArray Q S n A ((false, i) :: r) a w := by
  show wpOp P l.toArray Q i _ a w
  unfold wpOp
  have hi : l.toArray[i]? = some o := by simpa using hi
  simp only [hi, hw, Bool.false_eq_true, if_false]
  exact ⟨fun _ => hS, h⟩
end
end
end Go
