/-
  A region that draws its order, in the round of a range over a function: out of the plain walk of the region.
-/
import Derived.Test.YtnjniganlielcaaReg3
import Derived.OrdersIn
import Derived.RangeFuncCalls
namespace Go
section
variable {P : Program} {ops : Array Oper} {Q : Exit → Act → World → Prop} {md : Region.Mode} {l n : Nat}
def Region.noLater (ops : Array Oper) : Bool := ops.toList.all fun o => match o.op with | .defer _ => false | _ => true
theorem Region.noLater_spec (h : Region.noLater ops = true) (j : Nat) (o : Oper) (c : Call) (hi : ops[j]? = some o) : o.op ≠ .defer c := by
  intro hc
  have hm : o ∈ ops.toList := by rw [← Array.getElem?_toList] at hi; exact List.mem_of_getElem? hi
  have := List.all_eq_true.1 h o hm
  rw [hc] at this
  cases this
theorem Oper.wpIn_round {o : Oper} {a : Act} {w : World} {K : Act → World → Prop} (hnd : ∀ c, o.op ≠ .defer c) (h : o.wp P a w K Q) : o.wpIn (Fence.wide.inRound l) n P a w K Q := by
  refine ⟨fun _ _ => trivial, ?_⟩
  rw [Oper.semAt_eq _ _ _ hnd]
  unfold Oper.wp at h
  generalize (execOp a.eval o).run P w = r at *
  cases r with
  | ok x w' =>
    cases x <;> simp only [Oper.upon] at h <;>
      first
        | exact h
        | exact ⟨fun h => (by cases h), CallsIn.inRound l (callsIn_wide.2 h)⟩
        | exact ⟨fun h => (by cases h), fun c cs _ => let ⟨v, w', r, s⟩ := h c cs; ⟨v, w', r, stepsIn_wide.2 s⟩⟩
        | exact h.elim
  | halt x w' => cases x <;> simp only [Oper.upon] at h <;> first | exact h | exact h.elim
theorem wpOpIn_round {i : Nat} {K : Act → World → Prop} {a : Act} {w : World} (hnd : ∀ (j : Nat) (o : Oper) c, ops[j]? = some o → o.op ≠ .defer c) (hlo : ¬ LetsOut Q) (h : wpOp P ops Q i K a w) : wpOpIn (Fence.wide.inRound l) n P ops Q i K a w := by
  unfold wpOp at h
  unfold wpOpIn
  cases ho : ops[i]? with
  | none => simpa [ho] using h
  | some o =>
    simp only [ho] at h ⊢
    by_cases hw : Region.wanted o (yielded ops a.tmps) = true
    · rw [if_pos hw] at h ⊢
      rcases h with h | h
      · exact Oper.wpIn_round (fun c => hnd i o c ho) h
      · exact absurd h.2 hlo
    · rw [if_neg hw] at h ⊢
      exact ⟨fun _ _ => trivial, h⟩
theorem wpAnyIn_round (hnd : ∀ (j : Nat) (o : Oper) c, ops[j]? = some o → o.op ≠ .defer c) (hlo : ¬ LetsOut Q) : ∀ (fuel : Nat) (listed : Array Bool) (a : Act) (w : World), wpAny P md ops Q fuel listed a w → wpAnyIn (Fence.wide.inRound l) n P md ops Q fuel listed a w
  | 0, _, _, _, h => h
  | fuel + 1, _, _, _, h => ⟨h.1, fun i hi => wpOpIn_mono (fun a' w' h' => wpAnyIn_round hnd hlo fuel _ a' w' h') (wpOpIn_round hnd hlo (h.2 i hi))⟩
theorem wpIn_region_mix {id : Nat} {a : Act} {w : World} (k : Nat) (A U : List Nat) (L : List (Bool × Nat)) (S : World → Prop) (hm : P.follows .mixedOrders = true) (hB : Region.mixOk .any ops k A U L = true)
    (hd : Region.noLater ops = true) (hlo : ¬ LetsOut Q)
    (h : ∀ D : World, D = w.drew → S D ∧ wpMix P ops (NoPanic Q) S k A L a D) : (Code.region id ops true).wpIn (Fence.wide.inRound l) n P Q a w := by
  obtain ⟨hS, h⟩ := h _ rfl
  simp only [Region.mixOk, Bool.and_eq_true, decide_eq_true_eq] at hB
  obtain ⟨h1, h3, h4, h5, h6⟩ := hB
  have inv0 : HeadInv .any ops k (Array.replicate ops.size false) :=
    ⟨by simp, fun j oj _ hl => (by rw [getD_replicate_false] at hl; cases hl), fun t _ ht => getD_in (by simpa using ht) (getD_replicate_false _ _)⟩
  have := wpAnyE_mix h1 h4 h5 (fun _ _ _ _ _ h => h) L _ a w.drew h6 (.inl ⟨inv0, hS⟩) h
  rw [h3] at this
  have hlo' : ¬ LetsOut (NoPanic Q) := fun ⟨a, w, h⟩ => hlo ⟨a, w, h⟩
  exact wpIn_mono (wpIn_region_any hm (wpAnyIn_round (Region.noLater_spec hd) hlo' _ _ _ _ (wpAny_of_E _ _ _ _ this))) NoPanic.imp
end
end Go
