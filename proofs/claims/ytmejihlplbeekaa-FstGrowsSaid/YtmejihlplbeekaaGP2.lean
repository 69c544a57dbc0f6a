/-
  The least numbers of elements that are still written, as a plain law.
-/
import Derived.Test.YtmejihlplbeekaaG2
namespace Go.Proofs.Ytmejihlplbeekaa
def costA (a : PArc) : Int := if a.out = 0 then 0 else 1
def keysN (lf : Plc → Option Int) (bx : List Plc) : Nat := wsum (fun c => if (lf c).isSome then 1 else 0) bx
def mwt (lf : Plc → Option Int) (N : Nat) (c : Plc) : Nat := match lf c with | some v => v.toNat | none => N + 1
def mw (lf : Plc → Option Int) (bx : List Plc) : Nat := wsum (mwt lf bx.length) bx
structure MInv (F : PFst) (xs : List Int) (bx : List Plc) (lf : Plc → Option Int) : Prop where
  val : ∀ c v, lf c = some v → PBox F xs c ∧ 0 ≤ v ∧ v < (keysN lf bx : Int)
  fin : ∀ t, t ∈ F.final → lf ⟨t, xs.length⟩ = some 0
def RelaxedAt (xs : List Int) (lf : Plc → Option Int) (a : PArc) (c : Plc) : Prop := okP xs a c = true → ∀ v, lf (nxP a c) = some v → ∃ u, lf c = some u ∧ u ≤ v + costA a
def PassM (F : PFst) (xs : List Int) (bx : List Plc) (lf0 : Plc → Option Int) (D : PArc → Plc → Prop) (lf : Plc → Option Int) (more : Bool) : Prop :=
  MInv F xs bx lf ∧ mw lf bx ≤ mw lf0 bx ∧ (more = true → mw lf bx < mw lf0 bx) ∧ (more = false → lf = lf0 ∧ ∀ a c, D a c → RelaxedAt xs lf0 a c)
/-- what measure leaves -/
structure MOk (F : PFst) (xs : List Int) (N : Nat) (lf : Plc → Option Int) : Prop where
  acc : ∀ c, PBox F xs c → ∀ w, AccP F xs c w → ∃ u, lf c = some u ∧ u ≤ (w.length : Int)
  fin : ∀ t, t ∈ F.final → lf ⟨t, xs.length⟩ = some 0
  val : ∀ c v, lf c = some v → 0 ≤ v ∧ v < (N : Int)
theorem keysN_le (lf : Plc → Option Int) (bx : List Plc) : keysN lf bx ≤ bx.length := by
  have := wsum_const 1 bx (f := fun c => if (lf c).isSome then 1 else 0) (fun x _ => by split <;> simp)
  rwa [Nat.mul_one] at this
theorem mw_le {F : PFst} {xs : List Int} {bx : List Plc} {lf : Plc → Option Int} (h : MInv F xs bx lf) : mw lf bx ≤ bx.length * (bx.length + 1) := by
  refine wsum_const _ _ fun c _ => ?_
  unfold mwt
  cases hv : lf c with
  | none => exact Nat.le_refl _
  | some v =>
    have := (h.val c v hv).2.2
    have := keysN_le lf bx
    simp only
    omega
section
variable {F : PFst} {xs : List Int} {bx : List Plc} {lf lf0 : Plc → Option Int}
theorem MInv.step (hb : ∀ c, PBox F xs c → c ∈ bx) (h : MInv F xs bx lf) {a : PArc} {c : Plc} (hc : PBox F xs c) {v : Int} (hv : lf (nxP a c) = some v) (ho : lf c = none ∨ ∃ old, lf c = some old ∧ v + costA a < old) :
    MInv F xs bx (put lf c (v + costA a)) ∧ mw (put lf c (v + costA a)) bx < mw lf bx ∧ v + costA a < (bx.length : Int) + 1 ∧ 0 ≤ v + costA a := by
  obtain ⟨_, v0, v1⟩ := h.val _ v hv
  have hcost : 0 ≤ costA a ∧ costA a ≤ 1 := by unfold costA; split <;> omega
  have hk := keysN_le lf bx
  have hcb := hb c hc
  have hput : ∀ d, d ≠ c → put lf c (v + costA a) d = lf d := fun d hd => by simp [put, hd]
  have hputc : put lf c (v + costA a) c = some (v + costA a) := by simp [put]
  have hmono : keysN lf bx ≤ keysN (put lf c (v + costA a)) bx := wsum_le fun d _ => by
    by_cases e : d = c
    · subst e; rw [hputc]; simp; split <;> omega
    · rw [hput d e]; exact Nat.le_refl _
  have hnew : v + costA a < (keysN (put lf c (v + costA a)) bx : Int) := by
    rcases ho with ho | ⟨old, ho, hlt⟩
    · have : keysN lf bx < keysN (put lf c (v + costA a)) bx := wsum_lt (fun d _ => by
        by_cases e : d = c
        · subst e; rw [hputc]; simp; split <;> omega
        · rw [hput d e]; exact Nat.le_refl _) hcb (by rw [hputc, ho]; simp)
      omega
    · have := (h.val c old ho).2.2
      omega
  have hk2 := keysN_le (put lf c (v + costA a)) bx
  refine ⟨⟨fun d u hd => ?_, fun t ht => ?_⟩, ?_, by omega, by omega⟩
  · by_cases e : d = c
    · subst e
      rw [hputc] at hd
      cases hd
      exact ⟨hc, by omega, hnew⟩
    · rw [hput d e] at hd
      obtain ⟨h1, h2, h3⟩ := h.val d u hd
      exact ⟨h1, h2, by omega⟩
  · have hf := h.fin t ht
    by_cases e : (⟨t, xs.length⟩ : Plc) = c
    · rw [e] at hf
      rcases ho with ho | ⟨old, ho, hlt⟩
      · rw [hf] at ho; cases ho
      · rw [hf] at ho
        cases ho
        omega
    · rw [hput _ e]; exact hf
  · refine wsum_lt (fun d _ => ?_) hcb ?_
    · by_cases e : d = c
      · subst e
        unfold mwt
        rw [hputc]
        rcases ho with ho | ⟨old, ho, hlt⟩
        · rw [ho]; simp only; omega
        · rw [ho]; simp only; omega
      · unfold mwt
        rw [hput d e]
        exact Nat.le_refl _
    · unfold mwt
      rw [hputc]
      rcases ho with ho | ⟨old, ho, hlt⟩
      · rw [ho]; simp only; omega
      · rw [ho]; simp only; omega
theorem PassM.start (h : MInv F xs bx lf) : PassM F xs bx lf (fun _ _ => False) lf false :=
  ⟨h, Nat.le_refl _, (fun h => by cases h), fun _ => ⟨rfl, fun _ _ h => h.elim⟩⟩
theorem PassM.weaken {D D' : PArc → Plc → Prop} {more : Bool} (h : PassM F xs bx lf0 D lf more) (hD : ∀ a c, D' a c → D a c) : PassM F xs bx lf0 D' lf more :=
  ⟨h.1, h.2.1, h.2.2.1, fun hb => ⟨(h.2.2.2 hb).1, fun a c hd => (h.2.2.2 hb).2 a c (hD a c hd)⟩⟩
/-- a place that needs no change -/
theorem PassM.keep {D D' : PArc → Plc → Prop} {more : Bool} (h : PassM F xs bx lf0 D lf more) {a : PArc} {c : Plc} (hr : RelaxedAt xs lf a c) (hD : ∀ a' c', D' a' c' → D a' c' ∨ (a' = a ∧ c' = c)) : PassM F xs bx lf0 D' lf more := by
  refine ⟨h.1, h.2.1, h.2.2.1, fun hb => ?_⟩
  obtain ⟨e, hd⟩ := h.2.2.2 hb
  refine ⟨e, fun a' c' hd' => ?_⟩
  rcases hD a' c' hd' with h | ⟨rfl, rfl⟩
  · exact hd a' c' h
  · rw [← e]; exact hr
theorem PassM.step (hb : ∀ c, PBox F xs c → c ∈ bx) {D D' : PArc → Plc → Prop} {more : Bool} (h : PassM F xs bx lf0 D lf more) {a : PArc} {c : Plc} (hc : PBox F xs c) {v : Int} (hv : lf (nxP a c) = some v) (ho : lf c = none ∨ ∃ old, lf c = some old ∧ v + costA a < old) :
    PassM F xs bx lf0 D' (put lf c (v + costA a)) true := by
  obtain ⟨h1, h2, _⟩ := h.1.step hb hc hv ho
  have := h.2.1
  exact ⟨h1, by omega, fun _ => by omega, fun hb => by cases hb⟩
theorem MInv.done (hF : GoodA F) (h : MInv F xs bx lf) (hr : ∀ a c, a ∈ F.arcs → PBox F xs c → c.q = a.fr → RelaxedAt xs lf a c) : MOk F xs bx.length lf := by
  refine ⟨?_, h.fin, fun c v hv => ?_⟩
  · rintro c hc w ⟨t, ht, p, h1, h2, h3, h4⟩
    induction p generalizing c w with
    | nil =>
      have := hc.i0
      have := hc.i1
      simp only [chain] at h2
      have hl := congrArg List.length h3
      simp [ins] at hl
      have e : c = ⟨t, xs.length⟩ := by
        cases c
        simp only at *
        congr 1
        omega
      rw [e]
      exact ⟨0, h.fin t ht, by omega⟩
    | cons a p ih =>
      have := hc.i0
      have := hc.i1
      obtain ⟨e1, h2⟩ := h2
      have hd := step_drop xs c.i.toNat a.inp (ins p) (by rw [← h3]; simp [ins])
      have hlv : Lv F xs a c := ⟨h1 a (by simp), e1, hd.1⟩
      obtain ⟨u, hu, hul⟩ := ih (nxP a c) (hc.step hF hlv) (outs p) (fun b hb => h1 b (by simp [hb])) h2 (by
        rw [hd.2]
        congr 1
        simp only [nxP]
        omega) rfl
      obtain ⟨u', hu', hle⟩ := hr a c (h1 a (by simp)) hc e1.symm hd.1 u hu
      refine ⟨u', hu', ?_⟩
      rw [← h4]
      have : ((outs (a :: p)).length : Int) = (outs p).length + costA a := by
        unfold costA
        by_cases ho : a.out = 0 <;> simp [outs, sym, ho]
      omega
  · obtain ⟨_, h1, h2⟩ := h.val c v hv
    have := keysN_le lf bx
    exact ⟨h1, by omega⟩
/-- the start: nothing at the ends -/
def lfin (n : Nat) (l : List Int) : Plc → Option Int := fun c => if decide (c.i = n) && decide (c.q ∈ l) then some 0 else none
theorem lfin_snoc (n : Nat) (l : List Int) (x : Int) : put (lfin n l) ⟨x, n⟩ 0 = lfin n (l ++ [x]) := by
  funext c
  unfold put lfin
  by_cases h : c = ⟨x, n⟩
  · subst h
    simp
  · rw [if_neg h]
    by_cases h1 : c.i = n
    · have h2 : c.q ≠ x := fun e => h (by cases c; simp only at *; simp [h1, e])
      simp [h1, h2]
    · simp [h1]
theorem MInv.start (hb : ∀ c, PBox F xs c → c ∈ bx) (hf : ∀ q, q ∈ F.final → 0 ≤ q ∧ q < F.states) : MInv F xs bx (lfin xs.length F.final) := by
  refine ⟨fun c v hv => ?_, fun t ht => by simp [lfin, ht]⟩
  unfold lfin at hv
  split at hv
  · rename_i h
    simp only [Bool.and_eq_true, decide_eq_true_eq] at h
    cases hv
    obtain ⟨h1, h2⟩ := hf c.q h.2
    have hc : PBox F xs c := ⟨h1, h2, by omega, by omega⟩
    refine ⟨hc, Int.le_refl _, ?_⟩
    have : wsum (fun _ => 0) bx < keysN (lfin xs.length F.final) bx := wsum_lt (fun _ _ => Nat.zero_le _) (hb c hc) (by simp [lfin, h])
    omega
  · cases hv
end
end Go.Proofs.Ytmejihlplbeekaa
