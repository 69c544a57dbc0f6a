/-
  The reference's tables for Outputs, as plain laws.
-/
import Derived.Test.YtmejihlplbeekaaGP3
import Derived.Test.YtmejihlplbeekaaGP2
import Derived.Test.YtmejihlplbeekaaT5
namespace Go.Proofs.Ytmejihlplbeekaa
def ixP (xs : List Int) (q i : Nat) : Nat := q * (xs.length + 1) + i
theorem ixP_inj {xs : List Int} {q i q' i' : Nat} (hi : i ≤ xs.length) (hi' : i' ≤ xs.length) (h : ixP xs q i = ixP xs q' i') : q = q' ∧ i = i' := by
  have h2 : idx (xs.length + 1) 1 q i 0 = idx (xs.length + 1) 1 q' i' 0 := by
    unfold ixP at h
    unfold idx
    omega
  have := idx_inj (by omega) (by omega) (by omega) (by omega) h2
  exact ⟨this.1, this.2.1⟩
theorem ixP_lt {xs : List Int} {S q i : Nat} (hq : q < S) (hi : i ≤ xs.length) : ixP xs q i < S * (xs.length + 1) := by
  have := idx_lt (n := xs.length + 1) (m := 1) (k := 0) hq (by omega : i < xs.length + 1) (by omega)
  unfold idx at this
  unfold ixP
  omega
def boxB (F : PFst) (xs : List Int) (c : Plc) : Bool := decide (0 ≤ c.q ∧ c.q < F.states ∧ 0 ≤ c.i ∧ c.i ≤ xs.length)
theorem boxB_iff {F : PFst} {xs : List Int} {c : Plc} : boxB F xs c = true ↔ PBox F xs c := by
  unfold boxB
  rw [decide_eq_true_iff]
  exact ⟨fun ⟨h1, h2, h3, h4⟩ => ⟨h1, h2, h3, h4⟩, fun ⟨h1, h2, h3, h4⟩ => ⟨h1, h2, h3, h4⟩⟩
/-- marks, as a set of places -/
def mkS (F : PFst) (xs : List Int) (M : List Bool) : Plc → Bool := fun c => boxB F xs c && M.getD (ixP xs c.q.toNat c.i.toNat) false
def szP (F : PFst) (xs : List Int) : Nat := F.states.toNat * (xs.length + 1)
section
variable {F : PFst} {xs : List Int}
theorem mkS_box (M : List Bool) : BoxP F xs (mkS F xs M) := fun c h => by
  simp only [mkS, Bool.and_eq_true] at h
  exact boxB_iff.1 h.1
theorem mkS_iff {M : List Bool} {c : Plc} (hc : PBox F xs c) : mkS F xs M c = M.getD (ixP xs c.q.toNat c.i.toNat) false := by
  simp only [mkS, boxB_iff.2 hc, Bool.true_and]
theorem mkS_at {M : List Bool} {q i : Nat} (hq : (q : Int) < F.states) (hi : i ≤ xs.length) : mkS F xs M ⟨q, i⟩ = M.getD (ixP xs q i) false :=
  mkS_iff (c := ⟨q, i⟩) ⟨by simp, hq, by simp, by simp; omega⟩
theorem PBox.ix {c : Plc} (hc : PBox F xs c) : ixP xs c.q.toNat c.i.toNat < szP F xs := by
  have := hc.q0; have := hc.q1; have := hc.i0; have := hc.i1
  exact ixP_lt (by omega) (by omega)
theorem mkS_set {M : List Bool} (hl : M.length = szP F xs) {c : Plc} (hc : PBox F xs c) : mkS F xs (M.set (ixP xs c.q.toNat c.i.toNat) true) = addS (mkS F xs M) c := by
  funext d
  have hx := hc.ix
  by_cases hd : PBox F xs d
  · simp only [addS, mkS_iff hd, getD_set]
    by_cases e : d = c
    · subst e
      simp [hl, hx]
    · rw [if_neg]
      · simp [e]
      · rintro ⟨h, _⟩
        have := hc.q0; have := hc.i0; have := hc.i1
        have := hd.q0; have := hd.i0; have := hd.i1
        obtain ⟨e1, e2⟩ := ixP_inj (by omega) (by omega) h
        exact e (by cases c; cases d; simp only at *; congr 1 <;> omega)
  · have hb : boxB F xs d = false := by
      cases hb : boxB F xs d
      · rfl
      · exact absurd (boxB_iff.1 hb) hd
    have hne : d ≠ c := fun e => hd (e ▸ hc)
    simp [mkS, addS, hb, hne]
theorem mkS_none (n : Nat) : mkS F xs (List.replicate n false) = fun _ => false := by
  funext d
  simp only [mkS, List.getD_eq_getElem?_getD, List.getElem?_replicate]
  split <;> simp
/-- the table of the least numbers -/
structure DInv (F : PFst) (xs : List Int) (D : List Int) : Prop where
  len : D.length = szP F xs
  rng : ∀ j, 0 ≤ D.getD j 0 ∧ D.getD j 0 ≤ 1073741824
  fin : ∀ t, t ∈ F.final → D.getD (ixP xs t.toNat xs.length) 0 = 0
def RelD (xs : List Int) (D : List Int) (a : PArc) (i : Nat) : Prop := stepOk xs i a.inp = true → D.getD (ixP xs a.fr.toNat i) 0 ≤ D.getD (ixP xs a.tgt.toNat (i + stepD a.inp)) 0 + costA a
def sumD (D : List Int) : Nat := (D.map Int.toNat).sum
theorem sumD_set (D : List Int) (j : Nat) (v : Int) (hj : j < D.length) (h0 : 0 ≤ v) (hv : v < D.getD j 0) : sumD (D.set j v) < sumD D := by
  induction D generalizing j with
  | nil => simp at hj
  | cons x D ih =>
    cases j with
    | zero => simp at hv; simp [sumD]; omega
    | succ j =>
      have := ih j (by simpa using hj) (by simpa using hv)
      simp only [sumD, List.set_cons_succ, List.map_cons, List.sum_cons] at this ⊢
      omega
theorem getD_setI (D : List Int) (j j' : Nat) (v : Int) : (D.set j v).getD j' 0 = if j = j' ∧ j < D.length then v else D.getD j' 0 := by
  simp only [List.getD_eq_getElem?_getD, List.getElem?_set]
  by_cases h : j = j'
  · subst h
    by_cases hl : j < D.length
    · simp [hl]
    · simp [hl]
  · simp [h]
theorem DInv.step {D : List Int} (h : DInv F xs D) {j : Nat} {v : Int} (hj : j < D.length) (h0 : 0 ≤ v) (hv : v < D.getD j 0) : DInv F xs (D.set j v) ∧ sumD (D.set j v) < sumD D := by
  refine ⟨⟨by rw [List.length_set]; exact h.len, fun k => ?_, fun t ht => ?_⟩, sumD_set D j v hj h0 hv⟩
  · rw [getD_setI]
    split
    · have := (h.rng j).2; omega
    · exact h.rng k
  · rw [getD_setI]
    split
    · rename_i e
      have := h.fin t ht
      rw [e.1] at hv
      omega
    · exact h.fin t ht
def PassD (F : PFst) (xs : List Int) (D0 : List Int) (Dn : PArc → Nat → Prop) (D : List Int) (more : Bool) : Prop :=
  DInv F xs D ∧ sumD D ≤ sumD D0 ∧ (more = true → sumD D < sumD D0) ∧ (more = false → D = D0 ∧ ∀ a i, Dn a i → RelD xs D0 a i)
theorem PassD.start {D : List Int} (h : DInv F xs D) : PassD F xs D (fun _ _ => False) D false :=
  ⟨h, Nat.le_refl _, (fun h => by cases h), fun _ => ⟨rfl, fun _ _ h => h.elim⟩⟩
theorem PassD.weaken {D0 D : List Int} {Dn Dn' : PArc → Nat → Prop} {more : Bool} (h : PassD F xs D0 Dn D more) (hD : ∀ a i, Dn' a i → Dn a i) : PassD F xs D0 Dn' D more :=
  ⟨h.1, h.2.1, h.2.2.1, fun hb => ⟨(h.2.2.2 hb).1, fun a c hd => (h.2.2.2 hb).2 a c (hD a c hd)⟩⟩
theorem PassD.keep {D0 D : List Int} {Dn Dn' : PArc → Nat → Prop} {more : Bool} (h : PassD F xs D0 Dn D more) {a : PArc} {i : Nat} (hr : RelD xs D a i) (hD : ∀ a' i', Dn' a' i' → Dn a' i' ∨ (a' = a ∧ i' = i)) : PassD F xs D0 Dn' D more := by
  refine ⟨h.1, h.2.1, h.2.2.1, fun hb => ?_⟩
  obtain ⟨e, hd⟩ := h.2.2.2 hb
  refine ⟨e, fun a' c' hd' => ?_⟩
  rcases hD a' c' hd' with h | ⟨rfl, rfl⟩
  · exact hd a' c' h
  · rw [← e]; exact hr
theorem PassD.step {D0 D : List Int} {Dn Dn' : PArc → Nat → Prop} {more : Bool} (h : PassD F xs D0 Dn D more) {j : Nat} {v : Int} (hj : j < D.length) (h0 : 0 ≤ v) (hv : v < D.getD j 0) : PassD F xs D0 Dn' (D.set j v) true := by
  obtain ⟨h1, h2⟩ := h.1.step hj h0 hv
  have := h.2.1
  exact ⟨h1, by omega, fun _ => by omega, fun hb => by cases hb⟩
theorem DInv.done (hF : GoodA F) {D : List Int} (h : DInv F xs D) (hr : ∀ a i, a ∈ F.arcs → i ≤ xs.length → RelD xs D a i) : ∀ c, PBox F xs c → ∀ w, AccP F xs c w → D.getD (ixP xs c.q.toNat c.i.toNat) 0 ≤ (w.length : Int) := by
  rintro c hc w ⟨t, ht, p, h1, h2, h3, h4⟩
  induction p generalizing c w with
  | nil =>
    have := hc.i0
    have := hc.i1
    simp only [chain] at h2
    have hl := congrArg List.length h3
    simp [ins] at hl
    have e : c.i.toNat = xs.length := by omega
    rw [e, h2, h.fin t ht]
    omega
  | cons a p ih =>
    have := hc.i0
    have := hc.i1
    obtain ⟨e1, h2⟩ := h2
    have hd := step_drop xs c.i.toNat a.inp (ins p) (by rw [← h3]; simp [ins])
    have hlv : Lv F xs a c := ⟨h1 a (by simp), e1, hd.1⟩
    have en : (nxP a c).i.toNat = c.i.toNat + stepD a.inp := by simp only [nxP]; omega
    have hu := ih (nxP a c) (hc.step hF hlv) (outs p) (fun b hb => h1 b (by simp [hb])) h2 (by rw [hd.2, en]) rfl
    have hle := hr a c.i.toNat (h1 a (by simp)) (by omega) hd.1
    rw [en, show (nxP a c).q = a.tgt from rfl] at hu
    rw [e1] at hle
    rw [← h4]
    have : ((outs (a :: p)).length : Int) = (outs p).length + costA a := by
      unfold costA
      by_cases ho : a.out = 0 <;> simp [outs, sym, ho]
    omega
/-- marks that spread over silent arcs -/
structure CInv (F : PFst) (xs : List Int) (N : Plc → Bool) (M : List Bool) : Prop where
  len : M.length = szP F xs
  nsub : ∀ c, N c = true → mkS F xs M c = true
  acc : ∀ c, mkS F xs M c = true → ∀ w, AccP F xs c w → AccS F xs N w
def CloAt (xs : List Int) (M : List Bool) (a : PArc) (i : Nat) : Prop := a.out = 0 → stepOk xs i a.inp = true → M.getD (ixP xs a.fr.toNat i) false = true → M.getD (ixP xs a.tgt.toNat (i + stepD a.inp)) false = true
def PassC (F : PFst) (xs : List Int) (N : Plc → Bool) (M0 : List Bool) (Dn : PArc → Nat → Prop) (M : List Bool) (more : Bool) : Prop :=
  CInv F xs N M ∧ cf M ≤ cf M0 ∧ (more = true → cf M < cf M0) ∧ (more = false → M = M0 ∧ ∀ a i, Dn a i → CloAt xs M0 a i)
theorem PassC.start {N : Plc → Bool} {M : List Bool} (h : CInv F xs N M) : PassC F xs N M (fun _ _ => False) M false :=
  ⟨h, Nat.le_refl _, (fun h => by cases h), fun _ => ⟨rfl, fun _ _ h => h.elim⟩⟩
theorem PassC.weaken {N : Plc → Bool} {M0 M : List Bool} {Dn Dn' : PArc → Nat → Prop} {more : Bool} (h : PassC F xs N M0 Dn M more) (hD : ∀ a i, Dn' a i → Dn a i) : PassC F xs N M0 Dn' M more :=
  ⟨h.1, h.2.1, h.2.2.1, fun hb => ⟨(h.2.2.2 hb).1, fun a c hd => (h.2.2.2 hb).2 a c (hD a c hd)⟩⟩
theorem PassC.keep {N : Plc → Bool} {M0 M : List Bool} {Dn Dn' : PArc → Nat → Prop} {more : Bool} (h : PassC F xs N M0 Dn M more) {a : PArc} {i : Nat} (hr : CloAt xs M a i) (hD : ∀ a' i', Dn' a' i' → Dn a' i' ∨ (a' = a ∧ i' = i)) : PassC F xs N M0 Dn' M more := by
  refine ⟨h.1, h.2.1, h.2.2.1, fun hb => ?_⟩
  obtain ⟨e, hd⟩ := h.2.2.2 hb
  refine ⟨e, fun a' c' hd' => ?_⟩
  rcases hD a' c' hd' with h | ⟨rfl, rfl⟩
  · exact hd a' c' h
  · rw [← e]; exact hr
theorem PassC.step (hF : GoodA F) {N : Plc → Bool} {M0 M : List Bool} {Dn Dn' : PArc → Nat → Prop} {more : Bool} (h : PassC F xs N M0 Dn M more) {a : PArc} {i : Nat} (ha : a ∈ F.arcs) (hi : i ≤ xs.length) (ho : a.out = 0) (hs : stepOk xs i a.inp = true)
    (hm : M.getD (ixP xs a.fr.toNat i) false = true) (hn : M.getD (ixP xs a.tgt.toNat (i + stepD a.inp)) false = false) : PassC F xs N M0 Dn' (M.set (ixP xs a.tgt.toNat (i + stepD a.inp)) true) true := by
  obtain ⟨f0, f1, t0, t1, _⟩ := hF.tgt a ha
  have hb : PBox F xs ⟨a.fr, i⟩ := ⟨f0, f1, by simp, by simp; omega⟩
  have hlv : Lv F xs a ⟨a.fr, i⟩ := ⟨ha, rfl, hs⟩
  have hb2 := hb.step hF hlv
  have e2 : ixP xs (nxP a ⟨a.fr, i⟩).q.toNat (nxP a ⟨a.fr, i⟩).i.toNat = ixP xs a.tgt.toNat (i + stepD a.inp) := by
    simp only [nxP]
    congr 1
  have hx := hb2.ix
  have hset := mkS_set h.1.len hb2
  rw [e2] at hx hset
  have hcf := (cf_set M (ixP xs a.tgt.toNat (i + stepD a.inp))).2 (by rw [h.1.len]; exact hx) hn
  have := h.2.1
  refine ⟨⟨by rw [List.length_set]; exact h.1.len, fun c hc => ?_, fun c hc w hw => ?_⟩, by omega, fun _ => by omega, fun hb => by cases hb⟩
  · rw [hset]; exact addS_sub (h.1.nsub c hc)
  · rw [hset] at hc
    rcases addS_iff.1 hc with rfl | hc
    · have hcc := AccP.cons (c := ⟨a.fr, i⟩) (by simp) hlv hw
      rw [show sym a.out = [] by simp [sym, ho]] at hcc
      exact h.1.acc _ (by rw [mkS_iff hb]; simpa using hm) _ hcc
    · exact h.1.acc c hc w hw
theorem CInv.done (hF : GoodA F) {N : Plc → Bool} {M : List Bool} (h : CInv F xs N M) (hr : ∀ a i, a ∈ F.arcs → i ≤ xs.length → CloAt xs M a i) : SpreadP F xs N (mkS F xs M) := by
  refine ⟨h.nsub, mkS_box M, fun c hc a hl ho => ?_, h.acc⟩
  have hb := mkS_box M c hc
  have hb2 := hb.step hF hl
  have := hb.i0; have := hb.i1
  rw [mkS_iff hb2]
  rw [mkS_iff hb] at hc
  have h1 := hr a c.i.toNat hl.1 (by omega) ho hl.2.2 (by rw [hl.2.1]; exact hc)
  have e : (nxP a c).i.toNat = c.i.toNat + stepD a.inp := by simp only [nxP]; omega
  rw [e]
  exact h1
theorem CInv.start {N : Plc → Bool} {M : List Bool} (hl : M.length = szP F xs) (hN : mkS F xs M = N) : CInv F xs N M :=
  ⟨hl, fun c hc => by rw [hN]; exact hc, fun c hc w hw => ⟨c, by rw [← hN]; exact hc, hw⟩⟩
/-- what is marked after x was written -/
structure WInv (F : PFst) (xs : List Int) (V : Plc → Bool) (x : Int) (Dn : PArc → Nat → Prop) (M : List Bool) : Prop where
  len : M.length = szP F xs
  sound : ∀ d, mkS F xs M d = true → ∃ c a, V c = true ∧ Lv F xs a c ∧ a.out = x ∧ d = nxP a c
  full : ∀ a c, V c = true → Lv F xs a c → a.out = x → Dn a c.i.toNat → mkS F xs M (nxP a c) = true
theorem WInv.start (V : Plc → Bool) (x : Int) : WInv F xs V x (fun _ _ => False) (List.replicate (szP F xs) false) :=
  ⟨by simp, (fun d hd => by rw [mkS_none] at hd; cases hd), (fun _ _ _ _ _ h => h.elim)⟩
theorem WInv.weaken {V : Plc → Bool} {x : Int} {Dn Dn' : PArc → Nat → Prop} {M : List Bool} (h : WInv F xs V x Dn M) (hD : ∀ a i, Dn' a i → Dn a i) : WInv F xs V x Dn' M :=
  ⟨h.len, h.sound, fun a c h1 h2 h3 h4 => h.full a c h1 h2 h3 (hD a _ h4)⟩
theorem WInv.keep {V : Plc → Bool} {x : Int} {Dn Dn' : PArc → Nat → Prop} {M : List Bool} (h : WInv F xs V x Dn M) {a : PArc} {i : Nat} (hr : ∀ c, V c = true → Lv F xs a c → a.out = x → c.i.toNat = i → False) (hD : ∀ a' i', Dn' a' i' → Dn a' i' ∨ (a' = a ∧ i' = i)) : WInv F xs V x Dn' M :=
  ⟨h.len, h.sound, fun a' c h1 h2 h3 h4 => by
    rcases hD a' _ h4 with h5 | ⟨rfl, h5⟩
    · exact h.full a' c h1 h2 h3 h5
    · exact (hr c h1 h2 h3 h5).elim⟩
theorem WInv.step (hF : GoodA F) {V : Plc → Bool} (hV : BoxP F xs V) {x : Int} {Dn Dn' : PArc → Nat → Prop} {M : List Bool} (h : WInv F xs V x Dn M) {a : PArc} {i : Nat} (hv : V ⟨a.fr, i⟩ = true) (ha : a ∈ F.arcs) (ho : a.out = x) (hs : stepOk xs i a.inp = true)
    (hD : ∀ a' i', Dn' a' i' → Dn a' i' ∨ (a' = a ∧ i' = i)) : WInv F xs V x Dn' (M.set (ixP xs a.tgt.toNat (i + stepD a.inp)) true) := by
  have hb := hV _ hv
  have hlv : Lv F xs a ⟨a.fr, i⟩ := ⟨ha, rfl, hs⟩
  have hb2 := hb.step hF hlv
  have e2 : ixP xs (nxP a ⟨a.fr, i⟩).q.toNat (nxP a ⟨a.fr, i⟩).i.toNat = ixP xs a.tgt.toNat (i + stepD a.inp) := by
    simp only [nxP]
    congr 1
  have hset := mkS_set h.len hb2
  rw [e2] at hset
  refine ⟨by rw [List.length_set]; exact h.len, fun d hd => ?_, fun a' c h1 h2 h3 h4 => ?_⟩
  · rw [hset] at hd
    rcases addS_iff.1 hd with rfl | hd
    · exact ⟨_, a, hv, hlv, ho, rfl⟩
    · exact h.sound d hd
  · rw [hset]
    rcases hD a' _ h4 with h5 | ⟨rfl, h5⟩
    · exact addS_sub (h.full a' c h1 h2 h3 h5)
    · have hc := hV c h1
      have := hc.i0
      have e : c = ⟨a'.fr, i⟩ := by
        obtain ⟨_, e1, _⟩ := h2
        cases c
        simp only at *
        congr 1
        · exact e1.symm
        · omega
      rw [e]
      exact addS_self _ _
theorem WInv.done {V : Plc → Bool} {x : Int} {Dn : PArc → Nat → Prop} {M : List Bool} (h : WInv F xs V x Dn M) (hV : BoxP F xs V) (hD : ∀ a i, a ∈ F.arcs → i ≤ xs.length → Dn a i) : IsWr F xs V x (mkS F xs M) :=
  fun d => ⟨h.sound d, fun ⟨c, a, h1, h2, h3, h4⟩ => by
    rw [h4]
    have hc := hV c h1
    have := hc.i0; have := hc.i1
    exact h.full a c h1 h2 h3 (hD a _ h2.1 (by omega))⟩
end
end Go.Proofs.Ytmejihlplbeekaa
