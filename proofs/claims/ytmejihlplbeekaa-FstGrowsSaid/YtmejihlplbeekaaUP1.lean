/-
  What is reached over arcs, as plain laws: the search of the program and the passes of the reference.
-/
import Derived.Test.YtmejihlplbeekaaAcc
namespace Go.Proofs.Ytmejihlplbeekaa
def srcA (d : Bool) (a : PArc) : Int := if d then a.tgt else a.fr
def dstA (d : Bool) (a : PArc) : Int := if d then a.fr else a.tgt
/-- what is reached from S0 -/
inductive Rch (L : List PArc) (d : Bool) (S0 : Int → Prop) : Int → Prop
  | base (q : Int) : S0 q → Rch L d S0 q
  | step (a : PArc) : a ∈ L → Rch L d S0 (srcA d a) → Rch L d S0 (dstA d a)
def nexts (L : List PArc) (d : Bool) (q : Nat) : List Int := (L.filter fun a => srcA d a == (q : Int)).map (dstA d)
theorem nexts_snoc (L : List PArc) (d : Bool) (a : PArc) (q : Nat) : nexts (L ++ [a]) d q = nexts L d q ++ if srcA d a = (q : Int) then [dstA d a] else [] := by
  simp only [nexts, List.filter_append, List.filter_cons, List.filter_nil, beq_iff_eq, List.map_append]
  split <;> rfl
theorem nexts_len (L : List PArc) (d : Bool) (q : Nat) : (nexts L d q).length ≤ L.length := by
  unfold nexts
  rw [List.length_map]
  exact List.length_filter_le _ _
theorem mem_nexts {L : List PArc} {d : Bool} {q : Nat} {y : Int} : y ∈ nexts L d q ↔ ∃ a, a ∈ L ∧ srcA d a = (q : Int) ∧ dstA d a = y := by
  simp only [nexts, List.mem_map, List.mem_filter, beq_iff_eq]
  constructor
  · rintro ⟨a, ⟨h1, h2⟩, h3⟩; exact ⟨a, h1, h2, h3⟩
  · rintro ⟨a, h1, h2, h3⟩; exact ⟨a, ⟨h1, h2⟩, h3⟩
/-- the arcs that begin at what is not marked -/
def restA (L : List PArc) (d : Bool) (M : List Bool) : List PArc := L.filter fun a => !(M.getD (srcA d a).toNat false)
theorem restA_set (L : List PArc) (d : Bool) (M : List Bool) (q : Nat) (hL : ∀ a, a ∈ L → 0 ≤ srcA d a) (hq : q < M.length) (hM : M.getD q false = false) :
    (restA L d (M.set q true)).length + (nexts L d q).length = (restA L d M).length := by
  induction L with
  | nil => rfl
  | cons a L ih =>
    have h1 := ih fun b hb => hL b (by simp [hb])
    have h2 := hL a (by simp)
    have e : restA (a :: L) d (M.set q true) = if q = (srcA d a).toNat then restA L d (M.set q true) else if M.getD (srcA d a).toNat false = true then restA L d (M.set q true) else a :: restA L d (M.set q true) := by
      unfold restA
      rw [List.filter_cons, getD_set]
      by_cases h : q = (srcA d a).toNat
      · simp [h, h ▸ hq]
      · simp only [h, false_and, if_false]
        cases M.getD (srcA d a).toNat false <;> simp
    have e2 : restA (a :: L) d M = if M.getD (srcA d a).toNat false = true then restA L d M else a :: restA L d M := by
      unfold restA
      rw [List.filter_cons]
      cases M.getD (srcA d a).toNat false <;> simp
    have e3 : nexts (a :: L) d q = if q = (srcA d a).toNat then dstA d a :: nexts L d q else nexts L d q := by
      unfold nexts
      rw [List.filter_cons]
      by_cases h : q = (srcA d a).toNat
      · have h3 : (srcA d a == (q : Int)) = true := by simp; omega
        rw [if_pos h, h3]
        rfl
      · have h3 : (srcA d a == (q : Int)) = false := by simp; omega
        rw [if_neg h, h3]
        rfl
    rw [e, e2, e3]
    by_cases h : q = (srcA d a).toNat
    · rw [← h]
      simp only [if_true, hM, Bool.false_eq_true, if_false, List.length_cons]
      omega
    · simp only [h, if_false]
      split
      · exact h1
      · simp only [List.length_cons]; omega
structure RInv (L : List PArc) (d : Bool) (S : Nat) (fm : List Int) (M : List Bool) (Qs : List Int) : Prop where
  len : M.length = S
  qs : ∀ q, q ∈ Qs → 0 ≤ q ∧ q < S ∧ Rch L d (· ∈ fm) q
  ms : ∀ q : Nat, M.getD q false = true → Rch L d (· ∈ fm) (q : Int)
  base : ∀ q : Nat, (q : Int) ∈ fm → M.getD q false = true ∨ (q : Int) ∈ Qs
  clo : ∀ a, a ∈ L → M.getD (srcA d a).toNat false = true → M.getD (dstA d a).toNat false = true ∨ dstA d a ∈ Qs
  cnt : Qs.length + (restA L d M).length ≤ fm.length + L.length
section
variable {L : List PArc} {d : Bool} {S : Nat} {fm : List Int} {M : List Bool} {Qs : List Int}
theorem RInv.start (hf : ∀ q, q ∈ fm → 0 ≤ q ∧ q < S) : RInv L d S fm (List.replicate S false) fm := by
  have hz : ∀ j, (List.replicate S false).getD j false = false := fun j => by
    simp only [List.getD_eq_getElem?_getD, List.getElem?_replicate]
    split <;> rfl
  refine ⟨by simp, fun q hq => ⟨(hf q hq).1, (hf q hq).2, .base q hq⟩, (fun q h => by rw [hz] at h; cases h), (fun q h => .inr h), (fun a _ h => by rw [hz] at h; cases h), ?_⟩
  exact Nat.add_le_add_left (List.length_filter_le _ _) _
theorem RInv.skip {q : Nat} (h : RInv L d S fm M (Qs ++ [(q : Int)])) (hm : M.getD q false = true) : RInv L d S fm M Qs := by
  refine ⟨h.len, fun y hy => h.qs y (by simp [hy]), h.ms, fun y hy => ?_, fun a ha hs => ?_, by have := h.cnt; simp at this; omega⟩
  · rcases h.base y hy with h1 | h1
    · exact .inl h1
    · rcases List.mem_append.1 h1 with h2 | h2
      · exact .inr h2
      · have : (y : Int) = q := by simpa using h2
        rw [show y = q by omega]; exact .inl hm
  · rcases h.clo a ha hs with h1 | h1
    · exact .inl h1
    · rcases List.mem_append.1 h1 with h2 | h2
      · exact .inr h2
      · have : dstA d a = (q : Int) := by simpa using h2
        rw [this]; exact .inl hm
theorem RInv.mark (hL : ∀ a, a ∈ L → 0 ≤ srcA d a ∧ 0 ≤ dstA d a ∧ dstA d a < S) {q : Nat} (h : RInv L d S fm M (Qs ++ [(q : Int)])) (hm : M.getD q false = false) : RInv L d S fm (M.set q true) (Qs ++ nexts L d q) := by
  obtain ⟨_, hq1, hq2⟩ := h.qs (q : Int) (by simp)
  have hqS : q < M.length := by rw [h.len]; omega
  have hset : ∀ j, (M.set q true).getD j false = if q = j then true else M.getD j false := fun j => by
    rw [getD_set]
    by_cases e : q = j
    · simp [e, e ▸ hqS]
    · simp [e]
  refine ⟨by rw [List.length_set]; exact h.len, fun y hy => ?_, fun y hy => ?_, fun y hy => ?_, fun a ha hs => ?_, ?_⟩
  · rcases List.mem_append.1 hy with h1 | h1
    · exact h.qs y (by simp [h1])
    · obtain ⟨a, ha, hs, rfl⟩ := mem_nexts.1 h1
      exact ⟨(hL a ha).2.1, (hL a ha).2.2, .step a ha (by rw [hs]; exact hq2)⟩
  · rw [hset] at hy
    by_cases e : q = y
    · rw [← e]; exact hq2
    · rw [if_neg e] at hy; exact h.ms y hy
  · rw [hset]
    by_cases e : q = y
    · simp [e]
    · rw [if_neg e]
      rcases h.base y hy with h1 | h1
      · exact .inl h1
      · rcases List.mem_append.1 h1 with h2 | h2
        · exact .inr (by simp [h2])
        · have : (y : Int) = q := by simpa using h2
          omega
  · rw [hset] at hs ⊢
    by_cases e2 : q = (dstA d a).toNat
    · simp [e2]
    · rw [if_neg e2]
      by_cases e : q = (srcA d a).toNat
      · refine .inr (List.mem_append.2 (.inr (mem_nexts.2 ⟨a, ha, ?_, rfl⟩)))
        have := (hL a ha).1
        omega
      · rw [if_neg e] at hs
        rcases h.clo a ha hs with h1 | h1
        · exact .inl h1
        · rcases List.mem_append.1 h1 with h2 | h2
          · exact .inr (by simp [h2])
          · have : dstA d a = (q : Int) := by simpa using h2
            omega
  · have h1 := restA_set L d M q (fun a ha => (hL a ha).1) hqS hm
    have := h.cnt
    simp only [List.length_append, List.length_cons, List.length_nil] at this ⊢
    omega
theorem RInv.done (hL : ∀ a, a ∈ L → 0 ≤ srcA d a ∧ 0 ≤ dstA d a ∧ dstA d a < S) (hf : ∀ q, q ∈ fm → 0 ≤ q) (h : RInv L d S fm M []) (q : Nat) : M.getD q false = true ↔ Rch L d (· ∈ fm) (q : Int) := by
  refine ⟨h.ms q, fun hr => ?_⟩
  have : ∀ y, Rch L d (· ∈ fm) y → 0 ≤ y ∧ M.getD y.toNat false = true := fun y hy => by
    induction hy with
    | base y hy =>
      have h0 := hf y hy
      rcases h.base y.toNat (by rw [Int.toNat_of_nonneg h0]; exact hy) with h1 | h1
      · exact ⟨h0, h1⟩
      · cases h1
    | step a ha _ ih =>
      refine ⟨(hL a ha).2.1, ?_⟩
      rcases h.clo a ha ih.2 with h1 | h1
      · exact h1
      · cases h1
  have := (this _ hr).2
  simpa using this
end
/-- the marks of the reference -/
structure SInv (L : List PArc) (d : Bool) (S : Nat) (S0 : Int → Prop) (M : List Bool) : Prop where
  len : M.length = S
  ms : ∀ q : Nat, M.getD q false = true → Rch L d S0 (q : Int)
  base : ∀ q : Nat, S0 (q : Int) → M.getD q false = true
def SClo (d : Bool) (M : List Bool) (a : PArc) : Prop := M.getD (srcA d a).toNat false = true → M.getD (dstA d a).toNat false = true
def PassR (L : List PArc) (d : Bool) (S : Nat) (S0 : Int → Prop) (M0 : List Bool) (D : PArc → Prop) (M : List Bool) (more : Bool) : Prop :=
  SInv L d S S0 M ∧ cf M ≤ cf M0 ∧ (more = true → cf M < cf M0) ∧ (more = false → M = M0 ∧ ∀ a, D a → SClo d M0 a)
section
variable {L : List PArc} {d : Bool} {S : Nat} {S0 : Int → Prop} {M M0 : List Bool} {D D' : PArc → Prop} {more : Bool}
theorem PassR.start (h : SInv L d S S0 M) : PassR L d S S0 M (fun _ => False) M false :=
  ⟨h, Nat.le_refl _, (fun h => by cases h), fun _ => ⟨rfl, fun _ h => h.elim⟩⟩
theorem PassR.weaken (h : PassR L d S S0 M0 D M more) (hD : ∀ a, D' a → D a) : PassR L d S S0 M0 D' M more :=
  ⟨h.1, h.2.1, h.2.2.1, fun hb => ⟨(h.2.2.2 hb).1, fun a hd => (h.2.2.2 hb).2 a (hD a hd)⟩⟩
theorem PassR.keep (h : PassR L d S S0 M0 D M more) {a : PArc} (hr : SClo d M a) (hD : ∀ a', D' a' → D a' ∨ a' = a) : PassR L d S S0 M0 D' M more := by
  refine ⟨h.1, h.2.1, h.2.2.1, fun hb => ?_⟩
  obtain ⟨e, hd⟩ := h.2.2.2 hb
  refine ⟨e, fun a' hd' => ?_⟩
  rcases hD a' hd' with h | rfl
  · exact hd a' h
  · rw [← e]; exact hr
theorem PassR.step (hL : ∀ a, a ∈ L → 0 ≤ srcA d a ∧ 0 ≤ dstA d a ∧ dstA d a < S) (h : PassR L d S S0 M0 D M more) {a : PArc} (ha : a ∈ L) (hs : M.getD (srcA d a).toNat false = true) (hn : M.getD (dstA d a).toNat false = false) :
    PassR L d S S0 M0 D' (M.set (dstA d a).toNat true) true := by
  obtain ⟨h0, h1, h2⟩ := hL a ha
  have hlt : (dstA d a).toNat < M.length := by rw [h.1.len]; omega
  have hset : ∀ j, (M.set (dstA d a).toNat true).getD j false = if (dstA d a).toNat = j then true else M.getD j false := fun j => by
    rw [getD_set]
    by_cases e : (dstA d a).toNat = j
    · simp [e, e ▸ hlt]
    · simp [e]
  have hcf := (cf_set M (dstA d a).toNat).2 hlt hn
  have := h.2.1
  refine ⟨⟨by rw [List.length_set]; exact h.1.len, fun q hq => ?_, fun q hq => ?_⟩, by omega, fun _ => by omega, fun hb => by cases hb⟩
  · rw [hset] at hq
    by_cases e : (dstA d a).toNat = q
    · have e2 : (q : Int) = dstA d a := by omega
      rw [e2]
      refine .step a ha ?_
      have h3 := h.1.ms _ hs
      rw [Int.toNat_of_nonneg h0] at h3
      exact h3
    · rw [if_neg e] at hq; exact h.1.ms q hq
  · rw [hset]
    split
    · rfl
    · exact h.1.base q hq
theorem SInv.done (hL : ∀ a, a ∈ L → 0 ≤ srcA d a ∧ 0 ≤ dstA d a ∧ dstA d a < S) (h0 : ∀ q, S0 q → 0 ≤ q) (h : SInv L d S S0 M) (hc : ∀ a, a ∈ L → SClo d M a) (q : Nat) : M.getD q false = true ↔ Rch L d S0 (q : Int) := by
  refine ⟨h.ms q, fun hr => ?_⟩
  have : ∀ y, Rch L d S0 y → 0 ≤ y ∧ M.getD y.toNat false = true := fun y hy => by
    induction hy with
    | base y hy =>
      have h1 := h0 y hy
      refine ⟨h1, h.base y.toNat ?_⟩
      rw [Int.toNat_of_nonneg h1]; exact hy
    | step a ha _ ih => exact ⟨(hL a ha).2.1, hc a ha ih.2⟩
  have := (this _ hr).2
  simpa using this
end
end Go.Proofs.Ytmejihlplbeekaa
