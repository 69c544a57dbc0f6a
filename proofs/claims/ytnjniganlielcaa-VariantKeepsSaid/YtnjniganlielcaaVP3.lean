/-
  Plain laws of variants: Main, Join, Part, Senses.
-/
import Derived.Test.YtnjniganlielcaaVP2
namespace Go.Proofs.Ytnjniganlielcaa
open Go.ChangeShapes Go.WideShapes Go.ChangeAt Go.RowKit
theorem mainK_none {K : List EK} (hG : GoodK K) {id : Int} (h : getK K id = none) : mainK K id = 0 := by
  rw [mainK, wK_eq hG, h]
  rfl
theorem mainK_zero {K : List EK} (hG : GoodK K) {id : Int} {e : EK} (h : getK K id = some e) (hz : e.main = 0) : mainK K id = id := by
  rw [mainK, wK_eq hG, h]
  simp [hz, getK_id h]
theorem mainK_step {K : List EK} (hG : GoodK K) {id : Int} {e : EK} (h : getK K id = some e) (hz : e.main ≠ 0) : mainK K id = mainK K e.main := by
  have hne := hG.has e (getK_mem h) hz
  rcases hg : getK K e.main with _ | f
  · exact absurd hg hne
  · have hw : wK K e.main = f :: if f.main = 0 then [] else wK K f.main := by rw [wK_eq hG, hg]
    rw [mainK, mainK, wK_eq hG id, h]
    simp only [if_neg hz]
    rw [hw, List.getLast?_cons_cons]
theorem main_top {K : List EK} (hG : GoodK K) (id : Int) : getK K id ≠ none → ∃ em, getK K (mainK K id) = some em ∧ em.main = 0 := by
  refine way_ind hG (C := fun id => getK K id ≠ none → ∃ em, getK K (mainK K id) = some em ∧ em.main = 0) ?_ ?_ ?_ id
  · intro id h h2; exact absurd h h2
  · intro id e h hz _
    rw [mainK_zero hG h hz]
    exact ⟨e, h, hz⟩
  · intro id e h hz ih _
    rw [mainK_step hG h hz]
    exact ih (hG.has e (getK_mem h) hz)
theorem once1 {K : List EK} (hG : GoodK K) {e : EK} (he : e ∈ K) : mainK K (mainK K e.id) = mainK K e.id := by
  obtain ⟨em, h1, h2⟩ := main_top hG e.id (by rw [getK_up hG.up he]; simp)
  exact mainK_zero hG h1 h2
theorem once2 {K : List EK} (hG : GoodK K) {e : EK} (he : e ∈ K) : mainK K e.id = e.id ↔ e.main = 0 := by
  have hg := getK_up hG.up he
  constructor
  · intro h
    obtain ⟨em, h1, h2⟩ := main_top hG e.id (by rw [hg]; simp)
    rw [h, hg] at h1
    cases h1
    exact h2
  · intro h
    exact mainK_zero hG hg h
theorem once3 {K : List EK} {e : EK} (_ : UpK K) (he : e ∈ K) (kid : Int) : hasB (allK K kid) e.id = (mainK K e.id == kid && mainK K e.id != e.id) := by
  rw [Bool.eq_iff_iff, hasB_iff, allK]
  simp only [List.mem_map, List.mem_filter, Bool.and_eq_true, bne_iff_ne, beq_iff_eq]
  constructor
  · rintro ⟨f, ⟨hf, h1, h2⟩, h3⟩
    rw [h3] at h1 h2
    exact ⟨h2, by rw [h2]; exact fun h => h1 h.symm⟩
  · rintro ⟨h1, h2⟩
    exact ⟨e, ⟨he, by rw [← h1]; exact fun h => h2 h.symm, h1⟩, rfl⟩
/-! another Main -/
def setK (K : List EK) (id m : Int) : List EK := K.map fun e => if e.id = id then { e with main := m } else e
theorem pk_set (P : List PE) (id m : Int) : pk (setP P id m) = setK (pk P) id m := by
  rw [pk, setP, setK, pk, List.map_map, List.map_map]
  refine List.map_congr_left fun e _ => ?_
  simp only [Function.comp]
  by_cases h : e.id = id
  · rw [if_pos h, if_pos (by exact h)]; rfl
  · rw [if_neg h, if_neg (by exact h)]
theorem setK_ids (K : List EK) (id m : Int) : (setK K id m).map EK.id = K.map EK.id := by
  rw [setK, List.map_map]
  refine List.map_congr_left fun e _ => ?_
  simp only [Function.comp]
  split <;> rfl
theorem getK_set (K : List EK) (id m x : Int) : getK (setK K id m) x = (getK K x).map fun e => if e.id = id then { e with main := m } else e := by
  rw [getK, setK, List.find?_map, getK]
  congr 1
  congr 1
  funext e
  simp only [Function.comp]
  split <;> rfl
theorem getK_set_other {K : List EK} {id m x : Int} (h : x ≠ id) : getK (setK K id m) x = getK K x := by
  rw [getK_set]
  rcases hg : getK K x with _ | e
  · rfl
  · rw [Option.map_some, if_neg (by rw [getK_id hg]; exact h)]
theorem getK_set_same {K : List EK} {id m : Int} {e : EK} (h : getK K id = some e) : getK (setK K id m) id = some { e with main := m } := by
  rw [getK_set, h, Option.map_some, if_pos (getK_id h)]
theorem up_set {K : List EK} (h : UpK K) (id m : Int) : UpK (setK K id m) := by rw [UpK, setK_ids]; exact h
theorem pos_set {K : List EK} (h : ∀ e ∈ K, 0 < e.id) (id m : Int) : ∀ e ∈ setK K id m, 0 < e.id := by
  intro e he
  have : e.id ∈ (setK K id m).map EK.id := List.mem_map_of_mem he
  rw [setK_ids] at this
  obtain ⟨f, hf, hfe⟩ := List.mem_map.1 this
  rw [← hfe]
  exact h f hf
theorem way_avoid {K : List EK} {id m : Int} : ∀ (k : Nat) (x : Int), (∀ e ∈ wayK K k x, e.id ≠ id) → wayK (setK K id m) k x = wayK K k x
  | 0, _, _ => rfl
  | k + 1, x, h => by
    rw [wayK] at h ⊢
    rcases hg : getK K x with _ | e
    · rw [getK_set, hg, wayK, hg]; rfl
    · rw [hg] at h
      simp only [List.mem_cons, forall_eq_or_imp] at h
      have hx : x ≠ id := by rw [← getK_id hg]; exact h.1
      rw [getK_set_other hx, wayK, hg]
      show (e :: if e.main = 0 then [] else wayK (setK K id m) k e.main) = e :: if e.main = 0 then [] else wayK K k e.main
      congr 1
      by_cases hz : e.main = 0
      · rw [if_pos hz, if_pos hz]
      · rw [if_neg hz, if_neg hz]
        rw [if_neg hz] at h
        exact way_avoid k e.main h.2
theorem joinK_zero {K : List EK} {id tt : Int} (h : joinK K id tt = 0) : (∃ e, getK K id = some e) ∧ (∃ f, getK K tt = some f) ∧ ∀ e ∈ wK K tt, e.id ≠ id := by
  rw [joinK] at h
  by_cases h1 : getK K id = none ∨ getK K tt = none
  · rw [if_pos h1] at h; cases h
  rw [if_neg h1] at h
  by_cases h2 : (wK K tt).any (fun e => e.id == id) = true
  · rw [if_pos h2] at h; cases h
  refine ⟨?_, ?_, ?_⟩
  · rcases hg : getK K id with _ | e
    · exact absurd (.inl hg) h1
    · exact ⟨e, rfl⟩
  · rcases hg : getK K tt with _ | e
    · exact absurd (.inr hg) h1
    · exact ⟨e, rfl⟩
  · intro e he hid
    exact h2 (List.any_eq_true.2 ⟨e, he, by simpa using hid⟩)
theorem good_join {K : List EK} (hG : GoodK K) {id tt : Int} (h : joinK K id tt = 0) : GoodK (setK K id tt) ∧ mainK (setK K id tt) id = mainK K tt ∧ mainK (setK K id tt) id ≠ id := by
  obtain ⟨⟨e0, h0⟩, ⟨f0, h1⟩, h2⟩ := joinK_zero h
  have htt : tt ≠ 0 := by have := hG.pos f0 (getK_mem h1); rw [getK_id h1] at this; omega
  have hw : ∀ k, K.length < k → wayK (setK K id tt) k tt = wK K tt := fun k hk => by
    have := (ends_len (hG.ends tt)).2 k hk
    rw [way_avoid k tt (by rw [this]; exact h2), this]
  have hlen := (ends_len (hG.ends tt)).1
  have hends_tt : Ends (setK K id tt) tt := ⟨K.length + 1, by rw [hw _ (by omega)]; omega⟩
  have hends : ∀ x, Ends (setK K id tt) x := by
    refine way_ind hG (C := fun x => Ends (setK K id tt) x) ?_ ?_ ?_
    · intro x hx
      by_cases hxi : x = id
      · subst hxi; rw [h0] at hx; cases hx
      · exact ends_none (by rw [getK_set_other hxi]; exact hx)
    · intro x e hx hz
      by_cases hxi : x = id
      · subst hxi
        exact ends_step (getK_set_same hx) hends_tt
      · exact ends_zero (by rw [getK_set_other hxi]; exact hx) hz
    · intro x e hx hz ih
      by_cases hxi : x = id
      · subst hxi
        exact ends_step (getK_set_same hx) hends_tt
      · exact ends_step (by rw [getK_set_other hxi]; exact hx) ih
  have hgood : GoodK (setK K id tt) := by
    refine ⟨up_set hG.up _ _, pos_set hG.pos _ _, fun e he hz => ?_, hends⟩
    obtain ⟨f, hf, rfl⟩ := List.mem_map.1 he
    by_cases hfi : f.id = id
    · rw [if_pos hfi] at hz ⊢
      simp only
      rw [getK_set, h1]
      simp
    · rw [if_neg hfi] at hz ⊢
      have := hG.has f hf hz
      rw [getK_set]
      simpa using this
  have hm : mainK (setK K id tt) id = mainK K tt := by
    rw [mainK_step hgood (getK_set_same h0) htt]
    show mainK (setK K id tt) tt = mainK K tt
    rw [mainK, mainK, ← (ends_len (hends tt)).2 (K.length + 1) (by simp [setK]), hw _ (by omega)]
  refine ⟨hgood, hm, ?_⟩
  rw [hm, mainK]
  have hne : wK K tt ≠ [] := by rw [wK_eq hG, h1]; simp
  rw [List.getLast?_eq_some_getLast hne]
  exact h2 _ (List.getLast_mem hne)
theorem good_part {K : List EK} (hG : GoodK K) {id : Int} (h : partK K id = 0) : GoodK (setK K id 0) ∧ mainK (setK K id 0) id = id := by
  have ⟨e0, h0⟩ : ∃ e, getK K id = some e := by
    rcases hg : getK K id with _ | e
    · rw [partK, hg] at h; cases h
    · exact ⟨e, rfl⟩
  have hends : ∀ x, Ends (setK K id 0) x := by
    refine way_ind hG (C := fun x => Ends (setK K id 0) x) ?_ ?_ ?_
    · intro x hx
      by_cases hxi : x = id
      · subst hxi; rw [h0] at hx; cases hx
      · exact ends_none (by rw [getK_set_other hxi]; exact hx)
    · intro x e hx hz
      by_cases hxi : x = id
      · subst hxi
        exact ends_zero (getK_set_same hx) rfl
      · exact ends_zero (by rw [getK_set_other hxi]; exact hx) hz
    · intro x e hx hz ih
      by_cases hxi : x = id
      · subst hxi
        exact ends_zero (getK_set_same hx) rfl
      · exact ends_step (by rw [getK_set_other hxi]; exact hx) ih
  have hgood : GoodK (setK K id 0) := by
    refine ⟨up_set hG.up _ _, pos_set hG.pos _ _, fun e he hz => ?_, hends⟩
    obtain ⟨f, hf, rfl⟩ := List.mem_map.1 he
    by_cases hfi : f.id = id
    · rw [if_pos hfi] at hz; exact absurd rfl hz
    · rw [if_neg hfi] at hz ⊢
      have := hG.has f hf hz
      rw [getK_set]
      simpa using this
  exact ⟨hgood, mainK_zero hgood (getK_set_same h0) rfl⟩
/-! senses -/
theorem getP_pk (P : List PE) (id : Int) : getK (pk P) id = (getP P id).map PE.key := by
  rw [getK, pk, List.find?_map, getP]
  rfl
theorem wayP_pk (P : List PE) : ∀ (k : Nat) (id : Int), (wayP P k id).map PE.key = wayK (pk P) k id
  | 0, _ => rfl
  | k + 1, id => by
    rw [wayP, wayK, getP_pk]
    cases getP P id with
    | none => rfl
    | some e =>
      simp only [Option.map_some, List.map_cons]
      congr 1
      show List.map PE.key (if e.main = 0 then [] else wayP P k e.main) = if e.main = 0 then [] else wayK (pk P) k e.main
      split
      · rfl
      · exact wayP_pk P k e.main
theorem wayP_more (P : List PE) : ∀ (k : Nat) (id : Int), (wayP P k id).length < k → wayP P (k + 1) id = wayP P k id
  | 0, _, h => by omega
  | k + 1, id, h => by
    rw [wayP, wayP]
    rw [wayP] at h
    cases hg : getP P id with
    | none => rfl
    | some e =>
      rw [hg] at h
      simp only [List.length_cons] at h
      show (e :: if e.main = 0 then [] else wayP P (k + 1) e.main) = e :: if e.main = 0 then [] else wayP P k e.main
      congr 1
      by_cases hz : e.main = 0
      · rw [if_pos hz, if_pos hz]
      · rw [if_neg hz, if_neg hz]
        rw [if_neg hz] at h
        exact wayP_more P k e.main (by omega)
theorem sensesP_eq {P : List PE} (hG : GoodK (pk P)) {id : Int} {p : PE} (h : getP P id = some p) : sensesP P id = if p.senses = [] ∧ p.main ≠ 0 then sensesP P p.main else p.senses := by
  have hl : (wayP P (P.length + 1) id).length < P.length + 1 := by
    have := congrArg List.length (wayP_pk P (P.length + 1) id)
    rw [List.length_map] at this
    have h2 := (ends_len (hG.ends id)).1
    rw [wK, show (pk P).length = P.length by simp [pk]] at h2
    omega
  have hw : wayP P (P.length + 1) id = p :: if p.main = 0 then [] else wayP P (P.length + 1) p.main := by
    rw [← wayP_more P _ id hl, wayP, h]
  rw [sensesP, hw]
  by_cases hs : p.senses = []
  · rw [List.find?_cons_of_neg (by simp [hs])]
    by_cases hz : p.main = 0
    · rw [if_pos hz, if_neg (by simp [hz]), hs]
      rfl
    · rw [if_neg hz, if_pos ⟨hs, hz⟩, sensesP]
  · rw [List.find?_cons_of_pos (by simpa using List.length_pos_iff.2 hs), if_neg (by simp [hs])]
theorem getP_up {P : List PE} (hup : UpK (pk P)) {p : PE} (h : p ∈ P) : getP P p.id = some p := by
  have hp : (P.map PE.id).Pairwise (· < ·) := by
    have := hup
    rw [UpK, pk, List.map_map] at this
    exact this
  rcases hg : getP P p.id with _ | q
  · rw [getP, List.find?_eq_none] at hg
    exact absurd (hg p h) (by simp)
  · have h1 : q.id = p.id := by have := List.find?_some hg; simpa using this
    have h2 : q ∈ P := List.mem_of_find?_eq_some hg
    obtain ⟨i, hi, rfl⟩ := List.mem_iff_getElem.1 h
    obtain ⟨j, hj, rfl⟩ := List.mem_iff_getElem.1 h2
    rcases Nat.lt_trichotomy i j with hlt | rfl | hlt
    · have := List.pairwise_iff_getElem.1 hp i j (by simpa using hi) (by simpa using hj) hlt
      simp only [List.getElem_map] at this
      omega
    · rfl
    · have := List.pairwise_iff_getElem.1 hp j i (by simpa using hj) (by simpa using hi) hlt
      simp only [List.getElem_map] at this
      omega
theorem getP_id {P : List PE} {id : Int} {p : PE} (h : getP P id = some p) : p.id = id := by have := List.find?_some h; simpa using this
theorem getP_mem {P : List PE} {id : Int} {p : PE} (h : getP P id = some p) : p ∈ P := List.mem_of_find?_eq_some h
/-- Part after Join -/
theorem back {P : List PE} (hG : GoodK (pk P)) {id tt : Int} (hm : mainK (pk P) id = id) (hs : sensesP P id ≠ []) (hj : joinK (pk P) id tt = 0) :
    partK (pk (setP P id tt)) id = 0 ∧ setP (setP P id tt) id 0 = P := by
  obtain ⟨⟨e0, h0⟩, ⟨f0, h1⟩, h2⟩ := joinK_zero hj
  have htt : tt ≠ 0 := by have := hG.pos f0 (getK_mem h1); rw [getK_id h1] at this; omega
  have hp0 := h0
  rw [getP_pk] at hp0
  obtain ⟨p, hp, hpe⟩ := Option.map_eq_some_iff.1 hp0
  have hmain : e0.main = 0 := by
    have := (once2 hG (getK_mem h0)).1 (by rw [getK_id h0]; exact hm)
    exact this
  have hpm : p.main = 0 := by rw [← hpe] at hmain; exact hmain
  have hps : p.senses ≠ [] := by
    rw [sensesP_eq hG hp, if_neg (by simp [hpm])] at hs
    exact hs
  refine ⟨?_, ?_⟩
  · rw [pk_set, partK, getK_set_same h0]
    simp only
    rw [if_neg htt, if_neg]
    rw [← hpe]
    exact fun h => hps (List.length_eq_zero_iff.1 h)
  · rw [setP, setP, List.map_map]
    refine (List.map_congr_left fun q hq => ?_).trans (List.map_id P)
    simp only [Function.comp, id_eq]
    by_cases hqi : q.id = id
    · rw [if_pos hqi, if_pos (by exact hqi)]
      have hqp : q = p := by
        have := getP_up hG.up hq
        rw [hqi, hp] at this
        exact (Option.some.inj this).symm
      subst hqp
      obtain ⟨a1, a2, a3, a4, a5, a6, a7, a8⟩ := q
      simp only at hpm
      subst hpm
      rfl
    · rw [if_neg hqi, if_neg hqi]
theorem joinK_err (K : List EK) (id tt : Int) : joinK K id tt = 0 ∨ joinK K id tt = 9 ∨ joinK K id tt = 17 := by
  rw [joinK]
  split
  · exact .inr (.inl rfl)
  · split
    · exact .inr (.inr rfl)
    · exact .inl rfl
end Go.Proofs.Ytnjniganlielcaa
