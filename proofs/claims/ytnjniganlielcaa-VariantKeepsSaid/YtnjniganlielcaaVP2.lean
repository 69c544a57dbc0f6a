/-
  Plain words on ways: lists of entries whose ways all end.
-/
import Derived.Test.YtnjniganlielcaaV29
namespace Go.Proofs.Ytnjniganlielcaa
open Go.ChangeShapes Go.WideShapes Go.ChangeAt Go.RowKit
theorem getK_id {K : List EK} {id : Int} {e : EK} (h : getK K id = some e) : e.id = id := by have := List.find?_some h; simpa using this
theorem getK_mem {K : List EK} {id : Int} {e : EK} (h : getK K id = some e) : e ∈ K := List.mem_of_find?_eq_some h
theorem getK_some {K : List EK} {e : EK} (h : e ∈ K) : ∃ f, getK K e.id = some f := by
  rcases hg : getK K e.id with _ | f
  · rw [getK, List.find?_eq_none] at hg
    exact absurd (hg e h) (by simp)
  · exact ⟨f, rfl⟩
theorem getK_up {K : List EK} (hup : UpK K) {e : EK} (h : e ∈ K) : getK K e.id = some e := by
  obtain ⟨f, hf⟩ := getK_some h
  rw [hf]
  have h1 := getK_id hf
  have h2 := getK_mem hf
  obtain ⟨i, hi, rfl⟩ := List.mem_iff_getElem.1 h
  obtain ⟨j, hj, rfl⟩ := List.mem_iff_getElem.1 h2
  rcases Nat.lt_trichotomy i j with hlt | rfl | hlt
  · have := List.pairwise_iff_getElem.1 hup i j (by simpa using hi) (by simpa using hj) hlt
    simp only [List.getElem_map] at this
    omega
  · rfl
  · have := List.pairwise_iff_getElem.1 hup j i (by simpa using hj) (by simpa using hi) hlt
    simp only [List.getElem_map] at this
    omega
theorem wayK_len (K : List EK) : ∀ (k : Nat) (id : Int), (wayK K k id).length ≤ k
  | 0, _ => by simp [wayK]
  | k + 1, id => by
    rw [wayK]
    cases getK K id with
    | none => simp
    | some e =>
      simp only [List.length_cons]
      split
      · simp
      · have := wayK_len K k e.main; omega
theorem way_more (K : List EK) : ∀ (k : Nat) (id : Int), (wayK K k id).length < k → wayK K (k + 1) id = wayK K k id
  | 0, _, h => by omega
  | k + 1, id, h => by
    rw [wayK, wayK]
    rw [wayK] at h
    cases hg : getK K id with
    | none => rfl
    | some e =>
      rw [hg] at h
      simp only [List.length_cons] at h
      show (e :: if e.main = 0 then [] else wayK K (k + 1) e.main) = e :: if e.main = 0 then [] else wayK K k e.main
      congr 1
      by_cases hz : e.main = 0
      · rw [if_pos hz, if_pos hz]
      · rw [if_neg hz, if_neg hz]
        rw [if_neg hz] at h
        exact way_more K k e.main (by omega)
theorem way_stable (K : List EK) (k : Nat) (id : Int) (h : (wayK K k id).length < k) (j : Nat) (hj : k ≤ j) : wayK K j id = wayK K k id := by
  induction j with
  | zero => obtain rfl : k = 0 := by omega
            rfl
  | succ j ih =>
    rcases Nat.lt_or_ge j k with h1 | h1
    · obtain rfl : k = j + 1 := by omega
      rfl
    · have := ih h1
      rw [way_more K j id (by rw [this]; omega), this]
/-- the way of an Id ends -/
def Ends (K : List EK) (id : Int) : Prop := ∃ k, (wayK K k id).length < k
theorem ends_none {K : List EK} {id : Int} (h : getK K id = none) : Ends K id := ⟨1, by rw [wayK, h]; simp⟩
theorem ends_zero {K : List EK} {id : Int} {e : EK} (h : getK K id = some e) (hz : e.main = 0) : Ends K id := ⟨2, by rw [wayK, h]; simp [hz]⟩
theorem ends_step {K : List EK} {id : Int} {e : EK} (h : getK K id = some e) (hm : Ends K e.main) : Ends K id := by
  obtain ⟨k, hk⟩ := hm
  refine ⟨k + 1, ?_⟩
  rw [wayK, h]
  simp only [List.length_cons]
  split
  · simp; omega
  · omega
theorem ends_down {K : List EK} {id : Int} {e : EK} (h : getK K id = some e) (hz : e.main ≠ 0) (hi : Ends K id) : Ends K e.main := by
  obtain ⟨k, hk⟩ := hi
  cases k with
  | zero => omega
  | succ k =>
    rw [wayK, h] at hk
    simp only [List.length_cons] at hk
    rw [if_neg hz] at hk
    exact ⟨k, by omega⟩
theorem way_drop (K : List EK) : ∀ (k : Nat) (id : Int) (i : Nat) (y : EK), (wayK K k id)[i]? = some y → (wayK K k id).drop i = wayK K (k - i) y.id
  | 0, _, i, _, h => by simp [wayK] at h
  | k + 1, id, i, y, h => by
    rw [wayK] at h ⊢
    cases hg : getK K id with
    | none => rw [hg] at h; simp at h
    | some e =>
      rw [hg] at h
      simp only at h ⊢
      cases i with
      | zero =>
        simp at h
        subst h
        rw [List.drop_zero, Nat.sub_zero, wayK, getK_id hg, hg]
      | succ i =>
        rw [List.getElem?_cons_succ] at h
        rw [List.drop_succ_cons, Nat.add_sub_add_right]
        by_cases hz : e.main = 0
        · rw [if_pos hz] at h; simp at h
        · rw [if_neg hz] at h ⊢
          exact way_drop K k e.main i y h
theorem nodup_sub : ∀ (l m : List Int), l.Nodup → (∀ x ∈ l, x ∈ m) → l.length ≤ m.length
  | [], _, _, _ => by simp
  | a :: l, m, hn, hs => by
    obtain ⟨h1, h2⟩ := List.nodup_cons.1 hn
    have ha := hs a (by simp)
    have := nodup_sub l (m.erase a) h2 (fun x hx => (List.mem_erase_of_ne (by rintro rfl; exact h1 hx)).2 (hs x (by simp [hx])))
    rw [List.length_erase_of_mem ha] at this
    have := List.length_pos_of_mem ha
    simp only [List.length_cons]
    omega
theorem way_sub (K : List EK) : ∀ (k : Nat) (id : Int) (x : EK), x ∈ wayK K k id → x ∈ K ∧ getK K x.id = some x
  | 0, _, _, h => by simp [wayK] at h
  | k + 1, id, x, h => by
    rw [wayK] at h
    cases hg : getK K id with
    | none => rw [hg] at h; simp at h
    | some e =>
      rw [hg] at h
      simp only [List.mem_cons] at h
      rcases h with rfl | h
      · exact ⟨getK_mem hg, by rw [getK_id hg]; exact hg⟩
      · by_cases hz : e.main = 0
        · rw [if_pos hz] at h; simp at h
        · rw [if_neg hz] at h
          exact way_sub K k e.main x h
theorem way_nodup (K : List EK) : ∀ (k : Nat) (id : Int), (wayK K k id).length < k → ((wayK K k id).map EK.id).Nodup
  | 0, _, h => by omega
  | k + 1, id, h => by
    have hall := h
    rw [wayK] at h ⊢
    cases hg : getK K id with
    | none => simp
    | some e =>
      rw [hg] at h
      simp only [List.length_cons] at h
      by_cases hz : e.main = 0
      · simp [hz]
      · rw [if_neg hz] at h
        have hw : wayK K (k + 1) id = e :: wayK K k e.main := by rw [wayK, hg]; simp [hz]
        simp only [if_neg hz, List.map_cons]
        rw [List.nodup_cons]
        refine ⟨fun hm => ?_, way_nodup K k e.main (by omega)⟩
        obtain ⟨y, hy, hye⟩ := List.mem_map.1 hm
        obtain ⟨i, hi⟩ := List.mem_iff_getElem?.1 hy
        have hd := way_drop K k e.main i y hi
        have hil := (List.getElem?_eq_some_iff.1 hi).1
        have hlen : (wayK K (k - i) y.id).length < k - i := by rw [← hd, List.length_drop]; omega
        have hst := way_stable K (k - i) y.id hlen (k + 1) (by omega)
        rw [hye, getK_id hg] at hst
        have h1 := congrArg List.length hst
        rw [hw, List.length_cons, ← getK_id hg, ← hye, ← hd, List.length_drop] at h1
        omega
theorem ends_len {K : List EK} {id : Int} (h : Ends K id) : (wK K id).length ≤ K.length ∧ ∀ k, K.length < k → wayK K k id = wK K id := by
  obtain ⟨k, hk⟩ := h
  have hl : (wayK K k id).length ≤ K.length := by
    have := nodup_sub _ (K.map EK.id) (way_nodup K k id hk) (fun x hx => by
      obtain ⟨y, hy, rfl⟩ := List.mem_map.1 hx
      exact List.mem_map_of_mem (way_sub K k id y hy).1)
    simpa using this
  have key : ∀ j, K.length < j → wayK K j id = wayK K k id := fun j hj => by
    rcases Nat.le_total k j with h1 | h1
    · exact way_stable K k id hk j h1
    · by_cases hjj : (wayK K j id).length < j
      · exact (way_stable K j id hjj k h1).symm
      · have h2 := wayK_len K j id
        exfalso
        -- the longer way begins with the shorter one
        have hpre : ∀ (a b : Nat) (x : Int), a ≤ b → (wayK K a x).length ≤ (wayK K b x).length := by
          intro a
          induction a with
          | zero => intro b x _; simp [wayK]
          | succ a ih =>
            intro b x hab
            cases b with
            | zero => omega
            | succ b =>
              rw [wayK, wayK]
              cases getK K x with
              | none => simp
              | some e =>
                simp only [List.length_cons]
                split
                · omega
                · have := ih b e.main (by omega); omega
        have := hpre j k id h1
        omega
  exact ⟨by rw [wK, key _ (by omega)]; exact hl, fun j hj => by rw [key j hj, wK, key (K.length + 1) (by omega)]⟩
/-- every way ends, and every Main names an entry -/
structure GoodK (K : List EK) : Prop where
  up : UpK K
  pos : ∀ e ∈ K, 0 < e.id
  has : ∀ e ∈ K, e.main ≠ 0 → getK K e.main ≠ none
  ends : ∀ id, Ends K id
theorem chk1_iff (K : List EK) : ∀ l, chk1 K l = 0 ↔ ∀ e ∈ l, e.main ≠ 0 → getK K e.main ≠ none
  | [] => by simp [chk1]
  | e :: l => by
    rw [chk1]
    by_cases h : e.main ≠ 0 ∧ getK K e.main = none
    · rw [if_pos h]
      simp only [List.mem_cons, forall_eq_or_imp]
      constructor
      · intro h0; cases h0
      · rintro ⟨h1, _⟩; exact absurd h.2 (h1 h.1)
    · rw [if_neg h, chk1_iff K l]
      simp only [List.mem_cons, forall_eq_or_imp]
      constructor
      · intro h1; exact ⟨fun h2 h3 => h ⟨h2, h3⟩, h1⟩
      · rintro ⟨_, h1⟩; exact h1
theorem chk2_iff (K : List EK) : ∀ l, chk2 K l = 0 ↔ ∀ e ∈ l, (wK K e.id).length ≤ K.length
  | [] => by simp [chk2]
  | e :: l => by
    rw [chk2]
    by_cases h : K.length < (wK K e.id).length
    · rw [if_pos h]
      simp only [List.mem_cons, forall_eq_or_imp]
      constructor
      · intro h0; cases h0
      · rintro ⟨h1, _⟩; omega
    · rw [if_neg h, chk2_iff K l]
      simp only [List.mem_cons, forall_eq_or_imp]
      constructor
      · intro h1; exact ⟨by omega, h1⟩
      · rintro ⟨_, h1⟩; exact h1
theorem goodK_chk {K : List EK} (hup : UpK K) (hpos : ∀ e ∈ K, 0 < e.id) : chkK K = 0 ↔ GoodK K := by
  constructor
  · intro h
    rw [chkK] at h
    by_cases h1 : chk1 K K = 0
    · rw [if_neg (by simpa using h1)] at h
      refine ⟨hup, hpos, (chk1_iff K K).1 h1, fun id => ?_⟩
      rcases hg : getK K id with _ | e
      · exact ends_none hg
      · have := (chk2_iff K K).1 h e (getK_mem hg)
        rw [getK_id hg, wK] at this
        exact ⟨K.length + 1, by omega⟩
    · rw [if_pos h1] at h
      cases h
  · intro h
    have h1 := (chk1_iff K K).2 h.has
    have h2 := (chk2_iff K K).2 fun e _ => (ends_len (h.ends e.id)).1
    rw [chkK, if_neg (by simpa using h1), h2]
theorem wK_eq {K : List EK} (hG : GoodK K) (id : Int) : wK K id = match getK K id with
    | none => []
    | some e => e :: if e.main = 0 then [] else wK K e.main := by
  have := (ends_len (hG.ends id)).2 (K.length + 1 + 1) (by omega)
  rw [← this, wayK]
  rfl
/-- induction along the ways -/
theorem way_ind {K : List EK} (hG : GoodK K) {C : Int → Prop} (hnone : ∀ id, getK K id = none → C id) (hzero : ∀ id e, getK K id = some e → e.main = 0 → C id)
    (hstep : ∀ id e, getK K id = some e → e.main ≠ 0 → C e.main → C id) (id : Int) : C id := by
  suffices h : ∀ (n : Nat) (id : Int), (wK K id).length ≤ n → C id from h _ id (Nat.le_refl _)
  intro n
  induction n with
  | zero =>
    intro id h
    rw [wK_eq hG] at h
    rcases hg : getK K id with _ | e
    · exact hnone id hg
    · rw [hg] at h; simp at h
  | succ n ih =>
    intro id h
    rw [wK_eq hG] at h
    rcases hg : getK K id with _ | e
    · exact hnone id hg
    · rw [hg] at h
      simp only [List.length_cons] at h
      by_cases hz : e.main = 0
      · exact hzero id e hg hz
      · rw [if_neg hz] at h
        exact hstep id e hg hz (ih e.main (by omega))
end Go.Proofs.Ytnjniganlielcaa
