/-
  Plain words: a text is among the spellings of the segments that are read from it; each spelling is read as them.
-/
import Derived.Test.YtokbclpdpegicaaWP5
namespace Go.Proofs.Ytokbclpdpegicaa
open Go.ChangeShapes Go.WideShapes Go.ChangeAt Go.RowKit
def unitsT (us : List PU) : Nat → ByteArray → List Int × Nat
  | 0, _ => ([], 0)
  | f + 1, t => if 0 < t.size then (if longF us t < 0 then ([], 0) else ((longF us t) :: (unitsT us f (tl t (((us[(longF us t).toNat]?).map fun p => p.g.size).getD 0))).1, (((us[(longF us t).toNat]?).map fun p => p.g.size).getD 0) + (unitsT us f (tl t (((us[(longF us t).toNat]?).map fun p => p.g.size).getD 0))).2)) else ([], 0)
theorem tl_tl (s : ByteArray) (a n : Nat) (h : a + n ≤ s.size) : tl (tl s a) n = tl s (a + n) := by
  have h1 := tl_size s a (by omega)
  rw [tl, h1, tl, ByteArray.extract_extract, tl]
  congr 1
  omega
theorem tl_zero (s : ByteArray) : tl s 0 = s := by
  apply bytes_inj
  rw [ByteArray.toList_eq, ByteArray.toList_eq, tl, ByteArray.data_extract]
  simp
  exact List.take_of_length_le (by rw [Array.length_toList]; exact Nat.le_refl _)
theorem tl_append (g e : ByteArray) : tl (g ++ e) g.size = e := by
  apply bytes_inj
  rw [ByteArray.toList_eq, ByteArray.toList_eq, tl, ByteArray.data_extract, ByteArray.size_append]
  simp
  have h1 : g.size = g.data.toList.length := by rw [Array.length_toList]; rfl
  have h2 : e.size = e.data.toList.length := by rw [Array.length_toList]; rfl
  rw [h1, h2, List.drop_length, List.take_nil, List.nil_append, List.take_length]
theorem beg_split {t g : ByteArray} (h : begB t g = true) : t = g ++ tl t g.size := by
  obtain ⟨h1, h2⟩ := (begB_iff _ _).1 h
  have h3 : g.data.toList = t.data.toList.take g.size := by
    have := congrArg (fun b : ByteArray => b.data.toList) h2
    simp [ByteArray.data_extract] at this
    exact this.symm
  have h4 : (tl t g.size).data.toList = t.data.toList.drop g.size := by
    rw [tl, ByteArray.data_extract]
    simp
    exact List.take_of_length_le (by rw [List.length_drop, Array.length_toList]; exact Nat.le_refl _)
  apply bytes_inj
  rw [ByteArray.toList_eq, ByteArray.toList_eq, ByteArray.data_append, Array.toList_append, h4]
  conv => rhs; rw [h3]
  exact (List.take_append_drop _ _).symm
theorem unitsR_T (us : List PU) (s : ByteArray) : ∀ (f a : Nat), a ≤ s.size → unitsR us s f a = ((unitsT us f (tl s a)).1, a + (unitsT us f (tl s a)).2)
  | 0, a, _ => rfl
  | f + 1, a, h => by
    have hs := tl_size s a h
    rw [unitsR, unitsT]
    by_cases h1 : a < s.size
    · rw [if_pos h1, if_pos (show 0 < (tl s a).size by omega)]
      rcases longF_range us (tl s a) with h2 | ⟨j, p, h2, h3, h4⟩
      · rw [h2, if_pos (show (-1 : Int) < 0 by decide), if_pos (show (-1 : Int) < 0 by decide)]; rfl
      · have h5 := beg_le h4
        rw [hs] at h5
        rw [h2, if_neg (show ¬ ((j : Int) < 0) by omega), if_neg (show ¬ ((j : Int) < 0) by omega), Int.toNat_natCast, h3]
        simp only [Option.map_some, Option.getD_some]
        rw [unitsR_T us s f (a + p.g.size) (by omega), tl_tl s a p.g.size (by omega)]
        simp only [Nat.add_assoc]
    · rw [if_neg h1, if_neg (show ¬ 0 < (tl s a).size by omega)]; rfl
inductive Div (us : List PU) : ByteArray → List Int → Prop
  | nil : Div us ByteArray.empty []
  | cons {t e : ByteArray} {j : Nat} {p : PU} {l : List Int} (hl : longF us t = j) (hp : us[j]? = some p) (ht : t = p.g ++ e) (h : Div us e l) : Div us t ((j : Int) :: l)
theorem empty_of {t : ByteArray} (h : t.size = 0) : t = ByteArray.empty := by
  have : t.data = #[] := Array.eq_empty_of_size_eq_zero h
  cases t; simp only at this; subst this; rfl
theorem unitsT_div {us : List PU} (hg : ∀ p ∈ us, GoodU p) {t : ByteArray} {l : List Int} (h : Div us t l) : ∀ f, t.size < f → unitsT us f t = (l, t.size) := by
  induction h with
  | nil =>
    intro f hf
    obtain ⟨f, rfl⟩ : ∃ k, f = k + 1 := ⟨f - 1, by omega⟩
    rw [unitsT, if_neg (by show ¬ 0 < 0; omega)]
    rfl
  | @cons t e j p l hl hp ht _ ih =>
    intro f hf
    obtain ⟨f, rfl⟩ : ∃ k, f = k + 1 := ⟨f - 1, by omega⟩
    have hp0 := (hg p (List.mem_of_getElem? hp)).1
    have hsz : t.size = p.g.size + e.size := by rw [ht, ByteArray.size_append]
    have htl : tl t p.g.size = e := by rw [ht, tl_append]
    rw [unitsT, if_pos (by omega), hl, if_neg (by omega), Int.toNat_natCast, hp]
    simp only [Option.map_some, Option.getD_some]
    rw [htl, ih f (by omega), hsz]
theorem div_unitsT {us : List PU} : ∀ (f : Nat) (t : ByteArray) (l : List Int), unitsT us f t = (l, t.size) → Div us t l
  | 0, t, l, h => by
    rw [unitsT] at h
    simp only [Prod.mk.injEq] at h
    rw [empty_of h.2.symm, ← h.1]; exact .nil
  | f + 1, t, l, h => by
    rw [unitsT] at h
    by_cases h1 : 0 < t.size
    · rw [if_pos h1] at h
      rcases longF_range us t with h2 | ⟨j, p, h2, h3, h4⟩
      · rw [h2, if_pos (by decide)] at h
        simp only [Prod.mk.injEq] at h
        omega
      · rw [h2, if_neg (by omega), Int.toNat_natCast, h3] at h
        simp only [Option.map_some, Option.getD_some, Prod.mk.injEq] at h
        have h5 := beg_split h4
        have h6 : t.size = p.g.size + (tl t p.g.size).size := by conv => lhs; rw [h5, ByteArray.size_append]
        rw [← h.1]
        refine .cons h2 h3 h5 (div_unitsT f _ _ ?_)
        rw [Prod.ext_iff]
        exact ⟨rfl, by simp only; omega⟩
    · rw [if_neg h1] at h
      simp only [Prod.mk.injEq] at h
      rw [empty_of (t := t) (by omega), ← h.1]; exact .nil
theorem longR_best (s : ByteArray) (us : List PU) : ∀ (l : List PU) (i : Nat) (b : Int) (m : Nat), us.drop i = l → (0 ≤ b → ∃ (j : Nat) (p : PU), b = j ∧ us[j]? = some p ∧ p.g.size = m) →
    (0 ≤ b → ∃ (j : Nat) (p : PU), longR s l i b m = j ∧ us[j]? = some p ∧ m ≤ p.g.size) ∧ (∀ q ∈ l, begB s q.g = true → ∃ (j : Nat) (p : PU), longR s l i b m = j ∧ us[j]? = some p ∧ q.g.size ≤ p.g.size)
  | [], _, _, m, _, h => ⟨fun h1 => by obtain ⟨j, p, h2, h3, h4⟩ := h h1; exact ⟨j, p, h2, h3, by omega⟩, fun q hq => by cases hq⟩
  | q :: r, i, b, m, hd, h => by
    have hr : us.drop (i + 1) = r := by rw [← List.drop_drop, hd]; rfl
    have hp : us[i]? = some q := by
      have := congrArg (fun l => l[0]?) hd
      simpa [List.getElem?_drop] using this
    rw [longR]
    by_cases hc : begB s q.g = true ∧ (b < 0 ∨ m < q.g.size)
    · rw [if_pos hc]
      have ih := longR_best s us r (i + 1) i q.g.size hr fun _ => ⟨i, q, rfl, hp, rfl⟩
      obtain ⟨j, p, h1, h2, h3⟩ := ih.1 (by omega)
      refine ⟨fun h4 => ⟨j, p, h1, h2, ?_⟩, fun q' hq' hb' => ?_⟩
      · rcases hc.2 with h5 | h5 <;> omega
      · rcases List.mem_cons.1 hq' with rfl | hq'
        · exact ⟨j, p, h1, h2, h3⟩
        · exact ih.2 q' hq' hb'
    · rw [if_neg hc]
      have ih := longR_best s us r (i + 1) b m hr h
      refine ⟨ih.1, fun q' hq' hb' => ?_⟩
      rcases List.mem_cons.1 hq' with rfl | hq'
      · have hc' : ¬ (b < 0 ∨ m < q'.g.size) := fun h1 => hc ⟨hb', h1⟩
        obtain ⟨j, p, h1, h2, h3⟩ := ih.1 (by omega)
        exact ⟨j, p, h1, h2, by omega⟩
      · exact ih.2 q' hq' hb'
theorem tk_of_longF {us : List PU} {s : ByteArray} {j : Nat} {p : PU} (h : longF us s = j) (hp : us[j]? = some p) : Tk us s p := by
  refine ⟨?_, ?_⟩
  · rcases longF_range us s with h1 | ⟨j', p', h1, h2, h3⟩
    · rw [h] at h1; omega
    · rw [h] at h1
      obtain rfl : j = j' := by omega
      rw [hp] at h2
      cases h2
      exact h3
  · rw [List.any_eq_false]
    intro q hq
    cases hb : begB s q.g
    · simp [overB, hb]
    · obtain ⟨j', p', h1, h2, h3⟩ := (longR_best s us us 0 (-1) 0 rfl (fun h => by omega)).2 q hq hb
      rw [show longR s us 0 (-1) 0 = longF us s from rfl, h] at h1
      obtain rfl : j = j' := by omega
      rw [hp] at h2
      cases h2
      simp only [overB, hb, Bool.and_true, decide_eq_true_eq]
      omega
theorem longF_of_tk {us : List PU} (ho : ∀ (j k : Nat) (p q : PU), j < k → us[j]? = some p → us[k]? = some q → (p.g.toList == q.g.toList) = false) {s : ByteArray} {j : Nat} {p : PU} (h : Tk us s p) (hp : us[j]? = some p) : longF us s = j := by
  have hmax : ∀ q ∈ us, begB s q.g = true → q.g.size ≤ p.g.size := fun q hq hb => by
    have := List.any_eq_false.1 h.2 q hq
    simp only [overB, hb, Bool.and_true, decide_eq_true_eq] at this
    omega
  refine longF_eq hp h.1 hmax fun k q hk hq hb => ?_
  have h1 := hmax q (List.mem_of_getElem? hq) hb
  by_cases h2 : q.g.size = p.g.size
  · have h3 := ((begB_iff _ _).1 h.1).2
    have h4 := ((begB_iff _ _).1 hb).2
    have h5 := ho k j q p hk hq hp
    rw [bytes_beq, ← h3, ← h4, h2] at h5
    simp at h5
  · omega
theorem segsL_cons {us : List PU} {j : Nat} {p : PU} (hp : us[j]? = some p) (l : List Int) : segsL us ((j : Int) :: l) = p.s ++ segsL us l := by
  rw [segsL, Int.toNat_natCast, hp]; rfl
theorem etab_get {us : List PU} {ws : List Int} {R : Nat → Bool} {k j : Nat} {s : ByteArray} (h : s ∈ (etab us ws R k).getD j []) : j ≤ k ∧ s ∈ (etab us ws R (k - j)).getD 0 [] := by
  have hj : j ≤ k := by
    by_cases hj : j ≤ k
    · exact hj
    · rw [List.getD_eq_getElem?_getD, List.getElem?_eq_none (by rw [etab_len]; omega)] at h
      cases h
  refine ⟨hj, ?_⟩
  have := etab_drop us ws R (k - j) j
  rw [Nat.sub_add_cancel hj] at this
  rw [← this]; exact h
theorem ends_div {us : List PU} (hg : ∀ p ∈ us, GoodU p) (ho : ∀ (j k : Nat) (p q : PU), j < k → us[j]? = some p → us[k]? = some q → (p.g.toList == q.g.toList) = false) (ws : List Int) (R : Nat → Bool) :
    ∀ (n k : Nat), k ≤ n → k ≤ ws.length → ∀ s ∈ (etab us ws R k).getD 0 [], ∃ l, Div us s l ∧ segsL us l = ws.drop (ws.length - k)
  | _, 0, _, _, s, hs => by
    simp only [etab, List.getD_cons_zero, List.mem_singleton] at hs
    subst hs
    exact ⟨[], .nil, by rw [segsL, List.drop_of_length_le (by omega)]⟩
  | 0, k + 1, h, _, _, _ => by omega
  | n + 1, k + 1, hk, hw, s, hs => by
    rw [etab, List.getD_cons_zero] at hs
    split at hs
    · rcases (mem_endR us _ _ s us []).1 hs with h1 | ⟨p, hpu, hpre, e, he, hse, htk⟩
      · cases h1
      · obtain ⟨j, hj⟩ := List.mem_iff_getElem?.1 hpu
        have hp1 := (hg p hpu).2.1
        obtain ⟨hle, he⟩ := etab_get he
        obtain ⟨l, h2, h3⟩ := ends_div hg ho ws R n (k - (p.s.length - 1)) (by omega) (by omega) e he
        refine ⟨(j : Int) :: l, .cons (longF_of_tk ho htk hj) hj hse h2, ?_⟩
        rw [segsL_cons hj, h3]
        have h4 := (preR_iff _ _).1 hpre
        have h5 : ws.length - (k - (p.s.length - 1)) = (ws.length - (k + 1)) + p.s.length := by omega
        rw [h5, ← List.drop_drop]
        conv => rhs; rw [← List.take_append_drop p.s.length (ws.drop (ws.length - (k + 1)))]
        rw [h4]
    · cases hs
theorem div_ends {us : List PU} (hg : ∀ p ∈ us, GoodU p) {ws : List Int} {M : List Bool} (hM : GoodR us ws M) {s : ByteArray} {l : List Int} (h : Div us s l) :
    ∀ k, k ≤ ws.length → segsL us l = ws.drop (ws.length - k) → M.getD (ws.length - k) false = true → s ∈ (etab us ws (fun i => M.getD i false) k).getD 0 [] := by
  induction h with
  | nil =>
    intro k hk hl _
    have : (ws.drop (ws.length - k)).length = 0 := by rw [← hl]; rfl
    rw [List.length_drop] at this
    obtain rfl : k = 0 := by omega
    simp [etab]
  | @cons t e j p l hlf hp ht _ ih =>
    intro k hk hl hm
    rw [segsL_cons hp] at hl
    have hpu := List.mem_of_getElem? hp
    have hp1 := (hg p hpu).2.1
    have hlen : p.s.length + (segsL us l).length = k := by
      have := congrArg List.length hl
      rw [List.length_append, List.length_drop] at this
      omega
    obtain ⟨k, rfl⟩ : ∃ k', k = k' + 1 := ⟨k - 1, by omega⟩
    have hpre : preR (ws.drop (ws.length - (k + 1))) p.s = true := by rw [preR_iff, ← hl, List.take_left']; rfl
    have hrest : segsL us l = ws.drop (ws.length - (k + 1 - p.s.length)) := by
      rw [show ws.length - (k + 1 - p.s.length) = (ws.length - (k + 1)) + p.s.length by omega, ← List.drop_drop, ← hl, List.drop_left']
      rfl
    have hm2 := hM.hands (ws.length - (k + 1)) p (by omega) hpu hm hpre
    have h2 := ih (k + 1 - p.s.length) (by omega) hrest (by rw [show ws.length - (k + 1 - p.s.length) = (ws.length - (k + 1)) + p.s.length by omega]; exact hm2)
    rw [etab, List.getD_cons_zero, if_pos hm, mem_endR]
    refine .inr ⟨p, hpu, hpre, e, ?_, ht, tk_of_longF hlf hp⟩
    have h3 := etab_drop us ws (fun i => M.getD i false) (k + 1 - p.s.length) (p.s.length - 1)
    rw [show k + 1 - p.s.length + (p.s.length - 1) = k by omega] at h3
    rw [h3]; exact h2
theorem unitsF_T (us : List PU) (s : ByteArray) : unitsF us s = unitsT us (s.size + 1) s := by
  rw [unitsF, unitsR_T us s _ 0 (Nat.zero_le _), tl_zero, Nat.zero_add]
theorem read_of_div {us : List PU} (hg : ∀ p ∈ us, GoodU p) {s : ByteArray} {l : List Int} (h : Div us s l) (h1 : 1 ≤ (segsL us l).length) (h24 : (segsL us l).length ≤ 24) : readF us s = (segsL us l, 0, 0) := by
  have hu : unitsF us s = (l, s.size) := by rw [unitsF_T, unitsT_div hg h _ (Nat.lt_succ_self _)]
  have hs : s.size ≠ 0 := by
    intro e
    cases h with
    | nil => simp [segsL] at h1
    | @cons _ e' j p l _ hp ht _ =>
      have := (hg p (List.mem_of_getElem? hp)).1
      rw [ht, ByteArray.size_append] at e
      omega
  rw [readF, if_neg hs, hu, if_neg (by simp), if_neg (show ¬ 24 < (segsL us l).length by omega)]
theorem div_of_read {us : List PU} (hg : ∀ p ∈ us, GoodU p) {s : ByteArray} (h : (readF us s).2.2 = 0) : ∃ l, Div us s l ∧ segsL us l = (readF us s).1 ∧ 1 ≤ (readF us s).1.length := by
  rw [readF] at h ⊢
  by_cases h1 : s.size = 0
  · rw [if_pos h1] at h; cases h
  · rw [if_neg h1] at h ⊢
    by_cases h2 : (unitsF us s).2 < s.size
    · rw [if_pos h2] at h; cases h
    · rw [if_neg h2] at h ⊢
      by_cases h3 : 24 < (segsL us (unitsF us s).1).length
      · rw [if_pos h3] at h; cases h
      · rw [if_neg h3]
        have h4 := (unitsF_len us s hg).2
        have h5 : unitsT us (s.size + 1) s = ((unitsF us s).1, s.size) := by rw [← unitsF_T, Prod.ext_iff]; exact ⟨rfl, by simp only; omega⟩
        have h6 := div_unitsT _ _ _ h5
        refine ⟨_, h6, rfl, ?_⟩
        generalize (unitsF us s).1 = l at h6
        cases h6 with
        | nil => exact absurd rfl h1
        | @cons _ e' j p l _ hp _ _ =>
          have := (hg p (List.mem_of_getElem? hp)).2.1
          show 1 ≤ (segsL us ((j : Int) :: l)).length
          rw [segsL_cons hp, List.length_append]
          omega
theorem sortT_up {S : List ByteArray} (h : S.Nodup) : (sortT S).Pairwise (fun x y => Op.bytesLess x.toList y.toList = true) := by
  have h1 := sortT_nodup h
  have h2 : (sortT S).Pairwise (fun x y => x.toList ≤ y.toList) := by
    rw [sortT, List.pairwise_map]
    refine (List.pairwise_mergeSort (le := fun x y : List UInt8 => decide (x ≤ y)) (fun a b c hab hbc => ?_) (fun a b => ?_) _).imp fun hxy => ?_
    · simp only [decide_eq_true_eq] at hab hbc ⊢; exact List.le_trans hab hbc
    · simp only [Bool.or_eq_true, decide_eq_true_eq]; exact List.le_total a b
    · rw [ByteArray.toList_eq, ByteArray.toList_eq]; simpa using hxy
  refine (h1.and h2).imp fun ⟨hne, hle⟩ => ?_
  rw [bytesLess_eq, decide_eq_true_eq]
  rcases List.le_iff_lt_or_eq.1 hle with h3 | h3
  · exact h3
  · exact absurd (bytes_inj h3) hne
end Go.Proofs.Ytokbclpdpegicaa
