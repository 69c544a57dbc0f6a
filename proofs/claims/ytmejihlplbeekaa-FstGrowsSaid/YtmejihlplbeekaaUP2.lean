/-
  Trim, in plain words.
-/
import Derived.Test.YtmejihlplbeekaaU3
namespace Go.Proofs.Ytmejihlplbeekaa
/-- how many useful states there are from 1 on, below q -/
noncomputable def cntU (F : PFst) (q : Nat) : Nat := ((List.range q).filter fun r => useB F r && decide (1 ≤ r)).length
noncomputable def numU (F : PFst) (q : Nat) : Int := if q = 0 then 0 else 1 + (cntU F q : Int)
noncomputable def trimA (F : PFst) (L : List PArc) : List PArc := (L.filter fun a => useB F a.fr.toNat && useB F a.tgt.toNat).map fun a => ⟨numU F a.fr.toNat, a.inp, a.out, numU F a.tgt.toNat⟩
noncomputable def trimE (F : PFst) (l : List Int) : List Int := (l.filter fun q => useB F q.toNat).map fun q => numU F q.toNat
noncomputable def trimF (F : PFst) : PFst := ⟨1 + (cntU F F.states.toNat : Int), trimA F F.arcs, trimE F F.final⟩
theorem cntU_succ (F : PFst) (q : Nat) : cntU F (q + 1) = cntU F q + if useB F q = true ∧ 1 ≤ q then 1 else 0 := by
  unfold cntU
  rw [List.range_succ, List.filter_append, List.length_append]
  congr 1
  by_cases h1 : useB F q = true
  · by_cases h2 : 1 ≤ q <;> simp [h1, h2]
  · simp [h1]
theorem cntU_le (F : PFst) (q : Nat) : cntU F q ≤ q := by
  unfold cntU
  exact Nat.le_trans (List.length_filter_le _ _) (by simp)
theorem trimA_snoc (F : PFst) (L : List PArc) (a : PArc) : trimA F (L ++ [a]) = trimA F L ++ if useB F a.fr.toNat && useB F a.tgt.toNat then [⟨numU F a.fr.toNat, a.inp, a.out, numU F a.tgt.toNat⟩] else [] := by
  simp only [trimA, List.filter_append, List.map_append, List.filter_cons, List.filter_nil]
  split <;> rfl
theorem trimE_snoc (F : PFst) (l : List Int) (q : Int) : trimE F (l ++ [q]) = trimE F l ++ if useB F q.toNat then [numU F q.toNat] else [] := by
  simp only [trimE, List.filter_append, List.map_append, List.filter_cons, List.filter_nil]
  split <;> rfl
theorem trimA_len (F : PFst) (L : List PArc) : (trimA F L).length ≤ L.length := by
  unfold trimA
  rw [List.length_map]
  exact List.length_filter_le _ _
theorem trimE_len (F : PFst) (l : List Int) : (trimE F l).length ≤ l.length := by
  unfold trimE
  rw [List.length_map]
  exact List.length_filter_le _ _
theorem mem_useK {F : PFst} {k : Nat} {x : Int} : x ∈ useK F k ↔ ∃ q : Nat, x = q ∧ q < k ∧ useB F q = true := by
  unfold useK
  simp only [List.mem_map, List.mem_filter, List.mem_range]
  constructor
  · rintro ⟨q, ⟨h1, h2⟩, h3⟩; exact ⟨q, h3.symm, h1, h2⟩
  · rintro ⟨q, h1, h2, h3⟩; exact ⟨q, ⟨h2, h3⟩, h1.symm⟩
/-- the element at a place, and those before it -/
theorem useK_at {F : PFst} {k j : Nat} {x : Int} (h : (useK F k)[j]? = some x) : ∃ q : Nat, x = q ∧ q < k ∧ useB F q = true ∧ (useK F k).take j = useK F q := by
  induction k with
  | zero => simp [useK] at h
  | succ k ih =>
    rw [useK_succ] at h ⊢
    by_cases hj : j < (useK F k).length
    · rw [List.getElem?_append_left hj] at h
      obtain ⟨q, h1, h2, h3, h4⟩ := ih h
      exact ⟨q, h1, by omega, h3, by rw [List.take_append_of_le_length (by omega)]; exact h4⟩
    · rw [List.getElem?_append_right (by omega)] at h
      cases hu : useB F k
      · rw [hu] at h; simp at h
      · rw [hu] at h
        simp only [if_true] at h
        have hj2 : j - (useK F k).length = 0 := by
          have := (List.getElem?_eq_some_iff.1 h).1
          simp at this
          omega
        rw [hj2] at h
        simp at h
        refine ⟨k, h.symm, by omega, hu, ?_⟩
        rw [show j = (useK F k).length by omega, List.take_left]
/-- how many of a list are not 0 -/
def nz (l : List Int) : Nat := (l.filter fun x => decide (x ≠ 0)).length
theorem nz_snoc (l : List Int) (x : Int) : nz (l ++ [x]) = nz l + if x = 0 then 0 else 1 := by
  unfold nz
  rw [List.filter_append, List.length_append]
  congr 1
  by_cases h : x = 0 <;> simp [h]
theorem nz_useK (F : PFst) (k : Nat) : nz (useK F k) = cntU F k := by
  induction k with
  | zero => simp [nz, useK, cntU]
  | succ k ih =>
    rw [useK_succ, cntU_succ]
    cases hu : useB F k
    · simp [ih]
    · simp only [if_true]
      rw [nz_snoc, ih]
      by_cases hk : k = 0
      · subst hk; simp
      · have h1 : ¬ (k : Int) = 0 := by omega
        have h2 : 1 ≤ k := by omega
        rw [if_neg h1, if_pos ⟨trivial, h2⟩]
theorem nz_le (l : List Int) : nz l ≤ l.length := List.length_filter_le _ _
/-- the numbers that were given to the first states of a list -/
noncomputable def numF (F : PFst) (l : List Int) : Int → Option Int := fun y => if y ∈ l then some (numU F y.toNat) else none
theorem numF_snoc (F : PFst) (l : List Int) (x : Int) : put (numF F l) x (numU F x.toNat) = numF F (l ++ [x]) := by
  funext y
  unfold put numF
  by_cases h : y = x
  · subst h; simp
  · simp [h]
theorem numF_nil (F : PFst) : (fun _ => none : Int → Option Int) = numF F [] := by funext y; simp [numF]
theorem numF_at (F : PFst) {k : Nat} {q : Nat} (hq : q < k) : numF F (useK F k) (q : Int) = if useB F q then some (numU F q) else none := by
  unfold numF
  by_cases h : useB F q = true
  · rw [if_pos (mem_useK.2 ⟨q, rfl, hq, h⟩), if_pos h, Int.toNat_natCast]
  · rw [if_neg, if_neg h]
    rintro hm
    obtain ⟨q', h1, _, h3⟩ := mem_useK.1 hm
    have : q = q' := by omega
    subst this
    exact h h3
theorem numU_bd (F : PFst) (q : Nat) : 0 ≤ numU F q ∧ numU F q ≤ 1 + (q : Int) := by
  unfold numU
  have := cntU_le F q
  split <;> omega
end Go.Proofs.Ytmejihlplbeekaa
