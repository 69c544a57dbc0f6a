/-
  Plain words: the spellings of the ends of a word.
-/
import Derived.Test.YtokbclpdpegicaaW28
namespace Go.Proofs.Ytokbclpdpegicaa
open Go.ChangeShapes Go.WideShapes Go.ChangeAt Go.RowKit
/-- the texts of T, each with the unit p ahead of it, as far as the division takes p there -/
def growR (us : List PU) (p : PU) : List ByteArray → List ByteArray → List ByteArray
  | [], acc => acc
  | e :: r, acc => growR us p r (if us.any (overB (p.g ++ e) p.g) = true then acc else acc ++ [p.g ++ e])
def endR (us : List PU) (w : List Int) (T : List (List ByteArray)) : List PU → List ByteArray → List ByteArray
  | [], acc => acc
  | p :: r, acc => endR us w T r (if preR w p.s = true then growR us p (T.getD (p.s.length - 1) []) acc else acc)
/-- the spellings of the last k ends of a word, where R marks the places that are reached -/
def etab (us : List PU) (ws : List Int) (R : Nat → Bool) : Nat → List (List ByteArray)
  | 0 => [[ByteArray.empty]]
  | k + 1 => (if R (ws.length - (k + 1)) = true then endR us (ws.drop (ws.length - (k + 1))) (etab us ws R k) us [] else []) :: etab us ws R k
theorem etab_len (us : List PU) (ws : List Int) (R : Nat → Bool) (k : Nat) : (etab us ws R k).length = k + 1 := by
  induction k with
  | zero => rfl
  | succ k ih => rw [etab, List.length_cons, ih]
theorem growR_len (us : List PU) (p : PU) : ∀ (T acc : List ByteArray), acc.length ≤ (growR us p T acc).length
  | [], _ => Nat.le_refl _
  | e :: r, acc => by
    rw [growR]
    refine Nat.le_trans ?_ (growR_len us p r _)
    split
    · exact Nat.le_refl _
    · simp
theorem endR_len (us : List PU) (w : List Int) (T : List (List ByteArray)) : ∀ (l : List PU) (acc : List ByteArray), acc.length ≤ (endR us w T l acc).length
  | [], _ => Nat.le_refl _
  | p :: r, acc => by
    rw [endR]
    refine Nat.le_trans ?_ (endR_len us w T r _)
    split
    · exact growR_len us p _ acc
    · exact Nat.le_refl _
/-- texts of at most k mega bytes -/
def SzT (k : Nat) (l : List ByteArray) : Prop := ∀ s ∈ l, s.size ≤ k * 1048576
theorem SzT.mono {k k' : Nat} {l : List ByteArray} (h : SzT k l) (hk : k ≤ k') : SzT k' l := fun s hs => Nat.le_trans (h s hs) (Nat.mul_le_mul_right _ hk)
theorem growR_sz (us : List PU) (p : PU) (k : Nat) (hp : SmS p.g) : ∀ (T acc : List ByteArray), SzT k T → SzT (k + 1) acc → SzT (k + 1) (growR us p T acc)
  | [], _, _, h => h
  | e :: r, acc, hT, h => by
    rw [growR]
    refine growR_sz us p k hp r _ (fun s hs => hT s (List.mem_cons_of_mem _ hs)) ?_
    split
    · exact h
    · intro s hs
      rcases List.mem_append.1 hs with h1 | h1
      · exact h s h1
      · rw [List.mem_singleton.1 h1, ByteArray.size_append]
        have h2 := hT e List.mem_cons_self
        have h3 : p.g.size ≤ 1048576 := hp
        omega
theorem endR_sz (us : List PU) (w : List Int) (k : Nat) (T : List (List ByteArray)) (hT : ∀ j, SzT k (T.getD j [])) : ∀ (l : List PU) (acc : List ByteArray), (∀ p ∈ l, SmS p.g) → SzT (k + 1) acc → SzT (k + 1) (endR us w T l acc)
  | [], _, _, h => h
  | p :: r, acc, hl, h => by
    rw [endR]
    refine endR_sz us w k T hT r _ (fun q hq => hl q (List.mem_cons_of_mem _ hq)) ?_
    split
    · exact growR_sz us p k (hl p List.mem_cons_self) _ _ (hT _) h
    · exact h
theorem etab_sz (us : List PU) (ws : List Int) (R : Nat → Bool) (hus : ∀ p ∈ us, SmS p.g) (k : Nat) : ∀ j, SzT k ((etab us ws R k).getD j []) := by
  induction k with
  | zero =>
    intro j
    cases j with
    | zero => intro s hs; simp [etab] at hs; subst hs; exact Nat.zero_le _
    | succ j => intro s hs; simp [etab] at hs
  | succ k ih =>
    intro j
    rw [etab]
    cases j with
    | zero =>
      simp only [List.getD_cons_zero]
      split
      · exact endR_sz us _ k _ ih us [] hus (fun s hs => by cases hs)
      · intro s hs; cases hs
    | succ j =>
      simp only [List.getD_cons_succ]
      exact (ih j).mono (Nat.le_succ k)
/-- the lists at the keys, behind k ends -/
def tabL (N k : Nat) (T : List (List ByteArray)) : Nat → List ByteArray := fun i => if i + k < N then [] else T.getD (i + k - N) []
theorem tabL_zero (N : Nat) (T : List (List ByteArray)) (i : Nat) (hi : i ≤ N) : tabL N 0 T i = upd (fun _ => []) N (T.getD 0 []) i := by
  unfold tabL upd
  by_cases h : i = N
  · subst h; simp
  · rw [if_pos (by omega), if_neg h]
theorem tabL_next (N k a : Nat) (ha : a + 1 + k = N) (T : List (List ByteArray)) (l : List ByteArray) (i : Nat) : upd (tabL N k T) a l i = tabL N (k + 1) (l :: T) i := by
  simp only [tabL, upd]
  by_cases h : i = a
  · subst h
    rw [if_pos rfl, if_neg (by omega), show i + (k + 1) - N = 0 by omega]
    rfl
  · rw [if_neg h]
    by_cases h2 : i < a
    · rw [if_pos (by omega), if_pos (by omega)]
    · rw [if_neg (by omega), if_neg (by omega), show i + (k + 1) - N = (i + k - N) + 1 by omega]
      rfl
theorem tabL_at (N k a : Nat) (ha : a + 1 + k = N) (T : List (List ByteArray)) : tabL N k T a = [] := by unfold tabL; rw [if_pos (by omega)]
theorem tabL_end (N k a m : Nat) (ha : a + 1 + k = N) (hm : 1 ≤ m) (T : List (List ByteArray)) : tabL N k T (a + m) = T.getD (m - 1) [] := by
  unfold tabL
  rw [if_neg (by omega), show a + m + k - N = m - 1 by omega]
theorem upd_upd {α : Type} (L : Nat → α) (k : Nat) (x y : α) : upd (upd L k x) k y = upd L k y := by
  funext i
  unfold upd
  split <;> rfl
theorem upd_same {α : Type} (L : Nat → α) (k : Nat) (x : α) : upd L k x k = x := by simp [upd]
theorem upd_other {α : Type} (L : Nat → α) (k : Nat) (x : α) {i : Nat} (h : i ≠ k) : upd L k x i = L i := by simp [upd, h]
theorem Sp.congr {w : World} {B gM base n N : Nat} {M : List Bool} {L L' : Nat → List ByteArray} {V : Nat → Value} (h : Sp w B gM base n N M L V) (he : ∀ i, i ≤ N → L i = L' i) : Sp w B gM base n N M L' V :=
  ⟨⟨h.m.map, fun k hk => by rw [← he k hk]; exact h.m.own k hk, h.m.apart, h.m.bb⟩, h.marks⟩
end Go.Proofs.Ytokbclpdpegicaa
