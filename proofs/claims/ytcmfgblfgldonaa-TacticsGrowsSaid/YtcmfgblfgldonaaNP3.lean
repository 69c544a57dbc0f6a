/-
  Tactics, in plain words: what Check grants; the example of the chapter.
-/
import Derived.Test.YtcmfgblfgldonaaN21
import Derived.Test.YtcmfgblfgldonaaN15
namespace Go.Proofs.Ytcmfgblfgldonaa
open Go.ChangeShapes Go.WideShapes Go.ChangeAt Go.RowKit
theorem stB_of {n q : Int} (h : stB n q = true) : 0 ≤ q ∧ q < n := by
  simpa [stB] using h
theorem steps_good {n : Int} : ∀ (l b : List PStep), stepsErr n b l = 0 → (∀ s, s ∈ l → StepOk n s ∧ s ∉ b) ∧ l.Pairwise (· ≠ ·)
  | [], _, _ => ⟨fun _ h => (by cases h), List.Pairwise.nil⟩
  | s :: l, b, h => by
    unfold stepsErr at h
    split at h
    · rename_i h1
      rw [Bool.and_eq_true] at h1
      split at h
      · cases h
      · rename_i h2
        split at h
        · cases h
        · rename_i h3
          obtain ⟨h4, h5⟩ := steps_good l _ h
          refine ⟨fun x hx => ?_, List.Pairwise.cons (fun x hx => ?_) h5⟩
          · rcases List.mem_cons.1 hx with rfl | hx
            · have h6 := stB_of h1.1
              have h7 := stB_of h1.2
              exact ⟨⟨h6.1, h6.2, h7.1, h7.2, by omega, by omega⟩, h3⟩
            · obtain ⟨h8, h9⟩ := h4 x hx
              exact ⟨h8, fun hb => h9 (List.mem_append_left _ hb)⟩
          · rintro rfl
            exact (h4 _ hx).2 (by simp)
    · cases h
theorem ord_good : ∀ (l : List Int), ordE l = 0 → l.Pairwise (· < ·)
  | [], _ => List.Pairwise.nil
  | [_], _ => by simp
  | x :: y :: l, h => by
    unfold ordE at h
    split at h
    · cases h
    · have h1 := ord_good (y :: l) h
      refine List.Pairwise.cons (fun z hz => ?_) h1
      rcases List.mem_cons.1 hz with rfl | hz
      · omega
      · have := (List.pairwise_cons.1 h1).1 z hz
        omega
theorem fin_good {n : Int} : ∀ (l : List Int), finE n l = 0 → ∀ q, q ∈ l → 0 ≤ q ∧ q < n
  | [], _, _, h => by cases h
  | a :: l, h, q, hq => by
    unfold finE at h
    split at h
    · rename_i h1
      rcases List.mem_cons.1 hq with rfl | hq
      · exact stB_of h1
      · exact fin_good l h q hq
    · cases h
theorem chk_good {N : PNet} (h : (chkN N == 0) = true) : GoodN N := by
  rw [beq_iff_eq] at h
  unfold chkN at h
  split at h
  · cases h
  · split at h
    · cases h
    · split at h
      · rename_i h3; exact absurd h h3
      · rename_i h3
        split at h
        · cases h
        · rename_i h4
          have h5 := steps_good N.steps [] (by simpa using h3)
          exact ⟨by omega, by omega, by omega, fun s hs => (h5.1 s hs).1, h5.2, ord_good _ (by simpa using h4), fin_good _ h⟩
def exN : PNet := ⟨3, [⟨0, 1, 1⟩, ⟨1, 2, 1⟩], [1]⟩
theorem ex_chk : chkN exN = 0 := by kernel_rfl
theorem ex_good : GoodN exN := chk_good (by rw [ex_chk]; rfl)
theorem ex_end : endF exN 3 = true := by kernel_rfl
theorem ex_acc0 : accF exN [] = false := by kernel_rfl
theorem ex_acc : accF exN [1, 2, 2] = true := by kernel_rfl
theorem ex_words2 : wordsF exN 3 2 = [[1], [1, 2]] := by kernel_rfl
theorem ex_words5 : wordsF exN 3 5 = [] := by kernel_rfl
theorem ex_follow : followF exN 3 [1] = [2] := by kernel_rfl
theorem ex_classes : folF exN 3 (reachF exN.steps 3 1) 20 = [1, 2] := by kernel_rfl
theorem rdI_row (w : World) (g : Nat) (hg : w.heap.size = g) (xs : List Int) (hl : xs.length ≤ 9223372036854775807) : RdI (w.alloc (.cells (xs.map (Value.int .i64)).toArray 3)) (.slice (some ⟨g, 0, none⟩) xs.length xs.length) xs := by
  subst hg
  refine ⟨some ⟨w.heap.size, 0, none⟩, _, rfl, Nat.le_refl _, hl, by simp, fun _ => ⟨w.heap.size, 0, rfl, by simp, fun j u hu => ?_⟩⟩
  rw [cell_of_row _ _ (0 + j) _ _ _ (heap_alloc_new w _)]
  simpa using hu
theorem rdS_row (w : World) (g : Nat) (hg : w.heap.size = g) (l : List PStep) (hl : l.length ≤ 9223372036854775807) : RdS (w.alloc (.cells (stepsCells l).toArray 42)) (.slice (some ⟨g, 0, none⟩) l.length l.length) l := by
  subst hg
  refine ⟨some ⟨w.heap.size, 0, none⟩, _, rfl, Nat.le_refl _, hl, stepsCells_length l, fun _ => ⟨w.heap.size, 0, rfl, by simp, fun j u hu => ?_⟩⟩
  rw [cell_of_row _ _ (0 + j) _ _ _ (heap_alloc_new w _)]
  simpa using hu
theorem rdL_two (w : World) (g : Nat) (hg : w.heap.size = g) (v1 v2 : Value) (l1 l2 : List Int) (h1 : RdI w v1 l1) (h2 : RdI w v2 l2) : RdL (w.alloc (.cells #[v1, v2] 23)) (.slice (some ⟨g, 0, none⟩) 2 2) [l1, l2] := by
  subst hg
  have hb : Below w.heap.size w (w.alloc (.cells #[v1, v2] 23)) := (Below.refl _ _).alloc (Nat.le_refl _) _
  refine ⟨[v1, v2], ⟨some ⟨w.heap.size, 0, none⟩, _, rfl, Nat.le_refl _, by decide, rfl, fun _ => ⟨w.heap.size, 0, rfl, by simp, fun j u hu => ?_⟩⟩, rfl, fun i u l hu hl => ?_⟩
  · rw [cell_of_row _ _ (0 + j) _ _ _ (heap_alloc_new w _)]
    simpa using hu
  · match i, hu, hl with
    | 0, hu, hl => simp at hu hl; subst hu; subst hl; exact h1.below hb
    | 1, hu, hl => simp at hu hl; subst hu; subst hl; exact h2.below hb
end Go.Proofs.Ytcmfgblfgldonaa
