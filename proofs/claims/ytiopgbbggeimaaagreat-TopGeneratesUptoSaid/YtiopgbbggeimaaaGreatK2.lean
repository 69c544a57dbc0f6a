/-
  Word of phoneme and of its reference.
-/
import Derived.Test.YtiopgbbggeimaaaGreatK1
namespace Go.Proofs.YtiopgbbggeimaaaGreat
open Go.ChangeShapes Go.WideShapes Go.ChangeAt Go.RowKit
theorem rdV_form {w : World} {v : Value} {I : List PPh} (h : RdVQ w v I) : ∃ A n c, v = .agg #[.slice A n c] := by
  obtain ⟨u, rfl, hp⟩ := h
  obtain ⟨A, n, c, rfl, _, _, _, _⟩ := hp.op
  exact ⟨A, n, c, rfl⟩
/-- the answer of Word -/
def wordC (I : List PPh) (l : List Int) : Int := if l = [] then 4 else if 24 < l.length then 5 else if l.all (isB I) then 0 else 19
theorem wordC_ok {I : List PPh} {l : List Int} : wordC I l = 0 ↔ l ≠ [] ∧ l.length ≤ 24 ∧ ∀ x ∈ l, isB I x = true := by
  rw [wordC]
  by_cases h1 : l = []
  · simp [h1]
  · by_cases h2 : 24 < l.length
    · simp only [if_neg h1, if_pos h2]; constructor
      · intro h; omega
      · intro h; omega
    · by_cases h3 : l.all (isB I) = true
      · simp only [if_neg h1, if_neg h2, if_pos h3, true_iff]
        exact ⟨h1, by omega, fun x hx => List.all_eq_true.1 h3 x hx⟩
      · simp only [if_neg h1, if_neg h2, if_neg h3]
        constructor
        · intro h; omega
        · intro h; exact absurd (List.all_eq_true.2 h.2.2) h3
theorem word1_any (I : List PPh) (x : Int) (B : Nat) (A : Option Addr) (n c : Nat) (w : World) (hV : RdVQ w (.agg #[.slice A n c]) I) (hB : VBlk w B (.slice A n c)) :
    Calls Tryz.prog 89 #[.int .i64 x, .pointer (some ⟨B, 0, none⟩)] w fun e w' => e = .returned (.bool (!isB I x)) ∧ Below w.heap.size w w' := by
  have y0 := hB.cell
  have y1 := hB.lt
  have HV := Lib.hid hV
  clear hB hV
  go_enter Tryz.func89, Tryz.ntmps89
  go_wp2_with fail
  clear y0 y1
  refine (seg_any _ I x _ HV.out).mono ?_
  rintro e w1 ⟨rfl, hb⟩
  have HB := Lib.hid hb
  clear hb
  go_wp2_with fail
  go_ret
  exact ⟨rfl, HB.out⟩
set_option maxHeartbeats 1000000 in
set_option maxRecDepth 100000 in
theorem pword_any (v u : Value) (I : List PPh) (l : List Int) (w : World) (hv : RdVQ w v I) (hu : RdI w u l) :
    Calls Tryz.prog 52 #[v, u] w fun e w' => e = .returned (.int .i64 (wordC I l)) ∧ Below w.heap.size w w' := by
  obtain ⟨A0, n0, c0, rfl⟩ := rdV_form hv
  have HV := Lib.hid hv
  have HU := Lib.hid hu
  obtain ⟨A, n, c, rfl, _, _, HN, _⟩ := hu.op
  clear hv hu
  obtain ⟨cc, hcc⟩ : ∃ x, wordC I l = x := ⟨_, rfl⟩
  have HC := Lib.hid hcc
  rw [hcc]
  clear hcc
  go_enter Tryz.func52, Tryz.ntmps52
  go_upto_region 1 with (fail)
  generalize hW : World.alloc w _ = W
  have HBW : Hid (Below w.heap.size w W) := by rw [← hW]; exact al_below _ _
  have HP : Hid (VBlk W w.heap.size (.slice A0 n0 c0)) := by rw [← hW]; exact heap_alloc_new w _
  clear hW
  by_cases h0 : n = 0
  · subst h0
    have HF : Hid (cc = 4) := by rw [Hid, ← HC.out, wordC, if_pos (List.eq_nil_of_length_eq_zero HN.out)]
    go_wp2_with fail
    go_ret
    exact ⟨by rw [HF.out]; rfl, HBW.out⟩
  have h0' : ¬ (n : Int) = 0 := by omega
  by_cases h1 : 24 < n
  · have d1 : (24 : Int) < (n : Int) := by omega
    have HF : Hid (cc = 5) := by rw [Hid, ← HC.out, wordC, if_neg (by intro h; rw [h] at HN; exact h0 HN.out.symm), if_pos (by rw [HN.out]; exact h1)]
    go_wp2_with fail
    go_ret
    exact ⟨by rw [HF.out]; rfl, HBW.out⟩
  have d1 : ¬ (24 : Int) < (n : Int) := by omega
  go_wp2_with fail
  refine (contI_any 89 (.pointer (some ⟨w.heap.size, 0, none⟩)) (fun x => !isB I x) _ l _ (HU.out.below HBW.out) (fun x W => by go_simp)
    (fun x w' h => word1_any I x w.heap.size A0 n0 c0 w' (HV.out.below (bchain HBW.out h)) (HP.out.below h))).mono ?_
  rintro e w1 ⟨rfl, hb⟩
  have HB1 := Lib.hid (bchain HBW.out hb)
  clear hb
  have HA : Hid (l.any (fun x => !isB I x) = !l.all (isB I)) := by rw [Hid, List.all_eq_not_any_not, Bool.not_not]
  rw [HA.out]
  cases ha : l.all (isB I)
  · have HF : Hid (cc = 19) := by rw [Hid, ← HC.out, wordC, if_neg (by intro h; rw [h] at HN; exact h0 HN.out.symm), if_neg (by rw [HN.out]; exact h1), ha]; rfl
    go_wp2_with fail
    go_ret
    exact ⟨by rw [HF.out]; rfl, HB1.out⟩
  · have HF : Hid (cc = 0) := by rw [Hid, ← HC.out, wordC, if_neg (by intro h; rw [h] at HN; exact h0 HN.out.symm), if_neg (by rw [HN.out]; exact h1), ha]; rfl
    go_wp2_with fail
    go_ret
    exact ⟨by rw [HF.out]; rfl, HB1.out⟩
end Go.Proofs.YtiopgbbggeimaaaGreat
