/-
  The part of older texts that this seat needs (printed by shake.py): UP3
-/
import Derived.Test.YtdijlakeonionaaZ6
import Derived.Test.YtdijlakeonionaaZ5
import Derived.Test.YtdijlakeonionaaZ1
/-
  Trim, plain laws: what is trimmed passes Check, is whole, is trimmed already, and accepts the same pairs.
-/
namespace Go.Proofs.Ytdijlakeonionaa
def Fwd (F : PFst) (q : Int) : Prop := Rch F.arcs false (fun y => y ∈ [(0 : Int)]) q
def Bwd (F : PFst) (q : Int) : Prop := Rch F.arcs true (fun y => y ∈ F.final) q
theorem use_of {F : PFst} {q : Int} (h0 : 0 ≤ q) : useB F q.toNat = true ↔ Fwd F q ∧ Bwd F q := by
  rw [useB_iff, Int.toNat_of_nonneg h0]; exact Iff.rfl
theorem fwd_zero (F : PFst) : Fwd F 0 := .base 0 (by simp)
theorem fwd_arc {F : PFst} {a : PArc} (ha : a ∈ F.arcs) (h : Fwd F a.fr) : Fwd F a.tgt := Rch.step (d := false) a ha h
theorem bwd_fin {F : PFst} {q : Int} (h : q ∈ F.final) : Bwd F q := .base q h
theorem bwd_arc {F : PFst} {a : PArc} (ha : a ∈ F.arcs) (h : Bwd F a.tgt) : Bwd F a.fr := Rch.step (d := true) a ha h
theorem Fwd.back {F : PFst} {q : Int} (h : Fwd F q) : Bwd F q → Bwd F 0 := by
  unfold Fwd at h
  induction h with
  | base q hq => intro h; have e : q = 0 := by simpa using hq
                 rwa [e] at h
  | step a ha _ ih => intro h; exact ih (bwd_arc ha h)
theorem use_zero {F : PFst} {q : Nat} (h : useB F q = true) : useB F 0 = true := by
  obtain ⟨h1, h2⟩ := useB_iff.1 h
  exact useB_iff.2 ⟨fwd_zero F, Fwd.back h1 h2⟩
theorem cnt_mono (F : PFst) {p q : Nat} (h : p ≤ q) : cntU F p ≤ cntU F q := by
  induction q with
  | zero => rw [show p = 0 by omega]; exact Nat.le_refl _
  | succ q ih =>
    rw [cntU_succ]
    by_cases e : p = q + 1
    · rw [e, cntU_succ]; exact Nat.le_refl _
    · have := ih (by omega); omega
theorem cnt_lt (F : PFst) {p q : Nat} (h : p < q) (hu : useB F p = true) (h1 : 1 ≤ p) : cntU F p < cntU F q := by
  have := cnt_mono F (show p + 1 ≤ q from h)
  rw [cntU_succ, if_pos ⟨hu, h1⟩] at this
  omega
theorem cnt_top (F : PFst) (q : Nat) : cntU F (q + 1) ≤ q := by
  induction q with
  | zero => rw [cntU_succ, if_neg (by omega)]; exact cntU_le F 0
  | succ q ih => rw [cntU_succ]; split <;> omega
theorem num_lt (F : PFst) {p q : Nat} (h : p < q) (hu : useB F p = true) : numU F p < numU F q := by
  unfold numU
  rw [if_neg (show ¬ q = 0 by omega)]
  by_cases e : p = 0
  · rw [if_pos e]; omega
  · rw [if_neg e]
    have := cnt_lt F h hu (by omega)
    omega
theorem num_inj (F : PFst) {p q : Nat} (hp : useB F p = true) (hq : useB F q = true) (h : numU F p = numU F q) : p = q := by
  rcases Nat.lt_trichotomy p q with h1 | h1 | h1
  · have := num_lt F h1 hp; omega
  · exact h1
  · have := num_lt F h1 hq; omega
theorem num_top (F : PFst) {q S : Nat} (h : q < S) (hu : useB F q = true) : 0 ≤ numU F q ∧ numU F q < 1 + (cntU F S : Int) := by
  refine ⟨(numU_bd F q).1, ?_⟩
  unfold numU
  by_cases e : q = 0
  · rw [if_pos e]; omega
  · rw [if_neg e]
    have := cnt_lt F h hu (by omega)
    omega
theorem mem_trimA {F : PFst} {L : List PArc} {b : PArc} : b ∈ trimA F L ↔ ∃ a, a ∈ L ∧ useB F a.fr.toNat = true ∧ useB F a.tgt.toNat = true ∧ b = ⟨numU F a.fr.toNat, a.inp, a.out, numU F a.tgt.toNat⟩ := by
  unfold trimA
  simp only [List.mem_map, List.mem_filter, Bool.and_eq_true]
  constructor
  · rintro ⟨a, ⟨h1, h2, h3⟩, rfl⟩; exact ⟨a, h1, h2, h3, rfl⟩
  · rintro ⟨a, h1, h2, h3, rfl⟩; exact ⟨a, ⟨h1, h2, h3⟩, rfl⟩
theorem mem_trimE {F : PFst} {l : List Int} {y : Int} : y ∈ trimE F l ↔ ∃ q, q ∈ l ∧ useB F q.toNat = true ∧ y = numU F q.toNat := by
  unfold trimE
  simp only [List.mem_map, List.mem_filter]
  constructor
  · rintro ⟨q, ⟨h1, h2⟩, rfl⟩; exact ⟨q, h1, h2, rfl⟩
  · rintro ⟨q, h1, h2, rfl⟩; exact ⟨q, ⟨h1, h2⟩, rfl⟩
theorem trim_good {F : PFst} (h : Good F) : Good (trimF F) := by
  have hS : ∃ S : Nat, F.states.toNat = S + 1 := ⟨F.states.toNat - 1, by have := h.s1; omega⟩
  obtain ⟨S, hS⟩ := hS
  refine ⟨?_, ?_, ?_, ?_, ?_, ?_⟩
  · show 1 ≤ 1 + (cntU F F.states.toNat : Int); omega
  · show 1 + (cntU F F.states.toNat : Int) ≤ 4096
    have := cnt_top F S
    have := h.s2
    rw [hS]; omega
  · exact Nat.le_trans (trimA_len F F.arcs) h.len
  · intro b hb
    obtain ⟨a, ha, h1, h2, rfl⟩ := mem_trimA.1 hb
    obtain ⟨⟨p1, p2⟩, ⟨p3, p4⟩, p5, p6⟩ := h.arc a ha
    exact ⟨num_top F (by omega) h1, num_top F (by omega) h2, p5, p6⟩
  · show (trimE F F.final).Pairwise (· < ·)
    unfold trimE
    rw [List.pairwise_map]
    refine (h.ord.filter (p := fun q : Int => useB F q.toNat)).imp_of_mem ?_
    intro x y hx hy hxy
    obtain ⟨hx1, hx2⟩ := List.mem_filter.1 hx
    have := h.fin x hx1
    exact num_lt F (by omega) hx2
  · intro y hy
    obtain ⟨q, hq, h1, rfl⟩ := mem_trimE.1 hy
    have := h.fin q hq
    exact num_top F (by omega) h1
theorem path_fwd {F : PFst} {s t : Int} {xs ys : List Int} (h : Path F.arcs s t xs ys) : Fwd F s → Fwd F t := by
  refine Path.induct (P := fun s _ _ => Fwd F s → Fwd F t) (fun h => h) ?_ h
  intro a ha _ _ _ ih hs
  exact ih (fwd_arc ha hs)
theorem path_bwd {F : PFst} {s t : Int} {xs ys : List Int} (h : Path F.arcs s t xs ys) (ht : Bwd F t) : Bwd F s := by
  refine Path.induct (P := fun s _ _ => Bwd F s) ht ?_ h
  intro a ha _ _ _ ih
  exact bwd_arc ha ih
theorem path_to {F : PFst} (hF : Good F) {s t : Int} {xs ys : List Int} (ht : t ∈ F.final) (h : Path F.arcs s t xs ys) : Fwd F s → Path (trimF F).arcs (numU F s.toNat) (numU F t.toNat) xs ys := by
  refine Path.induct (P := fun s xs ys => Fwd F s → Path (trimF F).arcs (numU F s.toNat) (numU F t.toNat) xs ys) (fun _ => Path.nil _ _) ?_ h
  intro a ha xs ys hp ih hs
  have hf := fwd_arc ha hs
  have hb := path_bwd hp (bwd_fin ht)
  have hr := hF.arc a ha
  have hm : (⟨numU F a.fr.toNat, a.inp, a.out, numU F a.tgt.toNat⟩ : PArc) ∈ (trimF F).arcs := mem_trimA.2 ⟨a, ha, (use_of hr.1.1).2 ⟨hs, bwd_arc ha hb⟩, (use_of hr.2.1.1).2 ⟨hf, hb⟩, rfl⟩
  exact Path.cons hm (ih hf)
theorem path_from {F : PFst} (hF : Good F) {t : Int} (ht : 0 ≤ t) (hu : useB F t.toNat = true) {p : Int} {xs ys : List Int} (h : Path (trimF F).arcs p (numU F t.toNat) xs ys) : ∀ q : Int, 0 ≤ q → useB F q.toNat = true → numU F q.toNat = p → Path F.arcs q t xs ys := by
  refine Path.induct (P := fun p xs ys => ∀ q : Int, 0 ≤ q → useB F q.toNat = true → numU F q.toNat = p → Path F.arcs q t xs ys) ?_ ?_ h
  · intro q h0 hq he
    have := num_inj F hq hu he
    rw [show q = t by omega]
    exact Path.nil _ _
  · intro b hb xs ys _ ih q h0 hq he
    obtain ⟨a, ha, h1, h2, rfl⟩ := mem_trimA.1 hb
    have := num_inj F hq h1 he
    have hr := hF.arc a ha
    have h3 := hr.1.1
    rw [show q = a.fr by omega]
    exact Path.cons ha (ih a.tgt hr.2.1.1 h2 rfl)
theorem trim_acc {F : PFst} (hF : Good F) (xs ys : List Int) : accB (trimF F) xs ys = accB F xs ys := by
  rw [Bool.eq_iff_iff, accB_iff, accB_iff]
  constructor
  · rintro ⟨hx, hy, t', ht', hp⟩
    obtain ⟨t, ht, hu, rfl⟩ := mem_trimE.1 ht'
    exact ⟨hx, hy, t, ht, path_from hF (hF.fin t ht).1 hu hp 0 (by omega) (use_zero hu) (by simp [numU])⟩
  · rintro ⟨hx, hy, t, ht, hp⟩
    have hb := bwd_fin ht
    have hf := path_fwd hp (fwd_zero F)
    have h := path_to hF ht hp (fwd_zero F)
    rw [show numU F (0 : Int).toNat = 0 by simp [numU]] at h
    exact ⟨hx, hy, _, mem_trimE.2 ⟨t, ht, (use_of (hF.fin t ht).1).2 ⟨hf, hb⟩, rfl⟩, h⟩
end Go.Proofs.Ytdijlakeonionaa

