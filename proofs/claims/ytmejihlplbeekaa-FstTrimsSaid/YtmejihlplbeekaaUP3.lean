/-
  Trim, plain laws: what is trimmed passes Check, is whole, is trimmed already, and accepts the same pairs.
-/
import Derived.Test.YtmejihlplbeekaaUP2
import Derived.Test.YtmejihlplbeekaaPl1
import Derived.Test.YtmejihlplbeekaaU5
namespace Go.Proofs.Ytmejihlplbeekaa
def Fwd (F : PFst) (q : Int) : Prop := Rch F.arcs false (fun y => y ∈ [(0 : Int)]) q
def Bwd (F : PFst) (q : Int) : Prop := Rch F.arcs true (fun y => y ∈ F.final) q
theorem use_of {F : PFst} {q : Int} (h0 : 0 ≤ q) : useB F q.toNat = true ↔ Fwd F q ∧ Bwd F q := by
  rw [useB_iff, Int.toNat_of_nonneg h0]; exact Iff.rfl
theorem fwd_zero (F : PFst) : Fwd F 0 := .base 0 (by simp)
theorem fwd_arc {F : PFst} {a : PArc} (ha : a ∈ F.arcs) (h : Fwd F a.fr) : Fwd F a.tgt := Rch.step (d := false) a ha h
theorem bwd_fin {F : PFst} {q : Int} (h : q ∈ F.final) : Bwd F q := .base q h
theorem bwd_arc {F : PFst} {a : PArc} (ha : a ∈ F.arcs) (h : Bwd F a.tgt) : Bwd F a.fr := Rch.step (d := true) a ha h
theorem Fwd.back {F : PFst} {q : Int} (h : Fwd F q) : Bwd F q → Bwd F 0 := by
  unfold Fwd at h
  induction h with
  | base q hq => intro h; have e : q = 0 := by simpa using hq
                 rwa [e] at h
  | step a ha _ ih => intro h; exact ih (bwd_arc ha h)
theorem use_zero {F : PFst} {q : Nat} (h : useB F q = true) : useB F 0 = true := by
  obtain ⟨h1, h2⟩ := useB_iff.1 h
  exact useB_iff.2 ⟨fwd_zero F, Fwd.back h1 h2⟩
theorem cnt_mono (F : PFst) {p q : Nat} (h : p ≤ q) : cntU F p ≤ cntU F q := by
  induction q with
  | zero => rw [show p = 0 by omega]; exact Nat.le_refl _
  | succ q ih =>
    rw [cntU_succ]
    by_cases e : p = q + 1
    · rw [e, cntU_succ]; exact Nat.le_refl _
    · have := ih (by omega); omega
theorem cnt_lt (F : PFst) {p q : Nat} (h : p < q) (hu : useB F p = true) (h1 : 1 ≤ p) : cntU F p < cntU F q := by
  have := cnt_mono F (show p + 1 ≤ q from h)
  rw [cntU_succ, if_pos ⟨hu, h1⟩] at this
  omega
theorem cnt_top (F : PFst) (q : Nat) : cntU F (q + 1) ≤ q := by
  induction q with
  | zero => rw [cntU_succ, if_neg (by omega)]; exact cntU_le F 0
  | succ q ih => rw [cntU_succ]; split <;> omega
theorem num_lt (F : PFst) {p q : Nat} (h : p < q) (hu : useB F p = true) : numU F p < numU F q := by
  unfold numU
  rw [if_neg (show ¬ q = 0 by omega)]
  by_cases e : p = 0
  · rw [if_pos e]; omega
  · rw [if_neg e]
    have := cnt_lt F h hu (by omega)
    omega
theorem num_inj (F : PFst) {p q : Nat} (hp : useB F p = true) (hq : useB F q = true) (h : numU F p = numU F q) : p = q := by
  rcases Nat.lt_trichotomy p q with h1 | h1 | h1
  · have := num_lt F h1 hp; omega
  · exact h1
  · have := num_lt F h1 hq; omega
theorem num_top (F : PFst) {q S : Nat} (h : q < S) (hu : useB F q = true) : 0 ≤ numU F q ∧ numU F q < 1 + (cntU F S : Int) := by
  refine ⟨(numU_bd F q).1, ?_⟩
  unfold numU
  by_cases e : q = 0
  · rw [if_pos e]; omega
  · rw [if_neg e]
    have := cnt_lt F h hu (by omega)
    omega
theorem num_sur (F : PFst) (h0 : useB F 0 = true) : ∀ (k : Nat) (p : Nat), p < 1 + cntU F k → ∃ q : Nat, (q < k ∨ q = 0) ∧ useB F q = true ∧ numU F q = (p : Int) := by
  intro k
  induction k with
  | zero =>
    intro p hp
    have := cntU_le F 0
    exact ⟨0, .inr rfl, h0, by simp [numU]; omega⟩
  | succ k ih =>
    intro p hp
    by_cases h : p < 1 + cntU F k
    · obtain ⟨q, h1, h2, h3⟩ := ih p h
      exact ⟨q, by omega, h2, h3⟩
    · rw [cntU_succ] at hp
      by_cases hu : useB F k = true ∧ 1 ≤ k
      · rw [if_pos hu] at hp
        refine ⟨k, .inl (by omega), hu.1, ?_⟩
        unfold numU
        rw [if_neg (by omega)]
        omega
      · rw [if_neg hu] at hp; omega
theorem mem_trimA {F : PFst} {L : List PArc} {b : PArc} : b ∈ trimA F L ↔ ∃ a, a ∈ L ∧ useB F a.fr.toNat = true ∧ useB F a.tgt.toNat = true ∧ b = ⟨numU F a.fr.toNat, a.inp, a.out, numU F a.tgt.toNat⟩ := by
  unfold trimA
  simp only [List.mem_map, List.mem_filter, Bool.and_eq_true]
  constructor
  · rintro ⟨a, ⟨h1, h2, h3⟩, rfl⟩; exact ⟨a, h1, h2, h3, rfl⟩
  · rintro ⟨a, h1, h2, h3, rfl⟩; exact ⟨a, ⟨h1, h2, h3⟩, rfl⟩
theorem mem_trimE {F : PFst} {l : List Int} {y : Int} : y ∈ trimE F l ↔ ∃ q, q ∈ l ∧ useB F q.toNat = true ∧ y = numU F q.toNat := by
  unfold trimE
  simp only [List.mem_map, List.mem_filter]
  constructor
  · rintro ⟨q, ⟨h1, h2⟩, rfl⟩; exact ⟨q, h1, h2, rfl⟩
  · rintro ⟨q, h1, h2, rfl⟩; exact ⟨q, ⟨h1, h2⟩, rfl⟩
theorem trim_good {F : PFst} (h : Good F) : Good (trimF F) := by
  have hS : ∃ S : Nat, F.states.toNat = S + 1 := ⟨F.states.toNat - 1, by have := h.s1; omega⟩
  obtain ⟨S, hS⟩ := hS
  refine ⟨?_, ?_, ?_, ?_, ?_, ?_⟩
  · show 1 ≤ 1 + (cntU F F.states.toNat : Int); omega
  · show 1 + (cntU F F.states.toNat : Int) ≤ 4096
    have := cnt_top F S
    have := h.s2
    rw [hS]; omega
  · exact Nat.le_trans (trimA_len F F.arcs) h.len
  · intro b hb
    obtain ⟨a, ha, h1, h2, rfl⟩ := mem_trimA.1 hb
    obtain ⟨⟨p1, p2⟩, ⟨p3, p4⟩, p5, p6⟩ := h.arc a ha
    exact ⟨num_top F (by omega) h1, num_top F (by omega) h2, p5, p6⟩
  · show (trimE F F.final).Pairwise (· < ·)
    unfold trimE
    rw [List.pairwise_map]
    refine (h.ord.filter (p := fun q : Int => useB F q.toNat)).imp_of_mem ?_
    intro x y hx hy hxy
    obtain ⟨hx1, hx2⟩ := List.mem_filter.1 hx
    have := h.fin x hx1
    exact num_lt F (by omega) hx2
  · intro y hy
    obtain ⟨q, hq, h1, rfl⟩ := mem_trimE.1 hy
    have := h.fin q hq
    exact num_top F (by omega) h1
theorem trim_fwd {F : PFst} (hF : Good F) {q : Int} (h : Fwd F q) : Bwd F q → Fwd (trimF F) (numU F q.toNat) := by
  unfold Fwd at h
  induction h with
  | base q hq =>
    intro _
    have e : q = 0 := by simpa using hq
    rw [e]; exact fwd_zero _
  | step a ha h ih =>
    intro hb
    have hb2 := bwd_arc ha hb
    have h3 := ih hb2
    have hr := hF.arc a ha
    have hm : (⟨numU F a.fr.toNat, a.inp, a.out, numU F a.tgt.toNat⟩ : PArc) ∈ (trimF F).arcs := mem_trimA.2 ⟨a, ha, (use_of hr.1.1).2 ⟨h, hb2⟩, (use_of hr.2.1.1).2 ⟨fwd_arc ha h, hb⟩, rfl⟩
    exact fwd_arc (F := trimF F) hm h3
theorem trim_bwd {F : PFst} (hF : Good F) {q : Int} (h : Bwd F q) : Fwd F q → Bwd (trimF F) (numU F q.toNat) := by
  have hq0 : Bwd F q := h
  unfold Bwd at h
  induction h with
  | base q hq =>
    intro hf
    refine bwd_fin (F := trimF F) (mem_trimE.2 ⟨q, hq, (use_of (hF.fin q hq).1).2 ⟨hf, bwd_fin hq⟩, rfl⟩)
  | step a ha h ih =>
    intro hf
    have h3 := ih h (fwd_arc ha hf)
    have hr := hF.arc a ha
    have hm : (⟨numU F a.fr.toNat, a.inp, a.out, numU F a.tgt.toNat⟩ : PArc) ∈ (trimF F).arcs := mem_trimA.2 ⟨a, ha, (use_of hr.1.1).2 ⟨hf, bwd_arc ha h⟩, (use_of hr.2.1.1).2 ⟨fwd_arc ha hf, h⟩, rfl⟩
    exact bwd_arc (F := trimF F) hm h3
/-- of what is trimmed, every state is useful, if any was -/
theorem trim_all {F : PFst} (hF : Good F) (h0 : useB F 0 = true) (p : Nat) (hp : (p : Int) < (trimF F).states) : useB (trimF F) p = true := by
  have hp' : (p : Int) < 1 + (cntU F F.states.toNat : Int) := hp
  obtain ⟨q, _, hu, hn⟩ := num_sur F h0 F.states.toNat p (by omega)
  obtain ⟨h1, h2⟩ := useB_iff.1 hu
  have h3 := trim_fwd hF h1 h2
  have h4 := trim_bwd hF h2 h1
  rw [Int.toNat_natCast, hn] at h3 h4
  exact useB_iff.2 ⟨h3, h4⟩
theorem useK_whole {G : PFst} : ∀ (k : Nat), (∀ q, q < k → useB G q = true) → (useK G k).length = k := by
  intro k
  induction k with
  | zero => intro _; rfl
  | succ k ih => intro h; rw [useK_succ, List.length_append, ih fun q hq => h q (by omega), h k (by omega)]; rfl
theorem cnt_whole {G : PFst} : ∀ (k : Nat), (∀ q, q < k → useB G q = true) → cntU G k = k - 1 := by
  intro k
  induction k with
  | zero => intro _; have := cntU_le G 0; omega
  | succ k ih =>
    intro h
    rw [cntU_succ, ih fun q hq => h q (by omega)]
    by_cases e : 1 ≤ k
    · rw [if_pos ⟨h k (by omega), e⟩]; omega
    · rw [if_neg (by omega)]; omega
theorem num_whole {G : PFst} {S q : Nat} (h : ∀ q, q < S → useB G q = true) (hq : q < S) : numU G q = (q : Int) := by
  unfold numU
  rw [cnt_whole q fun r hr => h r (by omega)]
  by_cases e : q = 0
  · rw [if_pos e, e]; rfl
  · rw [if_neg e]; omega
theorem trim_whole {G : PFst} (hG : Good G) (h : ∀ q : Nat, (q : Int) < G.states → useB G q = true) : trimF G = G := by
  have h1 := hG.s1
  have hS : ∀ q, q < G.states.toNat → useB G q = true := fun q hq => h q (by omega)
  obtain ⟨S, L, E⟩ := G
  have e1 : (1 + (cntU ⟨S, L, E⟩ S.toNat : Int)) = S := by
    have h1 : 1 ≤ S := h1
    rw [show cntU ⟨S, L, E⟩ S.toNat = S.toNat - 1 from cnt_whole S.toNat hS]; omega
  have e2 : trimA ⟨S, L, E⟩ L = L := by
    unfold trimA
    rw [List.filter_eq_self.2]
    · have : ∀ a, a ∈ L → (⟨numU ⟨S, L, E⟩ a.fr.toNat, a.inp, a.out, numU ⟨S, L, E⟩ a.tgt.toNat⟩ : PArc) = a := by
        intro a ha
        have hr := hG.arc a ha
        obtain ⟨⟨p1, p2⟩, ⟨p3, p4⟩, _⟩ := hr
        simp only at p2 p4
        rw [num_whole hS (show a.fr.toNat < S.toNat by omega), num_whole hS (show a.tgt.toNat < S.toNat by omega), Int.toNat_of_nonneg p1, Int.toNat_of_nonneg p3]
      exact (List.map_congr_left this).trans (List.map_id' L)
    · intro a ha
      obtain ⟨⟨p1, p2⟩, ⟨p3, p4⟩, _⟩ := hG.arc a ha
      simp only at p2 p4
      rw [h a.fr.toNat (show _ < S by omega), h a.tgt.toNat (show _ < S by omega)]; rfl
  have e3 : trimE ⟨S, L, E⟩ E = E := by
    unfold trimE
    rw [List.filter_eq_self.2]
    · have : ∀ q, q ∈ E → numU ⟨S, L, E⟩ q.toNat = q := by
        intro q hq
        obtain ⟨p1, p2⟩ := hG.fin q hq
        simp only at p2
        rw [num_whole hS (show q.toNat < S.toNat by omega), Int.toNat_of_nonneg p1]
      exact (List.map_congr_left this).trans (List.map_id' E)
    · intro q hq
      obtain ⟨p1, p2⟩ := hG.fin q hq
      simp only at p2
      exact h q.toNat (show _ < S by omega)
  unfold trimF
  simp only
  rw [e1, e2, e3]
theorem useK_zero {F : PFst} : ∀ (k : Nat), 0 < k → useB F 0 = true → (useK F k).length = 1 + cntU F k := by
  intro k
  induction k with
  | zero => intro h; omega
  | succ k ih =>
    intro _ h
    rw [useK_succ, cntU_succ, List.length_append]
    by_cases e : k = 0
    · subst e
      have := cntU_le F 0
      rw [h]
      simp [useK]
      omega
    · rw [ih (by omega) h]
      cases useB F k
      · simp
      · rw [if_pos rfl, if_pos ⟨rfl, by omega⟩]; simp; omega
theorem empty_iff {F : PFst} (h : 1 ≤ F.states) : emptyB F = false ↔ useB F 0 = true := by
  unfold emptyB usefulL
  constructor
  · intro h2
    have h3 : (useK F F.states.toNat) ≠ [] := by intro h4; rw [h4] at h2; simp at h2
    obtain ⟨x, hx⟩ := List.exists_mem_of_ne_nil _ h3
    obtain ⟨q, _, _, hu⟩ := mem_useK.1 hx
    exact use_zero hu
  · intro h2
    rw [useK_zero _ (by omega) h2]
    simp; omega
theorem empty_trim {F : PFst} (hF : Good F) : emptyB (trimF F) = emptyB F := by
  cases h : emptyB F
  · have h0 := (empty_iff hF.s1).1 h
    exact (empty_iff (trim_good hF).s1).2 (trim_all hF h0 0 (by have := (trim_good hF).s1; omega))
  · rw [← Bool.not_eq_false]
    intro h2
    have h3 := (empty_iff (trim_good hF).s1).1 h2
    obtain ⟨_, h4⟩ := useB_iff.1 h3
    have : ∃ y, y ∈ (trimF F).final := by
      have h5 : ∀ z, Bwd (trimF F) z → ∃ y, y ∈ (trimF F).final := by
        intro z hz
        unfold Bwd at hz
        induction hz with
        | base q hq => exact ⟨q, hq⟩
        | step _ _ _ ih => exact ih
      exact h5 _ h4
    obtain ⟨y, hy⟩ := this
    obtain ⟨q, _, hu, _⟩ := mem_trimE.1 hy
    rw [(empty_iff hF.s1).2 (use_zero hu)] at h
    cases h
theorem trim_none {F : PFst} (hF : Good F) (h : emptyB F = true) : trimF F = ⟨1, [], []⟩ := by
  have hn : ∀ q, useB F q = false := fun q => by
    rw [← Bool.not_eq_true]
    intro hu
    rw [(empty_iff hF.s1).2 (use_zero hu)] at h
    cases h
  have hc : ∀ k, cntU F k = 0 := by
    intro k
    induction k with
    | zero => have := cntU_le F 0; omega
    | succ k ih => rw [cntU_succ, ih, if_neg (by rw [hn k]; rintro ⟨h, _⟩; cases h)]
  unfold trimF trimA trimE
  rw [hc]
  simp [hn]
theorem trim_two {F : PFst} (hF : Good F) : trimF (trimF F) = trimF F := by
  cases h : emptyB F
  · exact trim_whole (trim_good hF) (trim_all hF ((empty_iff hF.s1).1 h))
  · have h2 := trim_none (trim_good hF) (by rw [empty_trim hF, h])
    rw [h2, trim_none hF h]
theorem use_len {F : PFst} (hF : Good F) (h : emptyB F = false) : (((usefulL F).length : Nat) : Int) = (trimF F).states ∧ (((usefulL (trimF F)).length : Nat) : Int) = (trimF F).states := by
  have h0 := (empty_iff hF.s1).1 h
  have hs := hF.s1
  refine ⟨?_, ?_⟩
  · unfold usefulL
    rw [useK_zero _ (by omega) h0]
    show ((1 + cntU F F.states.toNat : Nat) : Int) = 1 + (cntU F F.states.toNat : Int)
    omega
  · unfold usefulL
    have hs2 := (trim_good hF).s1
    rw [useK_whole _ (fun q hq => trim_all hF h0 q (by omega))]
    omega
theorem path_fwd {F : PFst} {s t : Int} {xs ys : List Int} (h : Path F.arcs s t xs ys) : Fwd F s → Fwd F t := by
  refine Path.induct (P := fun s _ _ => Fwd F s → Fwd F t) (fun h => h) ?_ h
  intro a ha _ _ _ ih hs
  exact ih (fwd_arc ha hs)
theorem path_bwd {F : PFst} {s t : Int} {xs ys : List Int} (h : Path F.arcs s t xs ys) (ht : Bwd F t) : Bwd F s := by
  refine Path.induct (P := fun s _ _ => Bwd F s) ht ?_ h
  intro a ha _ _ _ ih
  exact bwd_arc ha ih
theorem path_to {F : PFst} (hF : Good F) {s t : Int} {xs ys : List Int} (ht : t ∈ F.final) (h : Path F.arcs s t xs ys) : Fwd F s → Path (trimF F).arcs (numU F s.toNat) (numU F t.toNat) xs ys := by
  refine Path.induct (P := fun s xs ys => Fwd F s → Path (trimF F).arcs (numU F s.toNat) (numU F t.toNat) xs ys) (fun _ => Path.nil _ _) ?_ h
  intro a ha xs ys hp ih hs
  have hf := fwd_arc ha hs
  have hb := path_bwd hp (bwd_fin ht)
  have hr := hF.arc a ha
  have hm : (⟨numU F a.fr.toNat, a.inp, a.out, numU F a.tgt.toNat⟩ : PArc) ∈ (trimF F).arcs := mem_trimA.2 ⟨a, ha, (use_of hr.1.1).2 ⟨hs, bwd_arc ha hb⟩, (use_of hr.2.1.1).2 ⟨hf, hb⟩, rfl⟩
  exact Path.cons hm (ih hf)
theorem path_from {F : PFst} (hF : Good F) {t : Int} (ht : 0 ≤ t) (hu : useB F t.toNat = true) {p : Int} {xs ys : List Int} (h : Path (trimF F).arcs p (numU F t.toNat) xs ys) : ∀ q : Int, 0 ≤ q → useB F q.toNat = true → numU F q.toNat = p → Path F.arcs q t xs ys := by
  refine Path.induct (P := fun p xs ys => ∀ q : Int, 0 ≤ q → useB F q.toNat = true → numU F q.toNat = p → Path F.arcs q t xs ys) ?_ ?_ h
  · intro q h0 hq he
    have := num_inj F hq hu he
    rw [show q = t by omega]
    exact Path.nil _ _
  · intro b hb xs ys _ ih q h0 hq he
    obtain ⟨a, ha, h1, h2, rfl⟩ := mem_trimA.1 hb
    have := num_inj F hq h1 he
    have hr := hF.arc a ha
    have h3 := hr.1.1
    rw [show q = a.fr by omega]
    exact Path.cons ha (ih a.tgt hr.2.1.1 h2 rfl)
theorem trim_acc {F : PFst} (hF : Good F) (xs ys : List Int) : accB (trimF F) xs ys = accB F xs ys := by
  rw [Bool.eq_iff_iff, accB_iff, accB_iff]
  constructor
  · rintro ⟨hx, hy, t', ht', hp⟩
    obtain ⟨t, ht, hu, rfl⟩ := mem_trimE.1 ht'
    exact ⟨hx, hy, t, ht, path_from hF (hF.fin t ht).1 hu hp 0 (by omega) (use_zero hu) (by simp [numU])⟩
  · rintro ⟨hx, hy, t, ht, hp⟩
    have hb := bwd_fin ht
    have hf := path_fwd hp (fwd_zero F)
    have h := path_to hF ht hp (fwd_zero F)
    rw [show numU F (0 : Int).toNat = 0 by simp [numU]] at h
    exact ⟨hx, hy, _, mem_trimE.2 ⟨t, ht, (use_of (hF.fin t ht).1).2 ⟨hf, hb⟩, rfl⟩, h⟩
theorem acc_none {F : PFst} (hF : Good F) (h : emptyB F = true) (xs ys : List Int) : accB F xs ys = false := by
  rw [← trim_acc hF, trim_none hF h, ← Bool.not_eq_true, accB_iff]
  rintro ⟨_, _, t, ht, _⟩
  cases ht
end Go.Proofs.Ytmejihlplbeekaa
