/-
  Plain laws of transducers: what Check asks; paths; Pair, Identity, Invert, Union, Concat. No program in sight.
-/
import Derived.Test.YtmejihlplbeekaaAcc
import Derived.Test.YtmejihlplbeekaaT3
namespace Go.Proofs.Ytmejihlplbeekaa

def ArcOk (S : Int) (a : PArc) : Prop := (0 ≤ a.fr ∧ a.fr < S) ∧ (0 ≤ a.tgt ∧ a.tgt < S) ∧ (0 ≤ a.inp ∧ a.inp ≤ 1099511627776) ∧ 0 ≤ a.out ∧ a.out ≤ 1099511627776
/-- what Check accepts -/
structure Good (F : PFst) : Prop where
  s1 : 1 ≤ F.states
  s2 : F.states ≤ 4096
  len : F.arcs.length ≤ 262144
  arc : ∀ a, a ∈ F.arcs → ArcOk F.states a
  ord : F.final.Pairwise (· < ·)
  fin : ∀ q, q ∈ F.final → 0 ≤ q ∧ q < F.states
theorem arcsErr_ok (n : Int) (l : List PArc) : arcsErr n l = 0 ↔ ∀ a, a ∈ l → ArcOk n a := by
  induction l with
  | nil => simp [arcsErr]
  | cons a l ih =>
    simp only [arcsErr, List.forall_mem_cons, ← ih]
    unfold ArcOk stateB symbolB
    by_cases h1 : (0 ≤ a.fr ∧ a.fr < n) <;> by_cases h2 : (0 ≤ a.tgt ∧ a.tgt < n) <;> by_cases h3 : (0 ≤ a.inp ∧ a.inp ≤ 1099511627776) <;> by_cases h4 : (0 ≤ a.out ∧ a.out ≤ 1099511627776) <;> simp [h1, h2, h3, h4]
theorem orderErr_ok (l : List Int) : orderErr l = 0 ↔ l.Pairwise (· < ·) := by
  induction l with
  | nil => simp [orderErr]
  | cons x l ih =>
    cases l with
    | nil => simp [orderErr]
    | cons y l =>
      rw [orderErr, List.pairwise_cons]
      by_cases h : y ≤ x
      · rw [if_pos h]
        refine ⟨fun h => by omega, fun h' => ?_⟩
        have := h'.1 y (by simp)
        omega
      · rw [if_neg h, ih]
        refine ⟨fun h' => ⟨?_, h'⟩, fun h' => h'.2⟩
        intro z hz
        rcases List.mem_cons.1 hz with rfl | hz
        · omega
        · have := (List.pairwise_cons.1 h').1 z hz; omega
theorem finalErr_ok (n : Int) (l : List Int) : finalErr n l = 0 ↔ ∀ q, q ∈ l → 0 ≤ q ∧ q < n := by
  induction l with
  | nil => simp [finalErr]
  | cons a l ih =>
    simp only [finalErr, List.forall_mem_cons, ← ih, stateB]
    by_cases h1 : (0 ≤ a ∧ a < n) <;> simp [h1]
theorem orderErr_cases (l : List Int) : orderErr l = 0 ∨ orderErr l = 10 := by
  induction l with
  | nil => simp [orderErr]
  | cons x l ih =>
    cases l with
    | nil => simp [orderErr]
    | cons y l => rw [orderErr]; split
                  · exact .inr rfl
                  · exact ih
theorem chk_ok (F : PFst) : chk F = 0 ↔ Good F := by
  unfold chk
  by_cases h1 : F.states < 1 ∨ 4096 < F.states
  · rw [if_pos h1]
    refine ⟨fun h => by omega, fun h => ?_⟩
    have := h.s1; have := h.s2; omega
  rw [if_neg h1]
  by_cases h2 : 262144 < F.arcs.length
  · rw [if_pos h2]
    refine ⟨fun h => by omega, fun h => ?_⟩
    have := h.len; omega
  rw [if_neg h2]
  by_cases h3 : arcsErr F.states F.arcs ≠ 0
  · rw [if_pos h3]
    exact ⟨fun h => absurd h h3, fun h => absurd ((arcsErr_ok _ _).2 h.arc) h3⟩
  rw [if_neg h3]
  have h3' : arcsErr F.states F.arcs = 0 := by simpa using h3
  by_cases h4 : orderErr F.final ≠ 0
  · rw [if_pos h4]
    exact ⟨fun h => by omega, fun h => absurd ((orderErr_ok _).2 h.ord) h4⟩
  rw [if_neg h4]
  have h4' : orderErr F.final = 0 := by simpa using h4
  exact ⟨fun h => ⟨by omega, by omega, by omega, (arcsErr_ok _ _).1 h3', (orderErr_ok _).1 h4', (finalErr_ok _ _).1 h⟩, fun h => (finalErr_ok _ _).2 h.fin⟩
theorem Good.right {F : PFst} (h : Good F) : Right F := ⟨h.s1, fun a ha => ⟨(h.arc a ha).1.1, (h.arc a ha).1.2, (h.arc a ha).2.1.1, (h.arc a ha).2.1.2⟩, h.fin⟩

theorem Path.cons {L : List PArc} {a : PArc} {t : Int} {xs ys : List Int} (ha : a ∈ L) (h : Path L a.tgt t xs ys) : Path L a.fr t (sym a.inp ++ xs) (sym a.out ++ ys) := (Path.one ha).trans h
theorem Path.induct {L : List PArc} {t : Int} {P : Int → List Int → List Int → Prop} (h0 : P t [] [])
    (h1 : ∀ a, a ∈ L → ∀ xs ys, Path L a.tgt t xs ys → P a.tgt xs ys → P a.fr (sym a.inp ++ xs) (sym a.out ++ ys)) {s : Int} {xs ys : List Int} (h : Path L s t xs ys) : P s xs ys := by
  obtain ⟨p, hp, hc, rfl, rfl⟩ := h
  induction p generalizing s with
  | nil => cases hc; exact h0
  | cons a p ih =>
    obtain ⟨rfl, hc⟩ := hc
    have hp' : ∀ b, b ∈ p → b ∈ L := fun b hb => hp b (by simp [hb])
    exact h1 a (hp a (by simp)) _ _ ⟨p, hp', hc, rfl, rfl⟩ (ih hp' hc)
/-- a path that starts in a part of the states that is never left -/
theorem Path.comp {L L' : List PArc} {C : Int → Prop} (hC : ∀ x, x ∈ L → C x.fr → x ∈ L' ∧ C x.tgt) {s t : Int} {xs ys : List Int} (h : Path L s t xs ys) : C s → Path L' s t xs ys ∧ C t := by
  refine Path.induct (P := fun s xs ys => C s → Path L' s t xs ys ∧ C t) (fun h => ⟨Path.nil _ _, h⟩) ?_ h
  intro a ha xs ys _ ih hs
  obtain ⟨h1, h2⟩ := hC a ha hs
  exact ⟨Path.cons h1 (ih h2).1, (ih h2).2⟩
theorem Path.map {L L' : List PArc} (f : PArc → PArc) (g : Int → Int) (hf : ∀ a, a ∈ L → f a ∈ L' ∧ (f a).fr = g a.fr ∧ (f a).tgt = g a.tgt ∧ (f a).inp = a.inp ∧ (f a).out = a.out) {s t : Int} {xs ys : List Int} (h : Path L s t xs ys) : Path L' (g s) (g t) xs ys := by
  refine Path.induct (P := fun s xs ys => Path L' (g s) (g t) xs ys) (Path.nil _ _) ?_ h
  intro a ha xs ys _ ih
  obtain ⟨h1, h2, h3, h4, h5⟩ := hf a ha
  rw [← h2, ← h4, ← h5]
  rw [← h3] at ih
  exact Path.cons h1 ih
theorem Path.sub {L L' : List PArc} (hs : ∀ a, a ∈ L → a ∈ L') {s t : Int} {xs ys : List Int} (h : Path L s t xs ys) : Path L' s t xs ys := by
  obtain ⟨p, h1, h2⟩ := h
  exact ⟨p, fun a ha => hs a (h1 a ha), h2⟩
theorem plain_sym (x : Int) (h : 0 ≤ x) : plainB (sym x) = true := by
  unfold sym plainB
  by_cases hx : x = 0
  · simp [hx]
  · simp [hx]; omega
theorem plain_append (l m : List Int) : plainB (l ++ m) = (plainB l && plainB m) := by simp [plainB]
theorem Path.plain {L : List PArc} (hL : ∀ a, a ∈ L → 0 ≤ a.inp ∧ 0 ≤ a.out) {s t : Int} {xs ys : List Int} (h : Path L s t xs ys) : plainB xs = true ∧ plainB ys = true := by
  refine Path.induct (P := fun _ xs ys => plainB xs = true ∧ plainB ys = true) ⟨rfl, rfl⟩ ?_ h
  intro a ha xs ys _ ih
  rw [plain_append, plain_append, ih.1, ih.2, plain_sym _ (hL a ha).1, plain_sym _ (hL a ha).2]
  exact ⟨rfl, rfl⟩
/-- acceptance of a right transducer is a path -/
theorem acc_iff {F : PFst} (h : Good F) (xs ys : List Int) : Acc F xs ys ↔ ∃ q, q ∈ F.final ∧ Path F.arcs 0 q xs ys := by
  refine ⟨fun h => h.2.2, fun ⟨q, hq, hp⟩ => ?_⟩
  have := hp.plain (fun a ha => ⟨(h.arc a ha).2.2.1.1, (h.arc a ha).2.2.2.1⟩)
  exact ⟨this.1, this.2, q, hq, hp⟩

/-! Pair -/
def atL (l : List Int) (i : Nat) : Int := l.getD i 0
def pairArc (xs ys : List Int) (i : Nat) : PArc := ⟨i, atL xs i, atL ys i, i + 1⟩
def pairArcs (xs ys : List Int) (k : Nat) : List PArc := (List.range k).map (pairArc xs ys)
theorem pairArcs_succ (xs ys : List Int) (k : Nat) : pairArcs xs ys (k + 1) = pairArcs xs ys k ++ [⟨k, atL xs k, atL ys k, k + 1⟩] := by simp [pairArcs, List.range_succ, pairArc]
theorem pairArcs_length (xs ys : List Int) (k : Nat) : (pairArcs xs ys k).length = k := by simp [pairArcs]
def pairN (xs ys : List Int) : Nat := max xs.length ys.length
def pairF (xs ys : List Int) : PFst := ⟨(pairN xs ys : Int) + 1, pairArcs xs ys (pairN xs ys), [(pairN xs ys : Int)]⟩
def SymOk (l : List Int) : Prop := ∀ x, x ∈ l → 1 ≤ x ∧ x ≤ 1099511627776
theorem atL_drop (l : List Int) (h : SymOk l) (i : Nat) : l.drop i = sym (atL l i) ++ l.drop (i + 1) := by
  by_cases hi : i < l.length
  · have e : atL l i = l[i] := by simp [atL, hi]
    have := h l[i] (List.getElem_mem hi)
    rw [e, List.drop_eq_getElem_cons hi, sym, if_neg (by omega)]; rfl
  · have e : atL l i = 0 := by simp [atL, List.getElem?_eq_none (Nat.le_of_not_lt hi)]
    rw [e, List.drop_of_length_le (by omega), List.drop_of_length_le (by omega)]; rfl
theorem atL_bd (l : List Int) (h : SymOk l) (i : Nat) : 0 ≤ atL l i ∧ atL l i ≤ 1099511627776 := by
  by_cases hi : i < l.length
  · have e : atL l i = l[i] := by simp [atL, hi]
    have := h l[i] (List.getElem_mem hi)
    rw [e]; omega
  · have e : atL l i = 0 := by simp [atL, List.getElem?_eq_none (Nat.le_of_not_lt hi)]
    rw [e]; omega
theorem mem_pairArcs {xs ys : List Int} {k : Nat} {a : PArc} : a ∈ pairArcs xs ys k ↔ ∃ i, i < k ∧ a = pairArc xs ys i := by
  simp only [pairArcs, List.mem_map, List.mem_range]
  constructor
  · rintro ⟨i, h, rfl⟩; exact ⟨i, h, rfl⟩
  · rintro ⟨i, h, rfl⟩; exact ⟨i, h, rfl⟩
theorem pair_good (xs ys : List Int) (hx : SymOk xs) (hy : SymOk ys) (h1 : xs.length ≤ 24) (h2 : ys.length ≤ 24) : Good (pairF xs ys) := by
  have hn : pairN xs ys ≤ 24 := by unfold pairN; omega
  refine ⟨by simp only [pairF]; omega, by simp only [pairF]; omega, by simp only [pairF, pairArcs_length]; omega, ?_, by simp [pairF], ?_⟩
  · intro a ha
    obtain ⟨i, hi, rfl⟩ := mem_pairArcs.1 ha
    refine ⟨?_, ?_, atL_bd _ hx _, atL_bd _ hy _⟩ <;> simp only [pairArc, pairF] <;> omega
  · intro q hq
    simp only [pairF, List.mem_singleton] at hq ⊢
    omega
theorem pair_acc (xs ys us vs : List Int) (hx : SymOk xs) (hy : SymOk ys) (h1 : xs.length ≤ 24) (h2 : ys.length ≤ 24) : Acc (pairF xs ys) us vs ↔ us = xs ∧ vs = ys := by
  rw [acc_iff (pair_good xs ys hx hy h1 h2)]
  constructor
  · rintro ⟨q, hq, hp⟩
    simp only [pairF, List.mem_singleton] at hq
    subst hq
    have := Path.induct (P := fun s us vs => ∀ i : Nat, s = i → i ≤ pairN xs ys → us = xs.drop i ∧ vs = ys.drop i) ?_ ?_ hp 0 rfl (Nat.zero_le _)
    · simpa using this
    · intro i hi _
      have : i = pairN xs ys := by omega
      subst this
      rw [List.drop_of_length_le (by unfold pairN; omega), List.drop_of_length_le (by unfold pairN; omega)]
      exact ⟨rfl, rfl⟩
    · intro a ha us vs _ ih i hi hin
      obtain ⟨j, hj, rfl⟩ := mem_pairArcs.1 ha
      simp only [pairArc] at hi ih ⊢
      have hji : j = i := by omega
      subst hji
      obtain ⟨e1, e2⟩ := ih (j + 1) (by omega) (by omega)
      rw [atL_drop xs hx j, atL_drop ys hy j, e1, e2]
      exact ⟨rfl, rfl⟩
  · rintro ⟨rfl, rfl⟩
    refine ⟨(pairN us vs : Int), by simp [pairF], ?_⟩
    have key : ∀ k, k ≤ pairN us vs → Path (pairF us vs).arcs ((pairN us vs - k : Nat) : Int) (pairN us vs : Int) (us.drop (pairN us vs - k)) (vs.drop (pairN us vs - k)) := by
      intro k
      induction k with
      | zero =>
        intro _
        rw [Nat.sub_zero, List.drop_of_length_le (by unfold pairN; omega), List.drop_of_length_le (by unfold pairN; omega)]
        exact Path.nil _ _
      | succ k ih =>
        intro hk
        have e : pairN us vs - k = (pairN us vs - (k + 1)) + 1 := by omega
        have h := ih (by omega)
        rw [e] at h
        rw [atL_drop us hx, atL_drop vs hy]
        generalize pairN us vs - (k + 1) = j at h e ⊢
        have hm : pairArc us vs j ∈ (pairF us vs).arcs := mem_pairArcs.2 ⟨j, by omega, rfl⟩
        have := Path.cons hm (t := (pairN us vs : Int)) (xs := us.drop (j + 1)) (ys := vs.drop (j + 1)) (by simpa [pairArc] using h)
        simpa [pairArc] using this
    have := key (pairN us vs) (Nat.le_refl _)
    simpa using this

/-! Identity -/
def idArc (s : Int) : PArc := ⟨0, s, s, 0⟩
def identF (l : List Int) : PFst := ⟨1, l.map idArc, [0]⟩
theorem ident_good (l : List Int) (h : SymOk l) (hl : l.length ≤ 60) : Good (identF l) := by
  refine ⟨by simp [identF], by simp [identF], by simp [identF]; omega, ?_, by simp [identF], by simp [identF]⟩
  intro a ha
  simp only [identF, List.mem_map] at ha
  obtain ⟨s, hs, rfl⟩ := ha
  have := h s hs
  refine ⟨?_, ?_, ?_, ?_⟩ <;> simp only [idArc, identF] <;> omega
theorem ident_path (l : List Int) (h : SymOk l) (us vs : List Int) : Path (identF l).arcs 0 0 us vs ↔ us = vs ∧ ∀ x, x ∈ us → x ∈ l := by
  constructor
  · intro hp
    refine Path.induct (P := fun _ us vs => us = vs ∧ ∀ x, x ∈ us → x ∈ l) ⟨rfl, by simp⟩ ?_ hp
    intro a ha us vs _ ih
    simp only [identF, List.mem_map] at ha
    obtain ⟨s, hs, rfl⟩ := ha
    have := h s hs
    have hs0 : ¬ s = 0 := by omega
    simp only [idArc, sym, hs0, if_false]
    refine ⟨by rw [ih.1], ?_⟩
    intro x hx
    rcases List.mem_append.1 hx with hx | hx
    · simp at hx; subst hx; exact hs
    · exact ih.2 x hx
  · rintro ⟨rfl, hm⟩
    induction us with
    | nil => exact Path.nil _ _
    | cons x us ih =>
      have hx := hm x (by simp)
      have := h x hx
      have hp := Path.cons (L := (identF l).arcs) (a := idArc x) (by simp only [identF, List.mem_map]; exact ⟨x, hx, rfl⟩) (ih fun y hy => hm y (by simp [hy]))
      have hx0 : ¬ x = 0 := by omega
      simpa only [idArc, sym, hx0, if_false, List.cons_append, List.nil_append] using hp
theorem ident_acc (l : List Int) (h : SymOk l) (hl : l.length ≤ 60) (us vs : List Int) : Acc (identF l) us vs ↔ us = vs ∧ ∀ x, x ∈ us → x ∈ l := by
  rw [acc_iff (ident_good l h hl), ← ident_path l h]
  simp [identF]

/-! Invert -/
def invArc (a : PArc) : PArc := ⟨a.fr, a.out, a.inp, a.tgt⟩
def invF (F : PFst) : PFst := ⟨F.states, F.arcs.map invArc, F.final⟩
theorem inv_good {F : PFst} (h : Good F) : Good (invF F) := by
  refine ⟨h.s1, h.s2, by simpa [invF] using h.len, ?_, h.ord, h.fin⟩
  intro a ha
  simp only [invF, List.mem_map] at ha
  obtain ⟨b, hb, rfl⟩ := ha
  obtain ⟨h1, h2, h3, h4⟩ := h.arc b hb
  exact ⟨h1, h2, h4, h3⟩
theorem inv_path (L : List PArc) {s t : Int} {xs ys : List Int} (h : Path L s t xs ys) : Path (L.map invArc) s t ys xs := by
  refine Path.induct (P := fun s xs ys => Path (L.map invArc) s t ys xs) (Path.nil _ _) ?_ h
  intro a ha xs ys _ ih
  exact Path.cons (a := invArc a) (List.mem_map.2 ⟨a, ha, rfl⟩) ih
theorem inv_inv (L : List PArc) : (L.map invArc).map invArc = L := by
  rw [List.map_map]
  exact (List.map_congr_left (fun _ _ => rfl)).trans (List.map_id _)
theorem inv_acc (F : PFst) (xs ys : List Int) : Acc (invF F) xs ys ↔ Acc F ys xs := by
  constructor
  · rintro ⟨h1, h2, q, hq, hp⟩
    refine ⟨h2, h1, q, hq, ?_⟩
    have := inv_path _ hp
    rwa [invF, inv_inv] at this
  · rintro ⟨h1, h2, q, hq, hp⟩
    exact ⟨h2, h1, q, hq, inv_path _ hp⟩

/-! moved transducers -/
def shArc (k : Int) (a : PArc) : PArc := ⟨a.fr + k, a.inp, a.out, a.tgt + k⟩
theorem sh_path (L : List PArc) (k : Int) {s t : Int} {xs ys : List Int} (h : Path L s t xs ys) : Path (L.map (shArc k)) (s + k) (t + k) xs ys :=
  Path.map (shArc k) (· + k) (fun a ha => ⟨List.mem_map.2 ⟨a, ha, rfl⟩, rfl, rfl, rfl, rfl⟩) h
theorem unsh_path (L : List PArc) (k : Int) {s t : Int} {xs ys : List Int} (h : Path (L.map (shArc k)) s t xs ys) : Path L (s - k) (t - k) xs ys := by
  refine Path.map (shArc (-k)) (· - k) (fun a ha => ?_) h
  obtain ⟨b, hb, rfl⟩ := List.mem_map.1 ha
  refine ⟨?_, rfl, rfl, rfl, rfl⟩
  have : shArc (-k) (shArc k b) = b := by cases b; simp only [shArc, PArc.mk.injEq, true_and]; omega
  rwa [this]
def jumpArc (p q : Int) : PArc := ⟨p, 0, 0, q⟩
theorem jump_path {L : List PArc} {p q t : Int} {xs ys : List Int} (hj : jumpArc p q ∈ L) (h : Path L q t xs ys) : Path L p t xs ys := Path.cons (a := jumpArc p q) hj h

/-! Union -/
def unionF (a b : PFst) : PFst := ⟨1 + a.states + b.states, a.arcs.map (shArc 1) ++ [jumpArc 0 1] ++ b.arcs.map (shArc (1 + a.states)) ++ [jumpArc 0 (1 + a.states)], a.final.map (· + 1) ++ b.final.map (· + (1 + a.states))⟩
theorem sh_ok {S T k : Int} {L : List PArc} (h : ∀ a, a ∈ L → ArcOk S a) (h0 : 0 ≤ k) (hk : S + k ≤ T) : ∀ a, a ∈ L.map (shArc k) → ArcOk T a := by
  intro a ha
  obtain ⟨b, hb, rfl⟩ := List.mem_map.1 ha
  obtain ⟨h1, h2, h3, h4⟩ := h b hb
  refine ⟨?_, ?_, h3, h4⟩ <;> simp only [shArc] <;> omega
theorem ord_map {l : List Int} (h : l.Pairwise (· < ·)) (k : Int) : (l.map (· + k)).Pairwise (· < ·) := by
  rw [List.pairwise_map]
  exact h.imp (fun h => by omega)
theorem union_good {a b : PFst} (ha : Good a) (hb : Good b) (hs : a.states + b.states ≤ 1000) (hl : a.arcs.length + b.arcs.length ≤ 10000) : Good (unionF a b) := by
  have a1 := ha.s1
  have b1 := hb.s1
  refine ⟨by simp only [unionF]; omega, by simp only [unionF]; omega, by simp [unionF]; omega, ?_, ?_, ?_⟩
  · intro x hx
    simp only [unionF, List.mem_append, List.mem_singleton] at hx
    rcases hx with ((hx | rfl) | hx) | rfl
    · exact sh_ok ha.arc (by omega) (by simp only [unionF]; omega) x hx
    · simp only [ArcOk, jumpArc, unionF]; omega
    · exact sh_ok hb.arc (by omega) (by simp only [unionF]; omega) x hx
    · simp only [ArcOk, jumpArc, unionF]; omega
  · simp only [unionF]
    rw [List.pairwise_append]
    refine ⟨ord_map ha.ord _, ord_map hb.ord _, ?_⟩
    intro x hx y hy
    obtain ⟨x', hx', rfl⟩ := List.mem_map.1 hx
    obtain ⟨y', hy', rfl⟩ := List.mem_map.1 hy
    have := ha.fin x' hx'
    have := hb.fin y' hy'
    omega
  · intro q hq
    simp only [unionF, List.mem_append, List.mem_map] at hq ⊢
    rcases hq with ⟨x, hx, rfl⟩ | ⟨x, hx, rfl⟩
    · have := ha.fin x hx; omega
    · have := hb.fin x hx; omega
theorem union_acc {a b : PFst} (ha : Good a) (hb : Good b) (hs : a.states + b.states ≤ 1000) (hl : a.arcs.length + b.arcs.length ≤ 10000) (xs ys : List Int) : Acc (unionF a b) xs ys ↔ Acc a xs ys ∨ Acc b xs ys := by
  have a1 := ha.s1
  have b1 := hb.s1
  rw [acc_iff (union_good ha hb hs hl), acc_iff ha, acc_iff hb]
  constructor
  · rintro ⟨q, hq, hp⟩
    have hA : ∀ x, x ∈ (unionF a b).arcs → (1 ≤ x.fr ∧ x.fr ≤ a.states) → x ∈ a.arcs.map (shArc 1) ∧ 1 ≤ x.tgt ∧ x.tgt ≤ a.states := by
      intro x hx hfr
      simp only [unionF, List.mem_append, List.mem_singleton] at hx
      rcases hx with ((hx | rfl) | hx) | rfl
      · refine ⟨hx, ?_⟩
        obtain ⟨y, hy, rfl⟩ := List.mem_map.1 hx
        have := (ha.arc y hy).2.1
        simp only [shArc]; omega
      · simp only [jumpArc] at hfr; omega
      · obtain ⟨y, hy, rfl⟩ := List.mem_map.1 hx
        have := (hb.arc y hy).1
        simp only [shArc] at hfr; omega
      · simp only [jumpArc] at hfr; omega
    have hB : ∀ x, x ∈ (unionF a b).arcs → (1 + a.states ≤ x.fr) → x ∈ b.arcs.map (shArc (1 + a.states)) ∧ 1 + a.states ≤ x.tgt := by
      intro x hx hfr
      simp only [unionF, List.mem_append, List.mem_singleton] at hx
      rcases hx with ((hx | rfl) | hx) | rfl
      · obtain ⟨y, hy, rfl⟩ := List.mem_map.1 hx
        have := (ha.arc y hy).1
        simp only [shArc] at hfr; omega
      · simp only [jumpArc] at hfr; omega
      · refine ⟨hx, ?_⟩
        obtain ⟨y, hy, rfl⟩ := List.mem_map.1 hx
        have := (hb.arc y hy).2.1
        simp only [shArc]; omega
      · simp only [jumpArc] at hfr; omega
    have hq' : (∃ f, f ∈ a.final ∧ q = f + 1) ∨ (∃ f, f ∈ b.final ∧ q = f + (1 + a.states)) := by
      simp only [unionF, List.mem_append, List.mem_map] at hq
      rcases hq with ⟨f, h1, h2⟩ | ⟨f, h1, h2⟩
      · exact .inl ⟨f, h1, h2.symm⟩
      · exact .inr ⟨f, h1, h2.symm⟩
    have hq1 : 1 ≤ q := by
      rcases hq' with ⟨f, h1, rfl⟩ | ⟨f, h1, rfl⟩
      · have := ha.fin f h1; omega
      · have := hb.fin f h1; omega
    have key : ∀ s : Int, Path (unionF a b).arcs s q xs ys → s = 0 → (∃ q, q ∈ a.final ∧ Path a.arcs 0 q xs ys) ∨ ∃ q, q ∈ b.final ∧ Path b.arcs 0 q xs ys := by
      intro s hp
      refine Path.induct (P := fun s xs ys => s = 0 → (∃ q, q ∈ a.final ∧ Path a.arcs 0 q xs ys) ∨ ∃ q, q ∈ b.final ∧ Path b.arcs 0 q xs ys) (fun h => by omega) ?_ hp
      intro x hx us vs hpx _ hfr
      simp only [unionF, List.mem_append, List.mem_singleton] at hx
      rcases hx with ((hx | rfl) | hx) | rfl
      · obtain ⟨y, hy, rfl⟩ := List.mem_map.1 hx
        have := (ha.arc y hy).1
        simp only [shArc] at hfr; omega
      · left
        obtain ⟨h1, h2⟩ := Path.comp (C := fun s => 1 ≤ s ∧ s ≤ a.states) hA hpx (by simp only [jumpArc]; omega)
        have h3 := unsh_path _ _ h1
        rcases hq' with ⟨f, hf, rfl⟩ | ⟨f, hf, rfl⟩
        · refine ⟨f, hf, ?_⟩
          simpa [jumpArc, sym] using h3
        · have := hb.fin f hf; omega
      · obtain ⟨y, hy, rfl⟩ := List.mem_map.1 hx
        have := (hb.arc y hy).1
        simp only [shArc] at hfr; omega
      · right
        obtain ⟨h1, h2⟩ := Path.comp (C := fun s => 1 + a.states ≤ s) hB hpx (by simp only [jumpArc]; omega)
        have h3 := unsh_path _ _ h1
        rcases hq' with ⟨f, hf, rfl⟩ | ⟨f, hf, rfl⟩
        · have := ha.fin f hf; omega
        · refine ⟨f, hf, ?_⟩
          simpa [jumpArc, sym, Int.add_sub_cancel] using h3
    exact key 0 hp rfl
  · rintro (⟨q, hq, hp⟩ | ⟨q, hq, hp⟩)
    · refine ⟨q + 1, by simp only [unionF, List.mem_append, List.mem_map]; exact .inl ⟨q, hq, rfl⟩, jump_path (q := 1) (by simp [unionF]) ?_⟩
      have := sh_path _ 1 hp
      rw [Int.zero_add] at this
      exact this.sub (fun x hx => by simp only [unionF, List.mem_append]; exact .inl (.inl (.inl hx)))
    · refine ⟨q + (1 + a.states), by simp only [unionF, List.mem_append, List.mem_map]; exact .inr ⟨q, hq, rfl⟩, jump_path (q := 1 + a.states) (by simp [unionF]) ?_⟩
      have := sh_path _ (1 + a.states) hp
      rw [Int.zero_add] at this
      exact this.sub (fun x hx => by simp only [unionF, List.mem_append]; exact .inl (.inr hx))

/-! Concat -/
def concatF (a b : PFst) : PFst := ⟨a.states + b.states, a.arcs.map (shArc 0) ++ b.arcs.map (shArc a.states) ++ a.final.map (fun s => jumpArc s a.states), b.final.map (· + a.states)⟩
theorem concat_good {a b : PFst} (ha : Good a) (hb : Good b) (hs : a.states + b.states ≤ 1000) (hl : a.arcs.length + b.arcs.length ≤ 10000) (hf : a.final.length ≤ 1100) : Good (concatF a b) := by
  have a1 := ha.s1
  have b1 := hb.s1
  refine ⟨by simp only [concatF]; omega, by simp only [concatF]; omega, by simp [concatF]; omega, ?_, ?_, ?_⟩
  · intro x hx
    simp only [concatF, List.mem_append] at hx
    rcases hx with (hx | hx) | hx
    · exact sh_ok ha.arc (by omega) (by simp only [concatF]; omega) x hx
    · exact sh_ok hb.arc (by omega) (by simp only [concatF]; omega) x hx
    · obtain ⟨f, hf, rfl⟩ := List.mem_map.1 hx
      have := ha.fin f hf
      simp only [ArcOk, jumpArc, concatF]; omega
  · exact ord_map hb.ord _
  · intro q hq
    simp only [concatF, List.mem_map] at hq ⊢
    obtain ⟨x, hx, rfl⟩ := hq
    have := hb.fin x hx; omega
theorem sh_zero (L : List PArc) : L.map (shArc 0) = L := by
  have h : ∀ a : PArc, shArc 0 a = a := fun a => by cases a; simp [shArc]
  rw [show shArc 0 = id from funext h, List.map_id]
/-- a pair that consists of one of a and one of b -/
def Joined (a b : PFst) (xs ys : List Int) : Prop := ∃ x1 y1 x2 y2, xs = x1 ++ x2 ∧ ys = y1 ++ y2 ∧ Acc a x1 y1 ∧ Acc b x2 y2
theorem concat_acc {a b : PFst} (ha : Good a) (hb : Good b) (hs : a.states + b.states ≤ 1000) (hl : a.arcs.length + b.arcs.length ≤ 10000) (hf : a.final.length ≤ 1100) (xs ys : List Int) : Acc (concatF a b) xs ys ↔ Joined a b xs ys := by
  have a1 := ha.s1
  have b1 := hb.s1
  rw [acc_iff (concat_good ha hb hs hl hf)]
  unfold Joined
  constructor
  · rintro ⟨q, hq, hp⟩
    obtain ⟨g, hg, rfl⟩ := List.mem_map.1 hq
    have hB : ∀ x, x ∈ (concatF a b).arcs → a.states ≤ x.fr → x ∈ b.arcs.map (shArc a.states) ∧ a.states ≤ x.tgt := by
      intro x hx hfr
      simp only [concatF, List.mem_append] at hx
      rcases hx with (hx | hx) | hx
      · obtain ⟨y, hy, rfl⟩ := List.mem_map.1 hx
        have := (ha.arc y hy).1
        simp only [shArc] at hfr; omega
      · refine ⟨hx, ?_⟩
        obtain ⟨y, hy, rfl⟩ := List.mem_map.1 hx
        have := (hb.arc y hy).2.1
        simp only [shArc]; omega
      · obtain ⟨f, hf, rfl⟩ := List.mem_map.1 hx
        have := ha.fin f hf
        simp only [jumpArc] at hfr; omega
    have hg2 := hb.fin g hg
    have key := Path.induct (P := fun s xs ys => (0 ≤ s ∧ s < a.states) → ∃ f x1 y1 x2 y2, f ∈ a.final ∧ xs = x1 ++ x2 ∧ ys = y1 ++ y2 ∧ Path a.arcs s f x1 y1 ∧ Path b.arcs 0 g x2 y2) (fun h => by omega) ?_ hp (by omega)
    · obtain ⟨f, x1, y1, x2, y2, h1, h2, h3, h4, h5⟩ := key
      exact ⟨x1, y1, x2, y2, h2, h3, (acc_iff ha _ _).2 ⟨f, h1, h4⟩, (acc_iff hb _ _).2 ⟨g, hg, h5⟩⟩
    · intro x hx us vs hpx ih hfr
      simp only [concatF, List.mem_append] at hx
      rcases hx with (hx | hx) | hx
      · rw [sh_zero] at hx
        have h2 := (ha.arc x hx).2.1
        obtain ⟨f, x1, y1, x2, y2, h1, rfl, rfl, h4, h5⟩ := ih h2
        exact ⟨f, _, _, x2, y2, h1, (List.append_assoc _ _ _).symm, (List.append_assoc _ _ _).symm, Path.cons hx h4, h5⟩
      · obtain ⟨y, hy, rfl⟩ := List.mem_map.1 hx
        have := (hb.arc y hy).1
        simp only [shArc] at hfr; omega
      · obtain ⟨f, hf, rfl⟩ := List.mem_map.1 hx
        obtain ⟨h1, h2⟩ := Path.comp (C := fun s => a.states ≤ s) hB hpx (by simp [jumpArc])
        have h3 := unsh_path _ _ h1
        exact ⟨f, [], [], us, vs, hf, by simp [jumpArc, sym], by simp [jumpArc, sym], Path.nil _ _, by simpa [jumpArc, Int.add_sub_cancel] using h3⟩
  · rintro ⟨x1, y1, x2, y2, rfl, rfl, h1, h2⟩
    obtain ⟨f, hf, hp⟩ := (acc_iff ha _ _).1 h1
    obtain ⟨g, hg, hq⟩ := (acc_iff hb _ _).1 h2
    refine ⟨g + a.states, List.mem_map.2 ⟨g, hg, rfl⟩, ?_⟩
    refine (Path.sub (fun x hx => ?_) hp).trans (jump_path (p := f) (q := a.states) ?_ ?_)
    · simp only [concatF, List.mem_append, sh_zero]; exact .inl (.inl hx)
    · simp only [concatF, List.mem_append]; exact .inr (List.mem_map.2 ⟨f, hf, rfl⟩)
    · have := sh_path _ a.states hq
      rw [Int.zero_add] at this
      exact this.sub (fun x hx => by simp only [concatF, List.mem_append]; exact .inl (.inr hx))
end Go.Proofs.Ytmejihlplbeekaa
