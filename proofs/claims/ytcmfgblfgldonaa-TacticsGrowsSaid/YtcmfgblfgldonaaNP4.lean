/-
  Tactics, in plain words: what is reached, as paths; endless, both ways.
-/
import Derived.Test.YtcmfgblfgldonaaN13
import Derived.Test.YtcmfgblfgldonaaN15
namespace Go.Proofs.Ytcmfgblfgldonaa
inductive Path (N : PNet) : Nat → Nat → Prop
  | refl (p : Nat) : Path N p p
  | step {p : Nat} (q : Nat) (s : PStep) (h : Path N p q) (hs : s ∈ N.steps) (hf : s.fr.toNat = q) : Path N p s.tgt.toNat
theorem Path.trans {N : PNet} {p q r : Nat} (h : Path N p q) (k : Path N q r) : Path N p r := by
  induction k with
  | refl => exact h
  | step x s _ hs hf ih => exact .step x s ih hs hf
theorem Path.one {N : PNet} (s : PStep) (hs : s ∈ N.steps) : Path N s.fr.toNat s.tgt.toNat := .step _ s (.refl _) hs rfl
theorem Path.front {N : PNet} {p q : Nat} (h : Path N p q) : p = q ∨ ∃ s, s ∈ N.steps ∧ s.fr.toNat = p ∧ Path N s.tgt.toNat q := by
  induction h with
  | refl => exact .inl rfl
  | step x s h hs hf ih =>
    rcases ih with rfl | ⟨t, ht, htf, hp⟩
    · exact .inr ⟨s, hs, hf, .refl _⟩
    · exact .inr ⟨t, ht, htf, .step x s hp hs hf⟩
theorem Path.last {N : PNet} {p q : Nat} (h : Path N p q) : p = q ∨ ∃ s, s ∈ N.steps ∧ s.tgt.toNat = q ∧ Path N p s.fr.toNat := by
  cases h with
  | refl => exact .inl rfl
  | step x s h hs hf => exact .inr ⟨s, hs, rfl, by rw [hf]; exact h⟩
section
variable {N : PNet} (hG : GoodN N) {S : Nat} (hS : N.states = (S : Int))
theorem iter_path (L : List PStep) (hL : L = N.steps) (k m q : Nat) (h : (iterF L k m).testBit q = true) : ∃ p, m.testBit p = true ∧ Path N p q := by
  induction k generalizing q with
  | zero => exact ⟨q, h, .refl q⟩
  | succ k ih =>
    rw [iterF_succ, round_bit, Bool.or_eq_true, List.any_eq_true] at h
    rcases h with h | ⟨s, hs, h⟩
    · exact ih q h
    · simp only [Bool.and_eq_true, decide_eq_true_eq] at h
      obtain ⟨p, hp, hpp⟩ := ih _ h.1
      exact ⟨p, hp, by rw [← h.2]; exact .step _ s hpp (hL ▸ hs) rfl⟩
theorem iter_sub (L : List PStep) (k m q : Nat) (h : m.testBit q = true) : (iterF L k m).testBit q = true := by
  induction k with
  | zero => exact h
  | succ k ih => rw [iterF_succ]; exact round_sub L _ q ih
include hG hS
theorem reach_iff {m : Nat} (hm : m < 2 ^ S) (q : Nat) : (reachF N.steps S m).testBit q = true ↔ ∃ p, m.testBit p = true ∧ Path N p q := by
  constructor
  · exact iter_path N.steps rfl S m q
  · rintro ⟨p, hp, h⟩
    induction h with
    | refl => exact iter_sub N.steps S m _ hp
    | step x s h hs hf ih =>
      rw [← reach_fix hG hS hm, round_bit, Bool.or_eq_true, List.any_eq_true]
      refine .inr ⟨s, hs, ?_⟩
      simp only [Bool.and_eq_true, decide_eq_true_eq, and_true]
      show (reachF N.steps S m).testBit s.fr.toNat = true
      rw [hf]; exact ih
omit hG hS in
theorem one_bit (q r : Nat) : (1 <<< q).testBit r = true ↔ r = q := by
  rw [Nat.one_shiftLeft, Nat.testBit_two_pow]
  simp [eq_comm]
omit hG hS in
theorem final_bit (l : List Int) (q : Nat) : (finalF l).testBit q = true ↔ ∃ f, f ∈ l ∧ f.toNat = q := by
  suffices h : ∀ o : Nat, (l.foldl withB o).testBit q = true ↔ (o.testBit q = true ∨ ∃ f, f ∈ l ∧ f.toNat = q) by
    have := h 0
    simpa [finalF] using this
  induction l with
  | nil => intro o; simp
  | cons x l ih =>
    intro o
    rw [List.foldl_cons, ih, withB_bit, Bool.or_eq_true, decide_eq_true_eq]
    constructor
    · rintro ((h | h) | ⟨f, h1, h2⟩)
      · exact .inl h
      · exact .inr ⟨x, by simp, h⟩
      · exact .inr ⟨f, by simp [h1], h2⟩
    · rintro (h | ⟨f, h1, h2⟩)
      · exact .inl (.inl h)
      · rcases List.mem_cons.1 h1 with rfl | h1
        · exact .inl (.inr h2)
        · exact .inr ⟨f, h1, h2⟩
def Live (N : PNet) (q : Nat) : Prop := ∃ f, f ∈ N.final ∧ Path N q f.toNat
theorem alive_iff {q : Nat} (hq : q < S) : (livingF N S S).testBit q = true ↔ Live N q := by
  rw [living_bit, Bool.and_eq_true, decide_eq_true_eq, aliveB, and_bit]
  have h1 : 1 <<< q < 2 ^ S := by rw [Nat.one_shiftLeft]; exact Nat.pow_lt_pow_right (by decide) hq
  constructor
  · rintro ⟨_, r, h2, h3⟩
    rw [reach_iff hG hS h1] at h2
    obtain ⟨p, hp, hpp⟩ := h2
    rw [one_bit] at hp
    subst hp
    obtain ⟨f, hf, rfl⟩ := (final_bit _ _).1 h3
    exact ⟨f, hf, hpp⟩
  · rintro ⟨f, hf, hp⟩
    exact ⟨hq, f.toNat, (reach_iff hG hS h1 _).2 ⟨q, (one_bit q q).2 rfl, hp⟩, (final_bit _ _).2 ⟨f, hf, rfl⟩⟩
omit hG hS in
theorem alive_lt {q : Nat} (h : (livingF N S S).testBit q = true) : q < S := by
  rw [living_bit, Bool.and_eq_true, decide_eq_true_eq] at h
  exact h.1
theorem met_iff (q : Nat) : (reachF N.steps S 1).testBit q = true ↔ Path N 0 q := by
  have h1 : (1 : Nat) < 2 ^ S := Nat.one_lt_two_pow (by have := hG.s1; omega)
  rw [reach_iff hG hS h1]
  constructor
  · rintro ⟨p, hp, hpp⟩
    have := (one_bit 0 p).1 hp
    subst this
    exact hpp
  · intro h
    exact ⟨0, rfl, h⟩
theorem step_lt {s : PStep} (hs : s ∈ N.steps) : s.fr.toNat < S ∧ s.tgt.toNat < S := by
  have := hG.step s hs
  have h1 := this.f0; have h2 := this.f1; have h3 := this.t0; have h4 := this.t1
  omega
/-- a loop that lies on the way from the state 0 to a final one -/
def Loops (N : PNet) : Prop := ∃ s, s ∈ N.steps ∧ Path N 0 s.fr.toNat ∧ Live N s.tgt.toNat ∧ Path N s.tgt.toNat s.fr.toNat
theorem endF_iff : endF N S = true ↔ Loops N := by
  rw [endF, List.any_eq_true]
  constructor
  · rintro ⟨s, hs, h⟩
    rw [fromL, List.mem_filter] at hs
    rw [endB, Bool.and_eq_true] at h
    obtain ⟨h1, h2⟩ := step_lt hG hS hs.1
    have hq : 1 <<< s.tgt.toNat < 2 ^ S := by rw [Nat.one_shiftLeft]; exact Nat.pow_lt_pow_right (by decide) h2
    obtain ⟨p, hp, hpp⟩ := (reach_iff hG hS hq _).1 h.2
    rw [one_bit] at hp
    subst hp
    exact ⟨s, hs.1, (met_iff hG hS _).1 hs.2, (alive_iff hG hS h2).1 h.1, hpp⟩
  · rintro ⟨s, hs, h0, hl, hp⟩
    obtain ⟨h1, h2⟩ := step_lt hG hS hs
    have hq : 1 <<< s.tgt.toNat < 2 ^ S := by rw [Nat.one_shiftLeft]; exact Nat.pow_lt_pow_right (by decide) h2
    refine ⟨s, ?_, ?_⟩
    · rw [fromL, List.mem_filter]; exact ⟨hs, (met_iff hG hS _).2 h0⟩
    · rw [endB, Bool.and_eq_true]
      exact ⟨(alive_iff hG hS h2).2 hl, (reach_iff hG hS hq _).2 ⟨_, (one_bit _ _).2 rfl, hp⟩⟩
theorem endlR_iff : endlR N S S = true ↔ Loops N := by
  rw [endlR, List.any_eq_true]
  constructor
  · rintro ⟨q, hq, h⟩
    rw [List.mem_range] at hq
    simp only [Bool.and_eq_true] at h
    obtain ⟨h0, hl, hr⟩ := h
    have ha := afterR_lt hG hS (1 <<< q) 0
    obtain ⟨p, hp, hpp⟩ := (reach_iff hG hS ha _).1 hr
    rw [afterR_bit, List.any_eq_true] at hp
    obtain ⟨s, hs, h1⟩ := hp
    simp only [Bool.and_eq_true, decide_eq_true_eq] at h1
    have hfr : s.fr.toNat = q := (one_bit q _).1 h1.1.1
    obtain ⟨f, hf, hfp⟩ := (alive_iff hG hS hq).1 hl
    refine ⟨s, hs, by rw [hfr]; exact (met_iff hG hS _).1 h0, ⟨f, hf, ?_⟩, ?_⟩
    · rw [h1.2]; exact hpp.trans hfp
    · rw [h1.2, hfr]; exact hpp
  · rintro ⟨s, hs, h0, hl, hp⟩
    obtain ⟨h1, h2⟩ := step_lt hG hS hs
    have ha := afterR_lt hG hS (1 <<< s.tgt.toNat) 0
    refine ⟨s.tgt.toNat, List.mem_range.2 h2, ?_⟩
    simp only [Bool.and_eq_true]
    refine ⟨(met_iff hG hS _).2 (h0.trans (Path.one s hs)), (alive_iff hG hS h2).2 hl, (reach_iff hG hS ha _).2 ?_⟩
    have hlast : ∃ t, t ∈ N.steps ∧ t.fr.toNat = s.tgt.toNat ∧ Path N t.tgt.toNat s.tgt.toNat := by
      rcases hp.front with he | ⟨t, ht, htf, htp⟩
      · exact ⟨s, hs, he.symm, .refl _⟩
      · exact ⟨t, ht, htf, htp.trans (Path.one s hs)⟩
    obtain ⟨t, ht, htf, htp⟩ := hlast
    refine ⟨t.tgt.toNat, ?_, htp⟩
    rw [afterR_bit, List.any_eq_true]
    refine ⟨t, ht, ?_⟩
    simp only [Bool.and_eq_true, decide_eq_true_eq, and_true]
    exact ⟨(one_bit _ _).2 htf, rfl⟩
theorem end_eq : endF N S = endlR N S S := by
  rw [Bool.eq_iff_iff, endF_iff hG hS, endlR_iff hG hS]
end
end Go.Proofs.Ytcmfgblfgldonaa
