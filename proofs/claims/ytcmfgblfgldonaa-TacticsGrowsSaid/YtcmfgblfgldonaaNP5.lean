/-
  Tactics, in plain words: runs; a net that is not endless.
-/
import Derived.Test.YtcmfgblfgldonaaNP4
namespace Go.Proofs.Ytcmfgblfgldonaa
inductive Run (N : PNet) : Nat → List Int → Nat → Prop
  | nil (p : Nat) : Run N p [] p
  | cons {l : List Int} {q : Nat} (s : PStep) (hs : s ∈ N.steps) (h : Run N s.tgt.toNat l q) : Run N s.fr.toNat (s.cls :: l) q
theorem run_iff (N : PNet) (l : List Int) (m q : Nat) : (runF N.steps m l).testBit q = true ↔ ∃ p, m.testBit p = true ∧ Run N p l q := by
  induction l generalizing m with
  | nil =>
    constructor
    · intro h; exact ⟨q, h, .nil q⟩
    · rintro ⟨p, hp, h⟩; cases h; exact hp
  | cons c l ih =>
    show (runF N.steps (afterF N.steps m c) l).testBit q = true ↔ _
    rw [ih]
    constructor
    · rintro ⟨p, hp, h⟩
      rw [after_bit, List.any_eq_true] at hp
      obtain ⟨s, hs, h1⟩ := hp
      simp only [Bool.and_eq_true, decide_eq_true_eq] at h1
      obtain ⟨h2, h3, h4⟩ := h1
      subst h3
      subst h4
      exact ⟨s.fr.toNat, h2, .cons s hs h⟩
    · rintro ⟨p, hp, h⟩
      cases h with
      | cons s hs h =>
        refine ⟨s.tgt.toNat, ?_, h⟩
        rw [after_bit, List.any_eq_true]
        exact ⟨s, hs, by simp only [Bool.and_eq_true, decide_eq_true_eq, and_true]; exact hp⟩
theorem Run.path {N : PNet} {p q : Nat} {l : List Int} (h : Run N p l q) : Path N p q := by
  induction h with
  | nil => exact .refl _
  | cons s hs _ ih => exact (Path.one s hs).trans ih
theorem Path.run {N : PNet} {p q : Nat} (h : Path N p q) : ∃ l, Run N p l q := by
  suffices h2 : ∀ r l, Run N q l r → ∃ l, Run N p l r from h2 q [] (.nil q)
  induction h with
  | refl => intro r l h; exact ⟨l, h⟩
  | step x s h hs hf ih => intro r l h2; exact ih r (s.cls :: l) (by rw [← hf]; exact .cons s hs h2)
theorem Run.append {N : PNet} {p q r : Nat} {a b : List Int} (h : Run N p a q) (k : Run N q b r) : Run N p (a ++ b) r := by
  induction h with
  | nil => exact k
  | cons s hs _ ih => exact .cons s hs (ih k)
theorem Run.split {N : PNet} {p r : Nat} (a b : List Int) (h : Run N p (a ++ b) r) : ∃ q, Run N p a q ∧ Run N q b r := by
  induction a generalizing p with
  | nil => exact ⟨p, .nil p, h⟩
  | cons c a ih =>
    cases h with
    | cons s hs h =>
      obtain ⟨q, h1, h2⟩ := ih h
      exact ⟨q, .cons s hs h1, h2⟩
theorem acc_iff (N : PNet) (l : List Int) : accF N l = true ↔ ∃ f, f ∈ N.final ∧ Run N 0 l f.toNat := by
  rw [accF, and_bit]
  constructor
  · rintro ⟨q, h1, h2⟩
    obtain ⟨p, hp, h⟩ := (run_iff N l 1 q).1 h1
    have := (one_bit 0 p).1 hp
    subst this
    obtain ⟨f, hf, rfl⟩ := (final_bit _ _).1 h2
    exact ⟨f, hf, h⟩
  · rintro ⟨f, hf, h⟩
    exact ⟨f.toNat, (run_iff N l 1 _).2 ⟨0, rfl, h⟩, (final_bit _ _).2 ⟨f, hf, rfl⟩⟩
section
variable {N : PNet} (hG : GoodN N) {S : Nat} (hS : N.states = (S : Int))
include hG hS
theorem ends_aux (hn : ¬ Loops N) {f : Int} (hf : f ∈ N.final) {p q : Nat} {l : List Int} (h : Run N p l q) (hq : q = f.toNat) (hp : p < S) (h0 : Path N 0 p) :
    l.length + cnt S (reachF N.steps S (1 <<< q)) ≤ cnt S (reachF N.steps S (1 <<< p)) := by
  have pw : ∀ {x : Nat}, x < S → 1 <<< x < 2 ^ S := fun hx => by rw [Nat.one_shiftLeft]; exact Nat.pow_lt_pow_right (by decide) hx
  induction h with
  | nil p => simp
  | @cons l q s hs h ih =>
    obtain ⟨h1, h2⟩ := step_lt hG hS hs
    have h3 := ih hq h2 (h0.trans (Path.one s hs))
    have h4 : cnt S (reachF N.steps S (1 <<< s.tgt.toNat)) < cnt S (reachF N.steps S (1 <<< s.fr.toNat)) := by
      refine cnt_lt (reach_lt hG hS (pw h2)) (reach_lt hG hS (pw h1)) (fun x hx => ?_) (fun he => hn ?_)
      · obtain ⟨y, hy, hyp⟩ := (reach_iff hG hS (pw h2) x).1 hx
        have := (one_bit _ y).1 hy
        subst this
        exact (reach_iff hG hS (pw h1) x).2 ⟨s.fr.toNat, (one_bit _ _).2 rfl, (Path.one s hs).trans hyp⟩
      · have hb : (reachF N.steps S (1 <<< s.tgt.toNat)).testBit s.fr.toNat = true := by
          rw [← he]
          exact (reach_iff hG hS (pw h1) _).2 ⟨_, (one_bit _ _).2 rfl, .refl _⟩
        obtain ⟨y, hy, hyp⟩ := (reach_iff hG hS (pw h2) _).1 hb
        have := (one_bit _ y).1 hy
        subst this
        exact ⟨s, hs, h0, ⟨f, hf, by rw [← hq]; exact h.path⟩, hyp⟩
    simp only [List.length_cons]
    omega
theorem ends_law (l : List Int) (he : endF N S = false) (hl : ¬ l.length < S) : accF N l = false := by
  rw [← Bool.not_eq_true, acc_iff]
  rintro ⟨f, hf, h⟩
  have hn : ¬ Loops N := fun h2 => by rw [(endF_iff hG hS).2 h2] at he; cases he
  have hs := hG.s1
  have h1 := ends_aux hG hS hn hf h rfl (by omega) (.refl 0)
  have h2 := cnt_le S (reachF N.steps S (1 <<< 0))
  have hff := hG.fin f hf
  have hfS : f.toNat < S := by omega
  have hp : 1 <<< f.toNat < 2 ^ S := by rw [Nat.one_shiftLeft]; exact Nat.pow_lt_pow_right (by decide) hfS
  have hb : (reachF N.steps S (1 <<< f.toNat)).testBit f.toNat = true := (reach_iff hG hS hp _).2 ⟨_, (one_bit _ _).2 rfl, .refl _⟩
  have h3 : cnt S 0 < cnt S (reachF N.steps S (1 <<< f.toNat)) := by
    refine cnt_lt (Nat.two_pow_pos S) (reach_lt hG hS hp) (fun x hx => ?_) (fun h0 => ?_)
    · rw [Nat.zero_testBit] at hx; cases hx
    · rw [h0, Nat.zero_testBit] at hb; cases hb
  omega
end
end Go.Proofs.Ytcmfgblfgldonaa
