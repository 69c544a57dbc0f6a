/-
  Tactics, in plain words: what follows.
-/
import Derived.Test.YtcmfgblfgldonaaNP5
import Derived.Test.YtcmfgblfgldonaaN19
namespace Go.Proofs.Ytcmfgblfgldonaa
def clsF (N : PNet) (S : Nat) : List Int := folF N S (reachF N.steps S 1) 20
section
variable {N : PNet} (hG : GoodN N) {S : Nat} (hS : N.states = (S : Int))
include hG hS
theorem mem_follow (a : List Int) (c : Int) : c ∈ followF N S a ↔ ∃ s, s ∈ N.steps ∧ Run N 0 a s.fr.toNat ∧ s.cls = c ∧ Live N s.tgt.toNat := by
  rw [followF, mem_folF, folB_iff]
  constructor
  · rintro ⟨_, s, h1, h2, h3, h4⟩
    obtain ⟨p, hp, hr⟩ := (run_iff N a 1 _).1 h2
    have := (one_bit 0 p).1 hp
    subst this
    exact ⟨s, h1, hr, h3, (alive_iff hG hS (step_lt hG hS h1).2).1 h4⟩
  · rintro ⟨s, h1, h2, rfl, h4⟩
    have h5 := hG.step s h1
    exact ⟨⟨h5.c0, h5.c1⟩, s, h1, (run_iff N a 1 _).2 ⟨0, rfl, h2⟩, rfl, (alive_iff hG hS (step_lt hG hS h1).2).2 h4⟩
theorem mem_classes (c : Int) : c ∈ clsF N S ↔ ∃ s, s ∈ N.steps ∧ Path N 0 s.fr.toNat ∧ s.cls = c ∧ Live N s.tgt.toNat := by
  rw [clsF, mem_folF, folB_iff]
  constructor
  · rintro ⟨_, s, h1, h2, h3, h4⟩
    exact ⟨s, h1, (met_iff hG hS _).1 h2, h3, (alive_iff hG hS (step_lt hG hS h1).2).1 h4⟩
  · rintro ⟨s, h1, h2, rfl, h4⟩
    have h5 := hG.step s h1
    exact ⟨⟨h5.c0, h5.c1⟩, s, h1, (met_iff hG hS _).2 h2, rfl, (alive_iff hG hS (step_lt hG hS h1).2).2 h4⟩
theorem follow_classes {a : List Int} {c : Int} (h : c ∈ followF N S a) : c ∈ clsF N S := by
  obtain ⟨s, h1, h2, h3, h4⟩ := (mem_follow hG hS a c).1 h
  exact (mem_classes hG hS c).2 ⟨s, h1, h2.path, h3, h4⟩
theorem acc_follow {a b : List Int} {c : Int} (h : accF N (a ++ c :: b) = true) : c ∈ followF N S a := by
  obtain ⟨f, hf, hr⟩ := (acc_iff N _).1 h
  obtain ⟨q, h1, h2⟩ := hr.split
  cases h2 with
  | cons s hs h2 => exact (mem_follow hG hS a s.cls).2 ⟨s, hs, h1, rfl, f, hf, h2.path⟩
theorem follows1 {l : List Int} {i : Nat} {x : Int} {r : List Int} (h : accF N l = true) (hd : l.drop i = x :: r) : hasB (followF N S (l.take i)) x = true ∧ hasB (clsF N S) x = true := by
  have h1 : l = l.take i ++ x :: r := by rw [← hd, List.take_append_drop]
  rw [h1] at h
  have h2 := acc_follow hG hS h
  exact ⟨(hasB_iff _ _).2 h2, (hasB_iff _ _).2 (follow_classes hG hS h2)⟩
theorem follows2 {l more : List Int} {c : Int} (h : accF N (([] ++ l ++ [c]) ++ more) = true) : hasB (followF N S l) c = true := by
  refine (hasB_iff _ _).2 (acc_follow hG hS (b := more) ?_)
  rw [← h]
  congr 1
  simp
theorem follows3 {l : List Int} {c : Int} (h : hasB (followF N S l) c = true) : hasB (clsF N S) c = true :=
  (hasB_iff _ _).2 (follow_classes hG hS ((hasB_iff _ _).1 h))
end
end Go.Proofs.Ytcmfgblfgldonaa
