/-
  The examples of chapter 20, in plain words.
-/
import Derived.Test.YtmejihlplbeekaaU5
import Derived.Test.YtmejihlplbeekaaC1
import Derived.Test.YtmejihlplbeekaaS1
namespace Go.Proofs.Ytmejihlplbeekaa
def oneF : PFst := ⟨1, [], [0]⟩
def exF : PFst := ⟨1, [⟨0, 1, 2, 0⟩, ⟨0, 1, 0, 0⟩], [0]⟩
def zeroF : PFst := ⟨0, [], []⟩
def twoF : PFst := ⟨2, [], [1]⟩
theorem one_chk : chk oneF = 0 := by decide
theorem zero_chk : chk zeroF = 2 := by decide
theorem one_right : Right oneF := by
  refine ⟨by decide, (fun a h => by cases h), fun q h => ?_⟩
  have : q = 0 := by simpa [oneF] using h
  subst this
  exact ⟨by decide, by decide⟩
theorem ex_mem {a : PArc} (h : a ∈ exF.arcs) : a = ⟨0, 1, 2, 0⟩ ∨ a = ⟨0, 1, 0, 0⟩ := by simpa [exF] using h
theorem ex_right : Right exF := ⟨by decide, fun a h => by
  rcases ex_mem h with rfl | rfl <;> exact ⟨by decide, by decide, by decide, by decide⟩, fun q h => by
  have : q = 0 := by simpa [exF] using h
  subst this
  exact ⟨by decide, by decide⟩⟩
theorem ex_fin : FinOk exF := ⟨ex_right, ⟨fun a h => by rcases ex_mem h with rfl | rfl <;> exact ⟨by decide, by decide, by decide, by decide, by decide⟩⟩, by simp [exF], by decide, by decide, fun a h => by rcases ex_mem h with rfl | rfl <;> decide⟩
theorem two_right : Right twoF := by
  refine ⟨by decide, (fun a h => by cases h), fun q h => ?_⟩
  have : q = 1 := by simpa [twoF] using h
  subst this
  exact ⟨by decide, by decide⟩
theorem two_fin : FinOk twoF := ⟨two_right, ⟨fun a h => by cases h⟩, by simp [twoF], by decide, by decide, fun a h => by cases h⟩
theorem ex_path (p : List PArc) (hp : ∀ a, a ∈ p → a ∈ exF.arcs) : chain 0 p 0 := by
  induction p with
  | nil => rfl
  | cons a p ih =>
    have h := ih fun b hb => hp b (by simp [hb])
    rcases ex_mem (hp a (by simp)) with rfl | rfl <;> exact ⟨rfl, h⟩
theorem ex_acc (p : List PArc) (hp : ∀ a, a ∈ p → a ∈ exF.arcs) : AccS exF (ins p) startS (outs p) :=
  ⟨⟨0, 0⟩, by simp [startS], 0, by simp [exF], p, hp, ex_path p hp, rfl, rfl⟩
theorem ex_syms : symsX exF.arcs = [2] := by decide
theorem ex_all : allW exF [1, 1] 2 = [[], [2], [2, 2]] := by
  have h0 := ex_acc [⟨0, 1, 0, 0⟩, ⟨0, 1, 0, 0⟩] (fun a h => by simp at h; simp [exF, h])
  have h1 := ex_acc [⟨0, 1, 2, 0⟩, ⟨0, 1, 0, 0⟩] (fun a h => by simp at h; rcases h with rfl | rfl <;> simp [exF])
  have h2 := ex_acc [⟨0, 1, 2, 0⟩, ⟨0, 1, 2, 0⟩] (fun a h => by simp at h; simp [exF, h])
  simp only [ins, outs, sym, List.flatMap_cons, List.flatMap_nil] at h0 h1 h2
  simp at h0 h1 h2
  unfold allW
  rw [ex_syms]
  simp [enumW, h0, h1, h2]
theorem ex_out3 : outF exF [1, 1] 2 3 = ([[], [2], [2, 2]], true) := by
  unfold outF
  rw [if_neg (by omega), if_neg (by decide), show (2 : Int).toNat = 2 from rfl, ex_all]
  rfl
theorem ex_out2 : outF exF [1, 1] 2 2 = ([], false) := by
  unfold outF
  rw [if_neg (by omega), if_neg (by decide), show (2 : Int).toNat = 2 from rfl, ex_all]
  rfl
theorem one_acc : accB oneF [] [] = true := (accB_iff _ _ _).2 ⟨rfl, rfl, 0, by simp [oneF], [], (fun a h => by cases h), rfl, rfl, rfl⟩
theorem one_acc1 : accB oneF [1] [] = false := by
  rw [← Bool.not_eq_true, accB_iff]
  rintro ⟨_, _, q, _, p, h1, _, h3, _⟩
  cases p with
  | nil => simp [ins] at h3
  | cons a p => have := h1 a (by simp); cases this
theorem ex_acc2 : accB exF [1, 1] [2] = true := (accB_iff _ _ _).2 ⟨rfl, rfl, 0, by simp [exF], [⟨0, 1, 2, 0⟩, ⟨0, 1, 0, 0⟩], fun a h => by simp at h; rcases h with rfl | rfl <;> simp [exF], ⟨rfl, rfl, rfl⟩, rfl, rfl⟩
theorem ex_acc22 : accB exF [1] [2, 2] = false := by
  rw [← Bool.not_eq_true, accB_iff]
  rintro ⟨_, _, q, _, p, h1, _, h3, h4⟩
  have hi : ∀ p : List PArc, (∀ a, a ∈ p → a ∈ exF.arcs) → (outs p).length ≤ (ins p).length := by
    intro p
    induction p with
    | nil => intro _; simp [outs, ins]
    | cons a p ih =>
      intro hp
      have := ih fun b hb => hp b (by simp [hb])
      have e1 : outs (a :: p) = sym a.out ++ outs p := by simp [outs]
      have e2 : ins (a :: p) = sym a.inp ++ ins p := by simp [ins]
      rw [e1, e2, List.length_append, List.length_append]
      rcases ex_mem (hp a (by simp)) with rfl | rfl
      · dsimp only
        have e3 : (sym (2 : Int)).length = 1 := rfl
        have e4 : (sym (1 : Int)).length = 1 := rfl
        omega
      · dsimp only
        have e3 : (sym (0 : Int)).length = 0 := rfl
        have e4 : (sym (1 : Int)).length = 1 := rfl
        omega
  have := hi p h1
  rw [h3, h4] at this
  simp at this
theorem ex_use : useB exF 0 = true := useB_iff.2 ⟨.base _ (by simp), .base _ (by simp [exF])⟩
theorem ex_useful : usefulL exF = [0] := by
  have : exF.states.toNat = 1 := rfl
  unfold usefulL
  rw [this, useK_succ, ex_use]
  rfl
theorem ex_empty : emptyB exF = false := by
  unfold emptyB
  rw [ex_useful]
  rfl
theorem no_arcs {d : Bool} {S0 : Int → Prop} {q : Int} (h : Rch [] d S0 q) : S0 q := by
  cases h with
  | base _ h => exact h
  | step a ha _ => cases ha
theorem two_use (q : Nat) : useB twoF q = false := by
  rw [← Bool.not_eq_true, useB_iff]
  rintro ⟨h1, h2⟩
  have e1 := no_arcs h1
  have e2 := no_arcs h2
  simp [twoF] at e1 e2
  omega
theorem two_empty : emptyB twoF = true := by
  have : usefulL twoF = [] := by
    unfold usefulL useK
    rw [List.filter_eq_nil_iff.2 (fun q _ => by rw [two_use]; simp)]
    rfl
  unfold emptyB
  rw [this]
  rfl
theorem ex_trim : trimF exF = exF := by
  have h0 : cntU exF 1 = 0 := by rw [cntU_succ]; simp [cntU]
  have h1 : exF.states.toNat = 1 := rfl
  unfold trimF
  rw [h1, h0]
  have ha : trimA exF exF.arcs = exF.arcs := by
    simp [trimA, exF]
    have := ex_use
    simp only [exF] at this
    simp [this]
    rfl
  have he : trimE exF exF.final = exF.final := by
    simp [trimE, exF]
    have := ex_use
    simp only [exF] at this
    simp [this]
    rfl
  rw [ha, he]
  rfl
theorem one_ne : oneF ≠ exF := by
  intro h
  have := congrArg (fun F => F.arcs.length) h
  simp [oneF, exF] at this
end Go.Proofs.Ytmejihlplbeekaa
