/-
  awake: the examples of the chapter.
-/
import Derived.Test.YtmeppkkoepmlnaaT22
namespace Go.Proofs.Ytmeppkkoepmlnaa
open Go.ChangeShapes Go.WideShapes Go.ChangeAt Go.RowKit
theorem symOk_of {l : List Int} (h : symsB l = true) : SymOk l := by
  intro x hx
  have := List.all_eq_true.1 h x hx
  simpa [symOk1] using this
def exC : PFst := compF (pairF [1] [2]) (pairF [2] [3, 3])
def exS : PFst := starF (pairF [1] [])
def exN : PFst := identF []
theorem goodP1 : Good (pairF [1] [2]) := pair_good _ _ (symOk_of rfl) (symOk_of rfl) (by decide) (by decide)
theorem goodP2 : Good (pairF [2] [3, 3]) := pair_good _ _ (symOk_of rfl) (symOk_of rfl) (by decide) (by decide)
theorem goodP3 : Good (pairF [1] []) := pair_good _ _ (symOk_of rfl) (symOk_of rfl) (by decide) (by decide)
theorem ex_many : manyB (pairF [1] [2]) (pairF [2] [3, 3]) = false := rfl
theorem ex_full : fullB [pairF [1] []] = false := rfl
theorem goodC : Good exC := compF_good goodP1 goodP2 (fits_of goodP1.s1 goodP2.s1 ex_many)
theorem goodS : Good exS := star_good goodP3 (by decide) (by decide) (by decide)
theorem goodN : Good exN := ident_good [] (symOk_of rfl) (by decide)
theorem accC (xs zs : List Int) : Acc exC xs zs ↔ xs = [1] ∧ zs = [3, 3] := by
  rw [exC, comp_acc goodP1 goodP2 (compF_is (by decide) (by decide)) goodC]
  constructor
  · rintro ⟨ys, h1, h2⟩
    rw [pair_acc _ _ _ _ (symOk_of rfl) (symOk_of rfl) (by decide) (by decide)] at h1 h2
    exact ⟨h1.1, h2.2⟩
  · rintro ⟨rfl, rfl⟩
    exact ⟨[2], (pair_acc _ _ _ _ (symOk_of rfl) (symOk_of rfl) (by decide) (by decide)).2 ⟨rfl, rfl⟩, (pair_acc _ _ _ _ (symOk_of rfl) (symOk_of rfl) (by decide) (by decide)).2 ⟨rfl, rfl⟩⟩
theorem accS_out {xs ys : List Int} (h : Acc exS xs ys) : ys = [] := by
  rw [exS, star_acc goodP3 (by decide) (by decide) (by decide)] at h
  obtain ⟨L, hL, h0, rfl⟩ := h
  clear h0
  induction L with
  | nil => rfl
  | cons p L ih =>
    have h1 := hL p (by simp)
    rw [pair_acc _ _ _ _ (symOk_of rfl) (symOk_of rfl) (by decide) (by decide)] at h1
    rw [List.flatMap_cons, h1.2, ih fun q hq => hL q (by simp [hq])]
    rfl
theorem accS_one : Acc (pairF [1] []) [1] [] := (pair_acc _ _ _ _ (symOk_of rfl) (symOk_of rfl) (by decide) (by decide)).2 ⟨rfl, rfl⟩
theorem accS_11 : Acc exS [1, 1] [] := by
  rw [exS, star_acc goodP3 (by decide) (by decide) (by decide)]
  exact Rep.cons (x1 := [1]) (y1 := []) accS_one (Rep.cons (x1 := [1]) (y1 := []) (x2 := []) (y2 := []) accS_one (Rep.nil _))
theorem accS_0 : Acc exS [] [] := by
  rw [exS, star_acc goodP3 (by decide) (by decide) (by decide)]
  exact Rep.nil _
theorem acc_yes {F : PFst} {xs ys : List Int} (h : Acc F xs ys) : accB F xs ys = true := (accB_iff _ _ _).2 h
theorem acc_no {F : PFst} {xs ys : List Int} (h : ¬ Acc F xs ys) : accB F xs ys = false := by rw [← Bool.not_eq_true, accB_iff]; exact h
theorem ex1 : accB exC [1] [3, 3] = true := acc_yes ((accC _ _).2 ⟨rfl, rfl⟩)
theorem ex2 : accB exC [1] [3] = false := acc_no fun h => by have := ((accC _ _).1 h).2; cases this
theorem ex3 : accB exC [] [] = false := acc_no fun h => by have := ((accC _ _).1 h).2; cases this
theorem ex4 : accB exS [1, 1] [] = true := acc_yes accS_11
theorem ex5 : accB exS [] [] = true := acc_yes accS_0
theorem ex6 : accB exS [1] [1] = false := acc_no fun h => by have := accS_out h; cases this
theorem ex7 : accB exN [] [] = true := acc_yes ((ident_acc [] (symOk_of rfl) (by decide) _ _).2 ⟨rfl, by simp⟩)
theorem ex8 : accB exN [1] [1] = false := acc_no fun h => by have := ((ident_acc [] (symOk_of rfl) (by decide) _ _).1 h).2 1 (by simp); cases this
theorem rdI_one (w : World) (x : Int) (g : Nat) (hg : w.heap.size = g) : RdI (w.alloc (.cells #[.int .i64 x] 3)) (.slice (some ⟨g, 0, none⟩) 1 1) [x] := by
  subst hg
  refine ⟨_, 1, rfl, by simp, by decide, rfl, fun _ => ⟨w.heap.size, 0, rfl, by simp, ?_⟩⟩
  intro j u hu
  match j, hu with
  | 0, hu => simp at hu; subst hu; simp [go_sem]
theorem rdI_two (w : World) (x y : Int) (g : Nat) (hg : w.heap.size = g) : RdI (w.alloc (.cells #[.int .i64 x, .int .i64 y] 3)) (.slice (some ⟨g, 0, none⟩) 2 2) [x, y] := by
  subst hg
  refine ⟨_, 2, rfl, by simp, by decide, rfl, fun _ => ⟨w.heap.size, 0, rfl, by simp, ?_⟩⟩
  intro j u hu
  match j, hu with
  | 0, hu => simp at hu; subst hu; simp [go_sem]
  | 1, hu => simp at hu; subst hu; simp [go_sem]
theorem rdI_nil (w : World) : RdI w (.slice none 0 0) [] := ⟨none, 0, rfl, by simp, by decide, rfl, fun h => absurd h (Nat.lt_irrefl 0)⟩
theorem RdI.alloc {w : World} {v : Value} {xs : List Int} (h : RdI w v xs) (o : Obj) : RdI (w.alloc o) v xs := Rd.alloc h o
theorem RdF.alloc {w : World} {v : Value} {F : PFst} (h : RdF w v F) (o : Obj) : RdF (w.alloc o) v F := h.below ((Below.refl _ _).alloc (Nat.le_refl _) _)
theorem alloc_below {w w' : World} {o : Obj} (h : Below (w.alloc o).heap.size (w.alloc o) w') : Below w.heap.size w w' := bchain ((Below.refl _ _).alloc (Nat.le_refl _) _) h
theorem alloc2_below {w w' : World} {o o' : Obj} (h : Below ((w.alloc o).alloc o').heap.size ((w.alloc o).alloc o') w') : Below w.heap.size w w' := alloc_below (alloc_below h)
theorem FBlk.alloc {w : World} {R : Nat} {x y z : Value} (h : FBlk w R x y z) (o : Obj) : FBlk (w.alloc o) R x y z := h.below ((Below.refl _ _).alloc (Nat.le_refl _) _)
/-- a transducer in a box -/
def Box (w : World) (R : Nat) (F : PFst) : Prop := ∃ va vf, FBlk w R (.int .i64 F.states) va vf ∧ RdF w (.agg #[.int .i64 F.states, va, vf]) F
theorem Box.below {w w' : World} {R : Nat} {F : PFst} (h : Box w R F) (hb : Below w.heap.size w w') : Box w' R F := by
  obtain ⟨va, vf, h1, h2⟩ := h
  exact ⟨va, vf, h1.below hb, h2.below hb⟩
/-- what a box gives to the walk -/
theorem Box.open {w : World} {R : Nat} {F : PFst} (h : Box w R F) : ∃ A n c A' n' c', w.cell? ⟨R, 0, none⟩ = some (.int .i64 F.states) ∧ w.cell? ⟨R, 1, none⟩ = some (.slice A n c) ∧ w.cell? ⟨R, 2, none⟩ = some (.slice A' n' c') ∧ R < w.heap.size ∧
    Hid (RdF w (.agg #[.int .i64 F.states, .slice A n c, .slice A' n' c']) F) := by
  obtain ⟨va, vf, h1, h2⟩ := h
  obtain ⟨xa, xf, he, ha, hf⟩ := id h2
  cases he
  obtain ⟨A, n, c, rfl, _, _, _, _⟩ := ha.op
  obtain ⟨A', n', c', rfl, _, _, _, _⟩ := hf.op
  obtain ⟨f0, f1, f2, _, _, _⟩ := h1.facts
  exact ⟨A, n, c, A', n', c', f0, f1, f2, h1.lt, h2⟩
theorem Box.make {w : World} {va vf : Value} {F : PFst} (h : RdF w (.agg #[.int .i64 F.states, va, vf]) F) : Box (w.alloc (.cells #[.int .i64 F.states, va, vf] 29)) w.heap.size F :=
  ⟨va, vf, heap_alloc_new w _, h.alloc _⟩
end Go.Proofs.Ytmeppkkoepmlnaa
