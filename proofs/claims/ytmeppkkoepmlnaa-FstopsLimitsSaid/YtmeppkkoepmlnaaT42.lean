/-
  FstopsLimits: what the operations return, right or too large; arrays of two numbers.
-/
import Derived.Test.YtmeppkkoepmlnaaT41
import Derived.Test.YtmeppkkoepmlnaaT27
namespace Go.Proofs.Ytmeppkkoepmlnaa
open Go.ChangeShapes Go.WideShapes Go.ChangeAt Go.RowKit Go.Deep Go.Joins
section
variable {H : Type} {enc : TypeId × Value → H} {w : World} {base : Nat} {spare : Nat → Bool} {held : Bool}
theorem open_P {r : Reach} {b0 : Nat} {v : Value} {d : DataW H} {p : List MemPlace} (hv : Value.okWide Try.prog w r b0 49 v) (h : DataW.Trod enc Try.prog w base spare held 49 v d p) : ∃ x y : Int, v = .agg #[.int .i64 x, .int .i64 y] := by
  have hc : ∃ cs, v = .agg cs ∧ cs.size = 2 := by
    simp only [Value.okWide, Try.underlying49] at hv
    obtain ⟨cs, h1, h2, _⟩ := hv
    exact ⟨cs, h1, h2.trans (by kernel_rfl)⟩
  obtain ⟨cs, rfl, hsz⟩ := hc
  obtain ⟨c0, c1, rfl⟩ := array2 hsz
  obtain ⟨fuel, hf⟩ := h
  obtain ⟨xs, m, _, _, _, hl, hi⟩ := DataW.trod_array Try.underlying49 hf
  have e1 : Try.prog.cellsOf 3 = 1 := by kernel_rfl
  have h0 := hi 0 (by omega)
  have h1 := hi 1 (by omega)
  rw [e1] at h0 h1
  have h0' : DataW.trod enc Try.prog w base spare held m 3 [c0] = some (xs[0]'(by omega)) := by simpa [Value.cells, hl] using h0
  have h1' : DataW.trod enc Try.prog w base spare held m 3 [c1] = some (xs[1]'(by omega)) := by simpa [Value.cells, hl] using h1
  obtain ⟨x, rfl⟩ := open_int1 h0'
  obtain ⟨y, rfl⟩ := open_int1 h1'
  exact ⟨x, y, rfl⟩
end
/-- three stores into a struct's block -/
def set3 (w : World) (R : Nat) (a b c : Value) : World := ((w.setCell ⟨R, 0, none⟩ a).setCell ⟨R, 1, none⟩ b).setCell ⟨R, 2, none⟩ c
theorem FBlk.set3 {w : World} {R : Nat} {x y z : Value} (h : FBlk w R x y z) (a b c : Value) : FBlk (set3 w R a b c) R a b c := by
  unfold FBlk at h
  simp [FBlk, Go.Proofs.Ytmeppkkoepmlnaa.set3, World.setCell, Array.getElem?_modify, h]
theorem FBlk.other3 {w : World} {R S : Nat} {x y z : Value} (h : FBlk w R x y z) (hne : R ≠ S) (a b c : Value) : FBlk (Go.Proofs.Ytmeppkkoepmlnaa.set3 w S a b c) R x y z := by
  unfold FBlk at h
  have hne' : S ≠ R := Ne.symm hne
  simp [FBlk, Go.Proofs.Ytmeppkkoepmlnaa.set3, World.setCell, Array.getElem?_modify, h, hne']
theorem OwnF.set3 {base : Nat} {w : World} {R : Nat} {x y z v : Value} {F : PFst} (h : OwnF base w v F) (hR : FBlk w R x y z) (a b c : Value) : OwnF base (Go.Proofs.Ytmeppkkoepmlnaa.set3 w R a b c) v F := by
  obtain ⟨va, vf, rfl, h1, h2⟩ := h
  have hA : va.ownBlock ≠ some R := fun he => by
    obtain ⟨cs, hc⟩ := row_type h1 he
    exact ne_of_type hR hc (by decide) rfl
  have hI : vf.ownBlock ≠ some R := fun he => by
    obtain ⟨cs, hc⟩ := row_type h2 he
    exact ne_of_type hR hc (by decide) rfl
  exact ⟨va, vf, rfl, own_setCell (own_setCell (own_setCell h1 hA _ _) hA _ _) hA _ _, own_setCell (own_setCell (own_setCell h2 hI _ _) hI _ _) hI _ _⟩
theorem Box.two {base base' : Nat} {w : World} {R S : Nat} {x y z x' y' z' va vf ua uf : Value} {F G : PFst} (h : OwnF base w (.agg #[.int .i64 F.states, va, vf]) F) (k : OwnF base' w (.agg #[.int .i64 G.states, ua, uf]) G) (hR : FBlk w R x y z) (hS : FBlk w S x' y' z') (hne : R ≠ S) :
    Box (set3 (set3 w R (.int .i64 F.states) va vf) S (.int .i64 G.states) ua uf) R F ∧ Box (set3 (set3 w R (.int .i64 F.states) va vf) S (.int .i64 G.states) ua uf) S G := by
  have hS' := hS.other3 (Ne.symm hne) (.int .i64 F.states) va vf
  exact ⟨⟨va, vf, (hR.set3 _ _ _).other3 hne _ _ _, ((h.set3 hR _ _ _).set3 hS' _ _ _).rd⟩, ⟨ua, uf, hS'.set3 _ _ _, ((k.set3 hR _ _ _).set3 hS' _ _ _).rd⟩⟩
theorem Below.set3 {B : Nat} {a w : World} {R : Nat} (h : Below B a w) (hR : B ≤ R) (x y z : Value) : Below B a (Go.Proofs.Ytmeppkkoepmlnaa.set3 w R x y z) := ((h.setCell (p := ⟨R, 0, none⟩) hR _).setCell (p := ⟨R, 1, none⟩) hR _).setCell (p := ⟨R, 2, none⟩) hR _
theorem OwnF.zero (base : Nat) (w : World) : OwnF base w (.agg #[.int .i64 0, .slice none 0 0, .slice none 0 0]) ⟨0, [], []⟩ := ⟨_, _, rfl, World.ownsRow_nil _ _ _ _, World.ownsRow_nil _ _ _ _⟩
/-- what an operation returns: the transducer, or the zero transducer and the error -/
structure Ret (full : Bool) (F G : PFst) (e : Int) : Prop where
  yes : full = true → e = 11
  no : full = false → e = 0 ∧ G = F ∧ Good F
theorem large_good (s n : Nat) (h1 : 1 ≤ s) (h2 : s ≤ 1100) (h3 : n ≤ 10100) : Good (largeF s n) := by
  refine ⟨by simp [largeF]; omega, by simp [largeF]; omega, by simp [largeF, largeArcs_length]; omega, ?_, by simp [largeF], by simp [largeF]; omega⟩
  intro a ha
  simp only [largeF, largeArcs, List.mem_map, List.mem_range] at ha
  obtain ⟨i, _, rfl⟩ := ha
  have hp : (0 : Int) < (s : Int) := by omega
  exact ⟨⟨Int.emod_nonneg _ (by omega), Int.emod_lt_of_pos _ hp⟩, ⟨by simp, by simpa [largeF] using hp⟩, ⟨by simp, by simp⟩, ⟨by simp, by simp⟩⟩
theorem union_both (v u : Value) (a b : PFst) (w : World) (hv : RdF w v a) (hu : RdF w u b) (ha : Good a) (hb : Good b) :
    Calls Try.prog 33 #[v, u] w fun e w' => (∃ vF x G, e = .returned (.tuple #[vF, .int .i64 x]) ∧ OwnF w.heap.size w' vF G ∧ Ret (fullB [a, b]) (unionF a b) G x) ∧ Below w.heap.size w w' := by
  cases hf : fullB [a, b]
  · refine (unionF_any v u a b w hv hu ha.sane hb.sane hf (by have := ha.s2; omega)).mono ?_
    rintro e w' ⟨⟨vF, he, ho⟩, hbl⟩
    simp only [fullB, sumS, sumA, Bool.or_eq_false_iff] at hf
    simp at hf
    exact ⟨⟨vF, 0, _, he, ho, fun h => (by cases h), fun _ => ⟨rfl, rfl, union_good ha hb (by omega) (by omega)⟩⟩, hbl⟩
  · refine (union_full v u a b w hv hu ha.sane hb.sane hf).mono ?_
    rintro e w' ⟨he, hbl⟩
    exact ⟨⟨_, 11, _, he, OwnF.zero _ _, fun _ => rfl, fun h => (by cases h)⟩, hbl⟩
theorem final_1100 {a : PFst} (h : Good a) (hs : a.states ≤ 1000) : a.final.length ≤ 1100 := by have := final_len h.ord h.fin; omega
theorem concat_both (v u : Value) (a b : PFst) (w : World) (hv : RdF w v a) (hu : RdF w u b) (ha : Good a) (hb : Good b) :
    Calls Try.prog 34 #[v, u] w fun e w' => (∃ vF x G, e = .returned (.tuple #[vF, .int .i64 x]) ∧ OwnF w.heap.size w' vF G ∧ Ret (fullB [a, b]) (concatF a b) G x) ∧ Below w.heap.size w w' := by
  cases hf : fullB [a, b]
  · refine (concatF_any v u a b w hv hu ha.sane hb.sane hf).mono ?_
    rintro e w' ⟨⟨vF, he, ho⟩, hbl⟩
    simp only [fullB, sumS, sumA, Bool.or_eq_false_iff] at hf
    simp at hf
    have h1 := hb.s1
    exact ⟨⟨vF, 0, _, he, ho, fun h => (by cases h), fun _ => ⟨rfl, rfl, concat_good ha hb (by omega) (by omega) (final_1100 ha (by omega))⟩⟩, hbl⟩
  · refine (concat_full v u a b w hv hu ha.sane hb.sane hf).mono ?_
    rintro e w' ⟨he, hbl⟩
    exact ⟨⟨_, 11, _, he, OwnF.zero _ _, fun _ => rfl, fun h => (by cases h)⟩, hbl⟩
theorem star_both (v : Value) (a : PFst) (w : World) (hv : RdF w v a) (ha : Good a) :
    Calls Try.prog 25 #[v] w fun e w' => (∃ vF x G, e = .returned (.tuple #[vF, .int .i64 x]) ∧ OwnF w.heap.size w' vF G ∧ Ret (fullB [a]) (starF a) G x) ∧ Below w.heap.size w w' := by
  cases hf : fullB [a]
  · refine (star_yes v a w hv ha.sane hf).mono ?_
    rintro e w' ⟨⟨vF, he, ho⟩, hbl⟩
    simp only [fullB, sumS, sumA, Bool.or_eq_false_iff] at hf
    simp at hf
    exact ⟨⟨vF, 0, _, he, ho, fun h => (by cases h), fun _ => ⟨rfl, rfl, star_good ha (by omega) (by omega) (final_1100 ha (by omega))⟩⟩, hbl⟩
  · refine (star_full v a w hv ha.sane hf).mono ?_
    rintro e w' ⟨he, hbl⟩
    exact ⟨⟨_, 11, _, he, OwnF.zero _ _, fun _ => rfl, fun h => (by cases h)⟩, hbl⟩
theorem compose_both (v u : Value) (a b : PFst) (w : World) (hv : RdF w v a) (hu : RdF w u b) (ha : Good a) (hb : Good b) :
    Calls Try.prog 28 #[v, u] w fun e w' => (∃ vF x G, e = .returned (.tuple #[vF, .int .i64 x]) ∧ OwnF w.heap.size w' vF G ∧ Ret (manyB a b) (compF a b) G x) ∧ Below w.heap.size w w' := by
  cases hf : manyB a b
  · refine (compose_any v u a b w hv hu ha hb hf).mono ?_
    rintro e w' ⟨⟨vF, he, ho⟩, hbl⟩
    exact ⟨⟨vF, 0, _, he, ho, fun h => (by cases h), fun _ => ⟨rfl, rfl, compF_good ha hb (fits_of ha.s1 hb.s1 hf)⟩⟩, hbl⟩
  · refine (compose_full v u a b w hv hu ha.sane hb.sane hf).mono ?_
    rintro e w' ⟨he, hbl⟩
    exact ⟨⟨_, 11, _, he, OwnF.zero _ _, fun _ => rfl, fun h => (by cases h)⟩, hbl⟩
/-- block R is an array of two numbers -/
def PBlk (w : World) (R : Nat) (x y : Int) : Prop := w.heap[R]? = some (.cells #[.int .i64 x, .int .i64 y] 49 (0, 0))
theorem PBlk.lt {w : World} {R : Nat} {x y : Int} (h : PBlk w R x y) : R < w.heap.size := (Array.getElem?_eq_some_iff.1 h).1
theorem PBlk.below {w w' : World} {R : Nat} {x y : Int} (h : PBlk w R x y) (hb : Below w.heap.size w w') : PBlk w' R x y := (hb.block R h.lt).trans h
theorem PBlk.facts {w : World} {R : Nat} {x y : Int} (h : PBlk w R x y) : w.cell? ⟨R, 0, none⟩ = some (.int .i64 x) ∧ w.cell? ⟨R, 1, none⟩ = some (.int .i64 y) ∧ R < w.heap.size := by
  refine ⟨?_, ?_, h.lt⟩ <;> rw [cell_of_row w R _ _ _ (0, 0) h] <;> rfl
/-- in bounds -/
def Bd (x y : Int) : Prop := 1 ≤ x ∧ x ≤ 1100 ∧ 0 ≤ y ∧ y ≤ 10100
end Go.Proofs.Ytmeppkkoepmlnaa
