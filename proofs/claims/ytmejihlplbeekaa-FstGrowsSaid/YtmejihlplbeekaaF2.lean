/-
  The arguments of the statements, opened: lists of ints, transducers, pairs.
-/
import Derived.Test.YtmejihlplbeekaaF1
import Derived.Lib.SmallJoins
import Derived.ShutString
import Derived.ChangeOld
import Derived.ChangeSame
import Derived.Deep.Slices
import Derived.Deep.Fields
namespace Go.Proofs.Ytmejihlplbeekaa
open Go.ChangeShapes Go.WideShapes Go.ChangeAt Go.RowKit Go.Deep Go.Joins
theorem rdI_nil (w : World) : RdI w (.slice none 0 0) [] := ⟨none, 0, rfl, by simp, by decide, rfl, fun h => absurd h (Nat.lt_irrefl 0)⟩
theorem RdI.alloc {w : World} {v : Value} {xs : List Int} (h : RdI w v xs) (o : Obj) : RdI (w.alloc o) v xs := Rd.alloc h o
theorem RdF.alloc {w : World} {v : Value} {F : PFst} (h : RdF w v F) (o : Obj) : RdF (w.alloc o) v F := h.below ((Below.refl _ _).alloc (Nat.le_refl _) _)
theorem alloc_below {w w' : World} {o : Obj} (h : Below (w.alloc o).heap.size (w.alloc o) w') : Below w.heap.size w w' := bchain ((Below.refl _ _).alloc (Nat.le_refl _) _) h
theorem FBlk.alloc {w : World} {R : Nat} {x y z : Value} (h : FBlk w R x y z) (o : Obj) : FBlk (w.alloc o) R x y z := h.below ((Below.refl _ _).alloc (Nat.le_refl _) _)
theorem ownK : ownKnob Try.prog.godebug = none := by kernel_rfl
theorem laidOut : laidOutB Try.prog = true := by kernel_rfl
theorem add_none {b off j : Nat} : (⟨b, off, none⟩ : Addr).add j = ⟨b, off + j, none⟩ := by unfold Addr.add; split <;> simp_all
section
variable {H : Type} {enc : TypeId × Value → H} {w : World} {base : Nat} {spare : Nat → Bool} {held : Bool}
theorem open_slice_fields {P : Program} {t e : TypeId} {fs : Array Field} {fuel : Nat} {cs : List Value} {x : DataW H × List MemPlace} (ht : P.underlying t = some (.slice e)) (he : P.underlying e = some (.struct fs))
    (hone : oneCellFields P fs = true) (hC : P.cellsOf e = fs.size) (h : DataW.trod enc P w base spare held fuel t cs = some x) :
    (cs = [.slice none 0 0]) ∨
    ∃ (a : Addr) (len cap : Nat), cs = [.slice (some a) len cap] ∧ len ≤ cap ∧ cap ≤ maxLen ∧
      ∀ i, i < len → ∀ (j : Nat) (f : Field), fs[j]? = some f → ∃ (v : Value) (y : DataW H × List MemPlace) (n : Nat), w.cell? (a.add (i * fs.size + j)) = some v ∧ DataW.trod enc P w base spare held n f.type [v] = some y := by
  rcases open_slice ht h with h0 | ⟨a, len, cap, m, n, D, Pl, hcs, hb, hl, hm, hmm, hx, hi⟩
  · exact .inl h0.1
  · refine .inr ⟨a, len, cap, hcs, hl, hm, fun i him j f hj => ?_⟩
    have him' : i < m := by rw [hmm]; split <;> omega
    obtain ⟨cs', hc, ht'⟩ := hi i him'
    rw [hC] at hc
    obtain ⟨ys, n', hn', hy, hlen, hyl, hf⟩ := DataW.trod_struct he ht'
    obtain ⟨_, hcl, hat⟩ := World.cells?_some hc
    obtain ⟨ho, hk⟩ := hone_of hone j f hj
    have hjl : j < fs.size := (Array.getElem?_eq_some_iff.1 hj).1
    have hcell := hat j hjl
    have hv : cs'[j]? = some (cs'[j]'(by omega)) := List.getElem?_eq_getElem (by omega)
    have h1 := hf j f hj
    rw [ho, hk] at h1
    have hone' : (cs'.drop j).take 1 = [cs'[j]'(by omega)] := by
      rw [List.drop_eq_getElem_cons (by omega)]
      rfl
    rw [hone'] at h1
    have hys : ys[j]? = some (ys[j]'(by omega)) := List.getElem?_eq_getElem (by omega)
    refine ⟨_, _, n', ?_, h1.trans hys⟩
    rw [← Go.Deep.add_add, hcell, hv]
theorem open_I {fuel : Nat} {v : Value} {x : DataW H × List MemPlace} (h : DataW.trod enc Try.prog w base spare held fuel 23 [v] = some x) : ∃ xs, RdI w v xs := by
  rcases open_ints Try.underlying23 Try.underlying3 (by kernel_rfl) h with ⟨hcs, _⟩ | ⟨a, l, c, zs, hcs, _, hl, hm, hz, _, hcell, hwz⟩
  · simp at hcs
    subst hcs
    exact ⟨[], rdI_nil w⟩
  · simp at hcs
    subst hcs
    have hzl : l ≤ zs.length := by rw [hz]; split <;> omega
    have hlen : (zs.take l).length = l := by simp; omega
    refine ⟨zs.take l, some a, c, by rw [hlen], by rw [hlen]; exact hl, by unfold maxLen at hm; exact hm, by simp, fun hn => ?_⟩
    rw [hlen] at hn
    obtain ⟨b, off, spot⟩ := a
    have hc := hcell 0 (by omega)
    have hspot : spot = none := by simpa [Addr.add] using World.cell?_spot hc
    subst hspot
    refine ⟨b, off, rfl, World.block_lt_of_cell? w _ hc, fun j u hu => ?_⟩
    simp only [List.getElem?_map, Option.map_eq_some_iff] at hu
    obtain ⟨z, hz1, rfl⟩ := hu
    rw [List.getElem?_take] at hz1
    split at hz1
    · have h2 := hcell j (by omega)
      rw [add_none] at h2
      rw [h2]
      simp [List.getD, hz1]
    · cases hz1
theorem open_int1 {fuel : Nat} {v : Value} {x : DataW H × List MemPlace} (h : DataW.trod enc Try.prog w base spare held fuel 3 [v] = some x) : ∃ n : Int, v = .int .i64 n := by
  obtain ⟨n, h1, _⟩ := DataW.trod_int Try.underlying3 h
  simp at h1
  exact ⟨n, h1⟩
theorem list_of {α : Type} (n : Nat) (P : Nat → α → Prop) (h : ∀ i, i < n → ∃ x, P i x) : ∃ l : List α, l.length = n ∧ ∀ i x, l[i]? = some x → P i x := by
  induction n with
  | zero => exact ⟨[], rfl, fun i x hx => by simp at hx⟩
  | succ n ih =>
    obtain ⟨l, hl, hp⟩ := ih fun i hi => h i (by omega)
    obtain ⟨x, hx⟩ := h n (by omega)
    refine ⟨l ++ [x], by simp [hl], fun i y hy => ?_⟩
    by_cases hi : i < l.length
    · rw [List.getElem?_append_left hi] at hy; exact hp i y hy
    · rw [List.getElem?_append_right (by omega)] at hy
      by_cases h0 : i - l.length = 0
      · rw [h0] at hy
        simp at hy
        subst hy
        rw [show i = n by omega]; exact hx
      · rw [List.getElem?_eq_none (by simp; omega)] at hy; cases hy
theorem arcCells_at (a : PArc) (j : Nat) (u : Value) (h : (arcCells a)[j]? = some u) : (j = 0 ∧ u = .int .i64 a.fr) ∨ (j = 1 ∧ u = .int .i64 a.inp) ∨ (j = 2 ∧ u = .int .i64 a.out) ∨ (j = 3 ∧ u = .int .i64 a.tgt) := by
  unfold arcCells at h
  match j, h with
  | 0, h => simp at h; exact .inl ⟨rfl, h.symm⟩
  | 1, h => simp at h; exact .inr (.inl ⟨rfl, h.symm⟩)
  | 2, h => simp at h; exact .inr (.inr (.inl ⟨rfl, h.symm⟩))
  | 3, h => simp at h; exact .inr (.inr (.inr ⟨rfl, h.symm⟩))
theorem arcsCells_split (l : List PArc) (j : Nat) (u : Value) (h : (arcsCells l)[j]? = some u) : ∃ a, l[j / 4]? = some a ∧ (arcCells a)[j % 4]? = some u := by
  have hj : j < (arcsCells l).length := (List.getElem?_eq_some_iff.1 h).1
  rw [arcsCells_length] at hj
  have hk : j / 4 < l.length := by omega
  have he := arcsCells_at l (j / 4) hk (j % 4) (Nat.mod_lt _ (by omega))
  rw [show j / 4 * 4 + j % 4 = j by omega, h] at he
  exact ⟨l[j / 4], List.getElem?_eq_getElem hk, he.symm⟩
theorem open_A {fuel : Nat} {v : Value} {x : DataW H × List MemPlace} (h : DataW.trod enc Try.prog w base spare held fuel 22 [v] = some x) : ∃ l, RdA w v l := by
  rcases open_slice_fields Try.underlying22 Try.underlying42 (by kernel_rfl) (by kernel_rfl) h with hcs | ⟨a, len, cap, hcs, hl, hm, hc⟩
  · simp at hcs
    subst hcs
    exact ⟨[], none, 0, rfl, by simp, by decide, rfl, fun h => absurd h (Nat.lt_irrefl 0)⟩
  · simp at hcs
    subst hcs
    obtain ⟨l, hll, hlp⟩ := list_of len (fun i (y : PArc) => w.cell? (a.add (i * 4 + 0)) = some (.int .i64 y.fr) ∧ w.cell? (a.add (i * 4 + 1)) = some (.int .i64 y.inp) ∧ w.cell? (a.add (i * 4 + 2)) = some (.int .i64 y.out) ∧ w.cell? (a.add (i * 4 + 3)) = some (.int .i64 y.tgt)) (fun i hi => by
      obtain ⟨v0, _, _, c0, t0⟩ := hc i hi 0 _ rfl
      obtain ⟨v1, _, _, c1, t1⟩ := hc i hi 1 _ rfl
      obtain ⟨v2, _, _, c2, t2⟩ := hc i hi 2 _ rfl
      obtain ⟨v3, _, _, c3, t3⟩ := hc i hi 3 _ rfl
      obtain ⟨x0, rfl⟩ := open_int1 t0
      obtain ⟨x1, rfl⟩ := open_int1 t1
      obtain ⟨x2, rfl⟩ := open_int1 t2
      obtain ⟨x3, rfl⟩ := open_int1 t3
      exact ⟨⟨x0, x1, x2, x3⟩, c0, c1, c2, c3⟩)
    refine ⟨l, some a, cap, by rw [hll], by rw [hll]; exact hl, by unfold maxLen at hm; exact hm, arcsCells_length l, fun hn => ?_⟩
    obtain ⟨b, off, spot⟩ := a
    have h0 := (hlp 0 l[0] (List.getElem?_eq_getElem hn)).1
    have hspot : spot = none := by simpa [Addr.add] using World.cell?_spot h0
    subst hspot
    refine ⟨b, off, rfl, World.block_lt_of_cell? w _ h0, fun j u hu => ?_⟩
    obtain ⟨y, hy, hu2⟩ := arcsCells_split l j u hu
    obtain ⟨d0, d1, d2, d3⟩ := hlp _ _ hy
    simp only [add_none] at d0 d1 d2 d3
    rcases arcCells_at y _ u hu2 with ⟨e, rfl⟩ | ⟨e, rfl⟩ | ⟨e, rfl⟩ | ⟨e, rfl⟩
    · rw [show j = j / 4 * 4 + 0 by omega]; exact d0
    · rw [show j = j / 4 * 4 + 1 by omega]; exact d1
    · rw [show j = j / 4 * 4 + 2 by omega]; exact d2
    · rw [show j = j / 4 * 4 + 3 by omega]; exact d3
set_option maxRecDepth 100000 in
theorem open_F {r : Reach} {b0 : Nat} {v : Value} {d : DataW H} {p : List MemPlace} (hv : Value.okWide Try.prog w r b0 25 v) (h : DataW.Trod enc Try.prog w base spare held 25 v d p) : ∃ F, RdF w v F := by
  obtain ⟨v0, v1, v2, y0, y1, y2, n, rfl, _, _, t0, t1, t2⟩ := open_agg3 Try.underlying25 (by kernel_rfl) (by kernel_rfl) hv h
  obtain ⟨x, rfl⟩ := open_int1 t0
  obtain ⟨l, hl⟩ := open_A t1
  obtain ⟨m, hm⟩ := open_I t2
  exact ⟨⟨x, l, m⟩, v1, v2, rfl, hl, hm⟩
end
end Go.Proofs.Ytmejihlplbeekaa
