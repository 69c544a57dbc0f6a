/-
  Entries in memory, read one level deep; the first with an Id.
-/
import Derived.Test.YtnjniganlielcaaOwn
namespace Go.Proofs.Ytnjniganlielcaa
open Go.ChangeShapes Go.WideShapes Go.ChangeAt Go.RowKit
theorem heap_new' (w : World) (o : Obj) (k : Nat) (h : k = w.heap.size) : (w.alloc o).heap[k]? = some o := by subst h; exact heap_alloc_new w o
/-- a slice value, in parts -/
structure Sl where
  A : Option Addr
  n : Nat
  c : Nat
def Sl.v (s : Sl) : Value := .slice s.A s.n s.c
/-- an entry, its slices as values -/
structure EV where
  id : Int
  f : Sl
  cls : Int
  a : Sl
  main : Int
  s : Sl
  l : Sl
  r : Sl
def EV.cells (e : EV) : List Value := [.int .i64 e.id, .slice e.f.A e.f.n e.f.c, .int .i64 e.cls, .slice e.a.A e.a.n e.a.c, .int .i64 e.main, .slice e.s.A e.s.n e.s.c, .slice e.l.A e.l.n e.l.c, .slice e.r.A e.r.n e.r.c]
def evs (L : List EV) : List Value := L.flatMap EV.cells
theorem evs_length (l : List EV) : (evs l).length = l.length * 8 := by
  induction l with
  | nil => rfl
  | cons a l ih => simp only [evs, List.flatMap_cons, List.length_append] at ih ⊢; rw [ih]; simp [EV.cells]; omega
theorem evs_at (l : List EV) (k : Nat) (h : k < l.length) (j : Nat) (hj : j < 8) : (evs l)[k * 8 + j]? = (EV.cells l[k])[j]? := by
  induction l generalizing k with
  | nil => simp at h
  | cons a l ih =>
    cases k with
    | zero => simp only [evs, List.flatMap_cons]; rw [List.getElem?_append_left (by simp [EV.cells]; omega)]; simp
    | succ k =>
      simp only [evs, List.flatMap_cons]
      rw [List.getElem?_append_right (by simp [EV.cells]; omega)]
      have e : (k + 1) * 8 + j - (EV.cells a).length = k * 8 + j := by simp [EV.cells]; omega
      rw [e]
      exact ih k (by simpa using h)
/-- a slice of entries -/
def RdV (w : World) (v : Value) (L : List EV) : Prop := Rd w 8 v L.length (evs L)
theorem RdV.below {w w' : World} {v : Value} {L : List EV} (h : RdV w v L) (hb : Below w.heap.size w w') : RdV w' v L := Rd.below h hb
/-- eight cells from an address on -/
def ECells (w : World) (b o : Nat) (e : EV) : Prop :=
  w.cell? ⟨b, o, none⟩ = some (.int .i64 e.id) ∧ w.cell? ⟨b, o + 1, none⟩ = some (.slice e.f.A e.f.n e.f.c) ∧ w.cell? ⟨b, o + 2, none⟩ = some (.int .i64 e.cls) ∧ w.cell? ⟨b, o + 3, none⟩ = some (.slice e.a.A e.a.n e.a.c) ∧
  w.cell? ⟨b, o + 4, none⟩ = some (.int .i64 e.main) ∧ w.cell? ⟨b, o + 5, none⟩ = some (.slice e.s.A e.s.n e.s.c) ∧ w.cell? ⟨b, o + 6, none⟩ = some (.slice e.l.A e.l.n e.l.c) ∧ w.cell? ⟨b, o + 7, none⟩ = some (.slice e.r.A e.r.n e.r.c)
theorem ECells.below {w w' : World} {b o B : Nat} {e : EV} (h : ECells w b o e) (hb : Below B w w') (hl : b < B) : ECells w' b o e := by
  obtain ⟨h0, h1, h2, h3, h4, h5, h6, h7⟩ := h
  exact ⟨(hb.cell hl).trans h0, (hb.cell hl).trans h1, (hb.cell hl).trans h2, (hb.cell hl).trans h3, (hb.cell hl).trans h4, (hb.cell hl).trans h5, (hb.cell hl).trans h6, (hb.cell hl).trans h7⟩
def EAt (w : World) (A : Option Addr) (L : List EV) (k : Nat) : Prop :=
  ∃ b off e, A = some ⟨b, off, none⟩ ∧ b < w.heap.size ∧ Hid (L.drop k = e :: L.drop (k + 1)) ∧ ECells w b (off + k * 8) e
theorem RdV.op {w : World} {v : Value} {l : List EV} (h : RdV w v l) : ∃ (A : Option Addr) (n c : Nat), v = .slice A n c ∧ n ≤ c ∧ c ≤ 9223372036854775807 ∧ Hid (l.length = n) ∧
    Hid (∀ k, k < n → EAt w A l k) := by
  obtain ⟨A, c, rfl, h1, h2, h3, h4⟩ := h
  refine ⟨A, _, c, rfl, h1, h2, rfl, fun k hk => ?_⟩
  obtain ⟨b, off, rfl, hb, hc⟩ := h4 (by omega)
  refine ⟨b, off, l[k], rfl, hb, List.drop_eq_getElem_cons hk, ?_⟩
  exact ⟨hc (k * 8 + 0) _ (evs_at l k hk 0 (by omega)), hc (k * 8 + 1) _ (evs_at l k hk 1 (by omega)), hc (k * 8 + 2) _ (evs_at l k hk 2 (by omega)), hc (k * 8 + 3) _ (evs_at l k hk 3 (by omega)),
    hc (k * 8 + 4) _ (evs_at l k hk 4 (by omega)), hc (k * 8 + 5) _ (evs_at l k hk 5 (by omega)), hc (k * 8 + 6) _ (evs_at l k hk 6 (by omega)), hc (k * 8 + 7) _ (evs_at l k hk 7 (by omega))⟩
theorem EAt.below {w w' : World} {A : Option Addr} {l : List EV} {k : Nat} (h : EAt w A l k) (hb : Below w.heap.size w w') : EAt w' A l k := by
  obtain ⟨b, off, e, rfl, hl, hd, hc⟩ := h
  exact ⟨b, off, e, rfl, by have := hb.size; omega, hd, hc.below hb hl⟩
/-- block R is one entry -/
def EBlk (w : World) (R : Nat) (e : EV) : Prop := w.heap[R]? = some (.cells #[.int .i64 e.id, .slice e.f.A e.f.n e.f.c, .int .i64 e.cls, .slice e.a.A e.a.n e.a.c, .int .i64 e.main, .slice e.s.A e.s.n e.s.c, .slice e.l.A e.l.n e.l.c, .slice e.r.A e.r.n e.r.c] 34 (0, 0))
section
variable {w w' : World} {R : Nat} {e : EV}
theorem EBlk.lt (h : EBlk w R e) : R < w.heap.size := (Array.getElem?_eq_some_iff.1 h).1
theorem EBlk.below (h : EBlk w R e) (hb : Below w.heap.size w w') : EBlk w' R e := (hb.block R h.lt).trans h
theorem EBlk.facts (h : EBlk w R e) : w.cell? ⟨R, 0, none⟩ = some (.int .i64 e.id) ∧ w.cell? ⟨R, 1, none⟩ = some (.slice e.f.A e.f.n e.f.c) ∧ w.cell? ⟨R, 2, none⟩ = some (.int .i64 e.cls) ∧ w.cell? ⟨R, 3, none⟩ = some (.slice e.a.A e.a.n e.a.c) ∧
    w.cell? ⟨R, 4, none⟩ = some (.int .i64 e.main) ∧ w.cell? ⟨R, 5, none⟩ = some (.slice e.s.A e.s.n e.s.c) ∧ w.cell? ⟨R, 6, none⟩ = some (.slice e.l.A e.l.n e.l.c) ∧ w.cell? ⟨R, 7, none⟩ = some (.slice e.r.A e.r.n e.r.c) ∧ R < w.heap.size := by
  refine ⟨?_, ?_, ?_, ?_, ?_, ?_, ?_, ?_, h.lt⟩ <;> rw [cell_of_row w R _ _ _ (0, 0) h] <;> rfl
theorem EBlk.free (h : EBlk w R e) : ∀ o, w.frozen? ⟨R, o, none⟩ = false := by
  intro o
  unfold EBlk at h
  simp [World.frozen?, h]
/-- a store of an entry into its block, as the walk spells it -/
def put8 (w : World) (R : Nat) (e : EV) : World := (((((((w.setCell ⟨R, 0, none⟩ (.int .i64 e.id)).setCell ⟨R, 1, none⟩ (.slice e.f.A e.f.n e.f.c)).setCell ⟨R, 2, none⟩ (.int .i64 e.cls)).setCell ⟨R, 3, none⟩ (.slice e.a.A e.a.n e.a.c)).setCell ⟨R, 4, none⟩ (.int .i64 e.main)).setCell ⟨R, 5, none⟩ (.slice e.s.A e.s.n e.s.c)).setCell ⟨R, 6, none⟩ (.slice e.l.A e.l.n e.l.c)).setCell ⟨R, 7, none⟩ (.slice e.r.A e.r.n e.r.c)
theorem EBlk.put (h : EBlk w R e) (e' : EV) : EBlk (put8 w R e') R e' := by
  unfold EBlk at h ⊢
  unfold put8
  simp [World.setCell, Array.getElem?_modify, h]
theorem put8_size (w : World) (R : Nat) (e : EV) : (put8 w R e).heap.size = w.heap.size := by simp [put8]
theorem put8_other (w : World) (R : Nat) (e : EV) (k : Nat) (hk : k ≠ R) : (put8 w R e).heap[k]? = w.heap[k]? := by
  unfold put8
  iterate 8 rw [Below.heap_setCell _ _ _ k hk]
theorem put8_below {A : World} {B : Nat} (h : Below B A w) (hR : B ≤ R) (e : EV) : Below B A (put8 w R e) :=
  (((((((h.setCell (p := ⟨R, 0, none⟩) hR _).setCell (p := ⟨R, 1, none⟩) hR _).setCell (p := ⟨R, 2, none⟩) hR _).setCell (p := ⟨R, 3, none⟩) hR _).setCell (p := ⟨R, 4, none⟩) hR _).setCell (p := ⟨R, 5, none⟩) hR _).setCell (p := ⟨R, 6, none⟩) hR _).setCell (p := ⟨R, 7, none⟩) hR _
end
/-- the index of the first entry with an Id -/
def idxE (id : Int) : Nat → List EV → Option Nat
  | _, [] => none
  | k, e :: l => if e.id = id then some k else idxE id (k + 1) l
def idxI (L : List EV) (id : Int) : Int := match idxE id 0 L with | none => -1 | some k => (k : Int)
def slz : Sl := ⟨none, 0, 0⟩
def evz : EV := ⟨0, slz, 0, slz, 0, slz, slz, slz⟩
def getE (L : List EV) (id : Int) : Option EV := L.find? fun e => e.id == id
theorem idxE_spec (id : Int) (L : List EV) (k : Nat) : (idxE id k L = none ∧ L.find? (fun e => e.id == id) = none) ∨ ∃ i e, idxE id k L = some (k + i) ∧ L[i]? = some e ∧ L.find? (fun e => e.id == id) = some e := by
  induction L generalizing k with
  | nil => exact .inl ⟨rfl, rfl⟩
  | cons x L ih =>
    rw [idxE]
    by_cases hx : x.id = id
    · right
      refine ⟨0, x, by rw [if_pos hx]; rfl, rfl, by simp [hx]⟩
    · rw [if_neg hx]
      rcases ih (k + 1) with ⟨h1, h2⟩ | ⟨i, e, h1, h2, h3⟩
      · exact .inl ⟨h1, by simp [hx]; simpa using h2⟩
      · exact .inr ⟨i + 1, e, by rw [h1]; congr 1; omega, by simpa using h2, by rw [List.find?_cons_of_neg (by simpa using hx)]; exact h3⟩
theorem getE_id {L : List EV} {id : Int} {e : EV} (h : getE L id = some e) : e.id = id := by
  have := List.find?_some h
  simpa using this
theorem getE_mem {L : List EV} {id : Int} {e : EV} (h : getE L id = some e) : e ∈ L := List.mem_of_find?_eq_some h
end Go.Proofs.Ytnjniganlielcaa
