/-
  The part of older texts that this seat needs (printed by shake.py): V1 V2 V3 V4 VP1 V6 V7 V9 V10
-/
import Derived.Test.YtiopgbbggeimaaaGreatY5
import Derived.Test.YtiopgbbggeimaaaGreatY1
import Derived.RangeFuncBox
/-
  Entries in memory, read one level deep; the first with an Id.
-/
namespace Go.Proofs.YtiopgbbggeimaaaGreat
open Go.ChangeShapes Go.WideShapes Go.ChangeAt Go.RowKit
theorem heap_new' (w : World) (o : Obj) (k : Nat) (h : k = w.heap.size) : (w.alloc o).heap[k]? = some o := by subst h; exact heap_alloc_new w o
/-- a slice value, in parts -/
structure Sl where
  A : Option Addr
  n : Nat
  c : Nat
def Sl.v (s : Sl) : Value := .slice s.A s.n s.c
/-- an entry, its slices as values -/
structure EV where
  id : Int
  f : Sl
  cls : Int
  a : Sl
  main : Int
  s : Sl
  l : Sl
  r : Sl
def EV.cells (e : EV) : List Value := [.int .i64 e.id, .slice e.f.A e.f.n e.f.c, .int .i64 e.cls, .slice e.a.A e.a.n e.a.c, .int .i64 e.main, .slice e.s.A e.s.n e.s.c, .slice e.l.A e.l.n e.l.c, .slice e.r.A e.r.n e.r.c]
def evs (L : List EV) : List Value := L.flatMap EV.cells
theorem evs_at (l : List EV) (k : Nat) (h : k < l.length) (j : Nat) (hj : j < 8) : (evs l)[k * 8 + j]? = (EV.cells l[k])[j]? := by
  induction l generalizing k with
  | nil => simp at h
  | cons a l ih =>
    cases k with
    | zero => simp only [evs, List.flatMap_cons]; rw [List.getElem?_append_left (by simp [EV.cells]; omega)]; simp
    | succ k =>
      simp only [evs, List.flatMap_cons]
      rw [List.getElem?_append_right (by simp [EV.cells]; omega)]
      have e : (k + 1) * 8 + j - (EV.cells a).length = k * 8 + j := by simp [EV.cells]; omega
      rw [e]
      exact ih k (by simpa using h)
/-- a slice of entries -/
def RdV (w : World) (v : Value) (L : List EV) : Prop := Rd w 8 v L.length (evs L)
theorem RdV.below {w w' : World} {v : Value} {L : List EV} (h : RdV w v L) (hb : Below w.heap.size w w') : RdV w' v L := Rd.below h hb
/-- eight cells from an address on -/
def ECells (w : World) (b o : Nat) (e : EV) : Prop :=
  w.cell? ⟨b, o, none⟩ = some (.int .i64 e.id) ∧ w.cell? ⟨b, o + 1, none⟩ = some (.slice e.f.A e.f.n e.f.c) ∧ w.cell? ⟨b, o + 2, none⟩ = some (.int .i64 e.cls) ∧ w.cell? ⟨b, o + 3, none⟩ = some (.slice e.a.A e.a.n e.a.c) ∧
  w.cell? ⟨b, o + 4, none⟩ = some (.int .i64 e.main) ∧ w.cell? ⟨b, o + 5, none⟩ = some (.slice e.s.A e.s.n e.s.c) ∧ w.cell? ⟨b, o + 6, none⟩ = some (.slice e.l.A e.l.n e.l.c) ∧ w.cell? ⟨b, o + 7, none⟩ = some (.slice e.r.A e.r.n e.r.c)
theorem ECells.below {w w' : World} {b o B : Nat} {e : EV} (h : ECells w b o e) (hb : Below B w w') (hl : b < B) : ECells w' b o e := by
  obtain ⟨h0, h1, h2, h3, h4, h5, h6, h7⟩ := h
  exact ⟨(hb.cell hl).trans h0, (hb.cell hl).trans h1, (hb.cell hl).trans h2, (hb.cell hl).trans h3, (hb.cell hl).trans h4, (hb.cell hl).trans h5, (hb.cell hl).trans h6, (hb.cell hl).trans h7⟩
def EAt (w : World) (A : Option Addr) (L : List EV) (k : Nat) : Prop :=
  ∃ b off e, A = some ⟨b, off, none⟩ ∧ b < w.heap.size ∧ Hid (L.drop k = e :: L.drop (k + 1)) ∧ ECells w b (off + k * 8) e
theorem RdV.op {w : World} {v : Value} {l : List EV} (h : RdV w v l) : ∃ (A : Option Addr) (n c : Nat), v = .slice A n c ∧ n ≤ c ∧ c ≤ 9223372036854775807 ∧ Hid (l.length = n) ∧
    Hid (∀ k, k < n → EAt w A l k) := by
  obtain ⟨A, c, rfl, h1, h2, h3, h4⟩ := h
  refine ⟨A, _, c, rfl, h1, h2, rfl, fun k hk => ?_⟩
  obtain ⟨b, off, rfl, hb, hc⟩ := h4 (by omega)
  refine ⟨b, off, l[k], rfl, hb, List.drop_eq_getElem_cons hk, ?_⟩
  exact ⟨hc (k * 8 + 0) _ (evs_at l k hk 0 (by omega)), hc (k * 8 + 1) _ (evs_at l k hk 1 (by omega)), hc (k * 8 + 2) _ (evs_at l k hk 2 (by omega)), hc (k * 8 + 3) _ (evs_at l k hk 3 (by omega)),
    hc (k * 8 + 4) _ (evs_at l k hk 4 (by omega)), hc (k * 8 + 5) _ (evs_at l k hk 5 (by omega)), hc (k * 8 + 6) _ (evs_at l k hk 6 (by omega)), hc (k * 8 + 7) _ (evs_at l k hk 7 (by omega))⟩
theorem EAt.below {w w' : World} {A : Option Addr} {l : List EV} {k : Nat} (h : EAt w A l k) (hb : Below w.heap.size w w') : EAt w' A l k := by
  obtain ⟨b, off, e, rfl, hl, hd, hc⟩ := h
  exact ⟨b, off, e, rfl, by have := hb.size; omega, hd, hc.below hb hl⟩
/-- block R is one entry -/
def EBlk (w : World) (R : Nat) (e : EV) : Prop := w.heap[R]? = some (.cells #[.int .i64 e.id, .slice e.f.A e.f.n e.f.c, .int .i64 e.cls, .slice e.a.A e.a.n e.a.c, .int .i64 e.main, .slice e.s.A e.s.n e.s.c, .slice e.l.A e.l.n e.l.c, .slice e.r.A e.r.n e.r.c] 85 (0, 0))
section
variable {w w' : World} {R : Nat} {e : EV}
theorem EBlk.lt (h : EBlk w R e) : R < w.heap.size := (Array.getElem?_eq_some_iff.1 h).1
theorem EBlk.below (h : EBlk w R e) (hb : Below w.heap.size w w') : EBlk w' R e := (hb.block R h.lt).trans h
theorem EBlk.facts (h : EBlk w R e) : w.cell? ⟨R, 0, none⟩ = some (.int .i64 e.id) ∧ w.cell? ⟨R, 1, none⟩ = some (.slice e.f.A e.f.n e.f.c) ∧ w.cell? ⟨R, 2, none⟩ = some (.int .i64 e.cls) ∧ w.cell? ⟨R, 3, none⟩ = some (.slice e.a.A e.a.n e.a.c) ∧
    w.cell? ⟨R, 4, none⟩ = some (.int .i64 e.main) ∧ w.cell? ⟨R, 5, none⟩ = some (.slice e.s.A e.s.n e.s.c) ∧ w.cell? ⟨R, 6, none⟩ = some (.slice e.l.A e.l.n e.l.c) ∧ w.cell? ⟨R, 7, none⟩ = some (.slice e.r.A e.r.n e.r.c) ∧ R < w.heap.size := by
  refine ⟨?_, ?_, ?_, ?_, ?_, ?_, ?_, ?_, h.lt⟩ <;> rw [cell_of_row w R _ _ _ (0, 0) h] <;> rfl
theorem EBlk.free (h : EBlk w R e) : ∀ o, w.frozen? ⟨R, o, none⟩ = false := by
  intro o
  unfold EBlk at h
  simp [World.frozen?, h]
/-- a store of an entry into its block, as the walk spells it -/
def put8 (w : World) (R : Nat) (e : EV) : World := (((((((w.setCell ⟨R, 0, none⟩ (.int .i64 e.id)).setCell ⟨R, 1, none⟩ (.slice e.f.A e.f.n e.f.c)).setCell ⟨R, 2, none⟩ (.int .i64 e.cls)).setCell ⟨R, 3, none⟩ (.slice e.a.A e.a.n e.a.c)).setCell ⟨R, 4, none⟩ (.int .i64 e.main)).setCell ⟨R, 5, none⟩ (.slice e.s.A e.s.n e.s.c)).setCell ⟨R, 6, none⟩ (.slice e.l.A e.l.n e.l.c)).setCell ⟨R, 7, none⟩ (.slice e.r.A e.r.n e.r.c)
theorem EBlk.put (h : EBlk w R e) (e' : EV) : EBlk (put8 w R e') R e' := by
  unfold EBlk at h ⊢
  unfold put8
  simp [World.setCell, Array.getElem?_modify, h]
theorem put8_below {A : World} {B : Nat} (h : Below B A w) (hR : B ≤ R) (e : EV) : Below B A (put8 w R e) :=
  (((((((h.setCell (p := ⟨R, 0, none⟩) hR _).setCell (p := ⟨R, 1, none⟩) hR _).setCell (p := ⟨R, 2, none⟩) hR _).setCell (p := ⟨R, 3, none⟩) hR _).setCell (p := ⟨R, 4, none⟩) hR _).setCell (p := ⟨R, 5, none⟩) hR _).setCell (p := ⟨R, 6, none⟩) hR _).setCell (p := ⟨R, 7, none⟩) hR _
end
/-- the index of the first entry with an Id -/
def idxE (id : Int) : Nat → List EV → Option Nat
  | _, [] => none
  | k, e :: l => if e.id = id then some k else idxE id (k + 1) l
def idxI (L : List EV) (id : Int) : Int := match idxE id 0 L with | none => -1 | some k => (k : Int)
def slz : Sl := ⟨none, 0, 0⟩
def evz : EV := ⟨0, slz, 0, slz, 0, slz, slz, slz⟩
def getE (L : List EV) (id : Int) : Option EV := L.find? fun e => e.id == id
theorem idxE_spec (id : Int) (L : List EV) (k : Nat) : (idxE id k L = none ∧ L.find? (fun e => e.id == id) = none) ∨ ∃ i e, idxE id k L = some (k + i) ∧ L[i]? = some e ∧ L.find? (fun e => e.id == id) = some e := by
  induction L generalizing k with
  | nil => exact .inl ⟨rfl, rfl⟩
  | cons x L ih =>
    rw [idxE]
    by_cases hx : x.id = id
    · right
      refine ⟨0, x, by rw [if_pos hx]; rfl, rfl, by simp [hx]⟩
    · rw [if_neg hx]
      rcases ih (k + 1) with ⟨h1, h2⟩ | ⟨i, e, h1, h2, h3⟩
      · exact .inl ⟨h1, by simp [hx]; simpa using h2⟩
      · exact .inr ⟨i + 1, e, by rw [h1]; congr 1; omega, by simpa using h2, by rw [List.find?_cons_of_neg (by simpa using hx)]; exact h3⟩
theorem getE_id {L : List EV} {id : Int} {e : EV} (h : getE L id = some e) : e.id = id := by
  have := List.find?_some h
  simpa using this
theorem getE_mem {L : List EV} {id : Int} {e : EV} (h : getE L id = some e) : e ∈ L := List.mem_of_find?_eq_some h
end Go.Proofs.YtiopgbbggeimaaaGreat

/-
  Get of the lexicon.
-/
namespace Go.Proofs.YtiopgbbggeimaaaGreat
open Go.ChangeShapes Go.WideShapes Go.ChangeAt Go.RowKit
theorem getf_any (e : EV) (B : Nat) (id : Int) (w : World) (hB : Boxed w B 3 (.int .i64 id)) :
    Calls Tryz.prog 79 #[.agg #[.int .i64 e.id, .slice e.f.A e.f.n e.f.c, .int .i64 e.cls, .slice e.a.A e.a.n e.a.c, .int .i64 e.main, .slice e.s.A e.s.n e.s.c, .slice e.l.A e.l.n e.l.c, .slice e.r.A e.r.n e.r.c], .pointer (some ⟨B, 0, none⟩)] w fun e' w' => e' = .returned (.bool (e.id == id)) ∧ Below w.heap.size w w' := by
  have hl := hB.lt
  have hc := hB.cell
  clear hB
  go_enter Tryz.func79, Tryz.ntmps79
  go_wp2_with fail
  go_ret
  exact ⟨rfl, by repeat (first | assumption | exact Below.refl _ _ | refine Below.alloc ?_ (by first | omega | (simp; done) | (simp; omega)) _ | refine Below.drew ?_ | refine below_drewN ?_ _ | refine Below.setCell ?_ (by first | omega | (simp; done) | (simp; omega)) _)⟩
set_option maxHeartbeats 1000000 in
theorem idxf_any (v : Value) (L : List EV) (B : Nat) (id : Int) (w : World) (hv : RdV w v L) (hB : Boxed w B 3 (.int .i64 id)) :
    Calls Tryz.prog 78 #[v, .func (.func 79) #[] #[.pointer (some ⟨B, 0, none⟩)]] w fun e' w' => e' = .returned (.int .i64 (idxI L id)) ∧ Below w.heap.size w w' := by
  obtain ⟨A, n, c, rfl, h1, h2, HN, HR⟩ := hv.op
  have HB := Lib.hid hB
  clear hv hB
  go_enter Tryz.func78, Tryz.ntmps78
  go_wp2_with fail
  go_loopw [8] (fun i wr => ∃ k : Nat, k ≤ n ∧ i = .int .i64 k ∧ Hid (idxE id 0 L = idxE id k (L.drop k)) ∧ Hid (Below w.heap.size w wr)) (fun i _ => n - (intOf i).toNat)
  case atStart => exact ⟨0, Nat.zero_le _, rfl, rfl, Below.refl _ _⟩
  case round =>
    obtain ⟨k, hk, rfl, HP, HW⟩ := hrel
    by_cases hlt : k < n
    · obtain ⟨b, off, e, rfl, hb, hd, c0, c1, c2, c3, c4, c5, c6, c7⟩ := (HR.out k hlt).below HW.out
      have HP2 : Hid (idxE id 0 L = if e.id = id then some k else idxE id (k + 1) (L.drop (k + 1))) := by rw [Hid, HP.out, hd.out]; rfl
      go_wp2_with fail
      refine (getf_any e B id _ ((HW.out.block _ HB.out.lt).trans HB.out)).mono ?_
      rintro e' w1 ⟨rfl, hb1⟩
      have HW1 := Lib.hid (bchain HW.out hb1)
      clear hb1 c0 c1 c2 c3 c4 c5 c6 c7
      cases hid : (e.id == id)
      · have HP3 : Hid (idxE id 0 L = idxE id (k + 1) (L.drop (k + 1))) := by rw [Hid, HP2.out, if_neg (by simpa using hid)]
        clear hid
        go_wp2_with fail
        go_roundw
        case rel => exact ⟨k + 1, by omega, by go_num, HP3.out, HW1.out⟩
        case measure => simp [intOf]; omega
      · have HP3 : Hid (idxE id 0 L = some k) := by rw [Hid, HP2.out, if_pos (by simpa using hid)]
        clear hid
        go_wp2_with fail
        go_ret
        exact ⟨by rw [idxI, HP3.out]; rfl, HW1.out⟩
    · have HP3 : Hid (idxE id 0 L = none) := by rw [Hid, HP.out, List.drop_of_length_le (by rw [HN.out]; omega)]; rfl
      go_wp2_with fail
      go_ret
      exact ⟨by rw [idxI, HP3.out]; rfl, HW.out⟩
def EV.val (e : EV) : Value := .agg #[.int .i64 e.id, .slice e.f.A e.f.n e.f.c, .int .i64 e.cls, .slice e.a.A e.a.n e.a.c, .int .i64 e.main, .slice e.s.A e.s.n e.s.c, .slice e.l.A e.l.n e.l.c, .slice e.r.A e.r.n e.r.c]
def getV (L : List EV) (id : Int) : Value := .tuple #[((getE L id).getD evz).val, .bool (getE L id).isSome]
set_option maxHeartbeats 1000000 in
theorem get_any (v : Value) (L : List EV) (id : Int) (w : World) (hv : RdV w v L) :
    Calls Tryz.prog 42 #[v, .int .i64 id] w fun e' w' => e' = .returned (getV L id) ∧ Below w.heap.size w w' := by
  obtain ⟨A, n, c, rfl, h1, h2, HN, HR⟩ := hv.op
  have HV := Lib.hid hv
  clear hv
  go_enter Tryz.func42, Tryz.ntmps42
  go_wp2_with fail
  generalize hW : World.alloc (World.alloc w _) _ = W
  have HBW : Hid (Below w.heap.size w W) := by rw [← hW]; repeat (first | assumption | exact Below.refl _ _ | refine Below.alloc ?_ (by first | omega | (simp; done) | (simp; omega)) _ | refine Below.drew ?_ | refine below_drewN ?_ _ | refine Below.setCell ?_ (by first | omega | (simp; done) | (simp; omega)) _)
  have HBX : Hid (Boxed W w.heap.size 3 (.int .i64 id)) := by rw [← hW]; exact (Boxed.new w _ _).alloc _
  have HZ : Hid (EBlk W (w.heap.size + 1) evz) := by
    rw [Hid, ← hW]
    have := heap_alloc_new (w.alloc (.cells #[.int .i64 id] 3)) (.cells #[.int .i64 0, .slice none 0 0, .int .i64 0, .slice none 0 0, .int .i64 0, .slice none 0 0, .slice none 0 0, .slice none 0 0] 85)
    rw [World.size_alloc] at this
    exact this
  clear hW
  refine (idxf_any _ L w.heap.size id _ (HV.out.below HBW.out) HBX.out).mono ?_
  rintro e' w1 ⟨rfl, hb⟩
  have HB1 := Lib.hid hb
  clear hb
  rcases idxE_spec id L 0 with ⟨g1, g2⟩ | ⟨i, x, g1, g2, g3⟩
  · have HI : Hid (idxI L id = -1) := by rw [Hid, idxI, g1]
    have HG : Hid (getV L id = .tuple #[evz.val, .bool false]) := by rw [Hid, getV, show getE L id = none from g2]; rfl
    clear g1 g2
    have hf := (HZ.out.below HB1.out).free
    obtain ⟨y0, y1, y2, y3, y4, y5, y6, y7, hl⟩ := (HZ.out.below HB1.out).facts
    rw [HI.out]
    go_wp2_with fail
    generalize hX : World.setCell _ _ _ = X
    have hX' : put8 w1 (w.heap.size + 1) evz = X := by rw [← hX]; simp only [put8, evz, slz]
    have HX : Hid (EBlk X (w.heap.size + 1) evz) := by rw [Hid, ← hX']; exact (HZ.out.below HB1.out).put evz
    have HXB : Hid (Below w.heap.size w X) := by rw [Hid, ← hX']; exact put8_below (bchain HBW.out HB1.out) (by omega) _
    clear hX hX' hf hl y0 y1 y2 y3 y4 y5 y6 y7
    obtain ⟨z0, z1, z2, z3, z4, z5, z6, z7, zl⟩ := HX.out.facts
    rw [HG.out]
    refine bodyPost_ret (v := .tuple #[evz.val, .bool false]) ?_ rfl ?_
    · simp [results, Tryz.results42, go_sem, z0, z1, z2, z3, z4, z5, z6, z7, EV.val]
    exact ⟨rfl, HXB.out⟩
  · have HI : Hid (idxI L id = (i : Int)) := by rw [Hid, idxI, g1]; simp
    have HG : Hid (getV L id = .tuple #[x.val, .bool true]) := by rw [Hid, getV, show getE L id = some x from g3]; rfl
    have hi : i < n := by have := (List.getElem?_eq_some_iff.1 g2).1; rw [HN.out] at this; exact this
    obtain ⟨b, off, e, rfl, hb, hd, c0, c1, c2, c3, c4, c5, c6, c7⟩ := (HR.out i hi).below (bchain HBW.out HB1.out)
    obtain rfl : e = x := by
      have := hd.out
      rw [List.drop_eq_getElem_cons (by rw [HN.out]; exact hi)] at this
      have h2 := (List.cons.inj this).1
      rw [List.getElem?_eq_getElem (by rw [HN.out]; exact hi), h2] at g2
      exact Option.some.inj g2
    clear g1 g2 g3
    have hf := (HZ.out.below HB1.out).free
    obtain ⟨y0, y1, y2, y3, y4, y5, y6, y7, hl⟩ := (HZ.out.below HB1.out).facts
    rw [HI.out]
    go_wp2_with fail
    generalize hX : World.setCell _ _ _ = X
    have hX' : put8 w1 (w.heap.size + 1) e = X := by rw [← hX]; simp only [put8]
    have HX : Hid (EBlk X (w.heap.size + 1) e) := by rw [Hid, ← hX']; exact (HZ.out.below HB1.out).put e
    have HXB : Hid (Below w.heap.size w X) := by rw [Hid, ← hX']; exact put8_below (bchain HBW.out HB1.out) (by omega) _
    clear hX hX' hf hl y0 y1 y2 y3 y4 y5 y6 y7 c0 c1 c2 c3 c4 c5 c6 c7
    obtain ⟨z0, z1, z2, z3, z4, z5, z6, z7, zl⟩ := HX.out.facts
    rw [HG.out]
    refine bodyPost_ret (v := .tuple #[e.val, .bool true]) ?_ rfl ?_
    · simp [results, Tryz.results42, go_sem, z0, z1, z2, z3, z4, z5, z6, z7, EV.val]
    exact ⟨rfl, HXB.out⟩
end Go.Proofs.YtiopgbbggeimaaaGreat

/-
  The way of an entry: the iterator.
-/
namespace Go.Proofs.YtiopgbbggeimaaaGreat
open Go.ChangeShapes Go.WideShapes Go.ChangeAt Go.RowKit Go.Shelf
attribute [local go_sem] Oper.semAt_some
/-- the way of an entry, at most k entries long -/
def wayL (L : List EV) : Nat → Int → List EV
  | 0, _ => []
  | k + 1, id => match getE L id with
    | none => []
    | some e => e :: if e.main = 0 then [] else wayL L k e.main
abbrev VE (L : List EV) := { e : EV // e ∈ L }
/-- what a round keeps for the iterator -/
def KW (n₀ Bl Bi m : Nat) (W W' : World) : Prop := Below n₀ W W' ∧ ∀ k, k < W.heap.size → (k = Bl ∨ k = Bi ∨ m ≤ k) → W'.heap[k]? = W.heap[k]?
theorem KW.refl (n₀ Bl Bi m : Nat) (W : World) : KW n₀ Bl Bi m W W := ⟨Below.refl _ _, fun _ _ _ => rfl⟩
theorem KW.tr {n₀ Bl Bi m : Nat} {A B C : World} (h : KW n₀ Bl Bi m A B) (k : KW n₀ Bl Bi m B C) : KW n₀ Bl Bi m A C :=
  ⟨h.1.trans k.1, fun i hl hi => (k.2 i (Nat.lt_of_lt_of_le hl h.1.size) hi).trans (h.2 i hl hi)⟩
theorem KW.alloc {n₀ Bl Bi m : Nat} {A W : World} (h : KW n₀ Bl Bi m A W) (hn : n₀ ≤ A.heap.size) (o : Obj) : KW n₀ Bl Bi m A (W.alloc o) :=
  ⟨h.1.alloc (Nat.le_trans hn h.1.size) o, fun k hl hk => (Below.heap_alloc W o k (Nat.lt_of_lt_of_le hl h.1.size)).trans (h.2 k hl hk)⟩
theorem KW.call {n₀ Bl Bi m : Nat} {A W W' : World} (h : KW n₀ Bl Bi m A W) (hn : n₀ ≤ A.heap.size) (hb : Below W.heap.size W W') : KW n₀ Bl Bi m A W' :=
  ⟨h.1.trans (hb.mono (Nat.le_trans hn h.1.size)), fun k hl hk => (hb.block k (Nat.lt_of_lt_of_le hl h.1.size)).trans (h.2 k hl hk)⟩
theorem KW.set {n₀ Bl Bi m : Nat} {A W : World} (h : KW n₀ Bl Bi m A W) (B : Nat) (hB : n₀ ≤ B) (h1 : B ≠ Bl) (h2 : B ≠ Bi) (h3 : B < m) (j : Nat) (u : Value) : KW n₀ Bl Bi m A (W.setCell ⟨B, j, none⟩ u) :=
  ⟨h.1.setCell (p := ⟨B, j, none⟩) hB u, fun k hl hk => (Below.heap_setCell W ⟨B, j, none⟩ u k (by show k ≠ B; omega)).trans (h.2 k hl hk)⟩
theorem KW.put {n₀ Bl Bi m : Nat} {W : World} (L : Nat) (hB : n₀ ≤ L) (h1 : L ≠ Bl) (h2 : L ≠ Bi) (h3 : L < m) (r r' : Loop) (_ : W.heap[L]? = some (.loop r)) : KW n₀ Bl Bi m W (W.putObj L (.loop r')) :=
  ⟨(Below.refl n₀ W).grown (grownBy_putObj' W L _) (by have := (Array.getElem?_eq_some_iff.1 ‹W.heap[L]? = _›).1; omega) (fun k e => by cases e; exact hB), fun k _ hk => World.putObj_heap_other (by omega)⟩
theorem way_any (A : Option Addr) (n c : Nat) (id : Int) (w : World) :
    Calls Tryz.prog 81 #[.slice A n c, .int .i64 id] w fun e w' => e = .returned (.func (.func 104) #[] #[.pointer (some ⟨w.heap.size, 0, none⟩), .pointer (some ⟨w.heap.size + 1, 0, none⟩)]) ∧
      w' = (w.alloc (.cells #[.slice A n c] 34)).alloc (.cells #[.int .i64 id] 3) := by
  go_enter Tryz.func81, Tryz.ntmps81
  go_wp2_with fail
  go_ret
  exact ⟨rfl, rfl⟩
set_option maxHeartbeats 2000000 in
set_option maxRecDepth 100000 in
theorem way1_in (n : Nat) (hn : 1 ≤ n) (l Bl Bi n₀ m : Nat) (L : List EV) (A : Option Addr) (nn c : Nat) (id0 : Int) (J Jx : List (VE L) → World → Prop) (w0 W : World)
    (hJ : Stays (fun k => k = Bi) J)
    (hY : ∀ pre x W1, J pre W1 → pre.length < L.length + 1 → YieldAt Fence.wide (n - 1) Tryz.prog l #[.agg #[.int .i64 x.1.id, .slice x.1.f.A x.1.f.n x.1.f.c, .int .i64 x.1.cls, .slice x.1.a.A x.1.a.n x.1.a.c, .int .i64 x.1.main, .slice x.1.s.A x.1.s.n x.1.s.c, .slice x.1.l.A x.1.l.n x.1.l.c, .slice x.1.r.A x.1.r.n x.1.r.c]] W1 fun e W' =>
      (e = .returned (.bool true) ∧ J (pre ++ [x]) W' ∧ KW n₀ Bl Bi m W1 W') ∨ (e = .returned (.bool false) ∧ Jx (pre ++ [x]) W'))
    (hw0 : w0.heap.size ≤ n₀) (hWw : Below w0.heap.size w0 W) (hl1 : n₀ ≤ Bl) (hi1 : n₀ ≤ Bi) (hne : Bl ≠ Bi) (hl2 : Boxed W Bl 34 (.slice A nn c)) (hi2 : Boxed W Bi 3 (.int .i64 id0)) (hm : W.heap.size = m) (hv : RdV w0 (.slice A nn c) L) (hlen : nn ≤ 1000000) (h0 : J [] W) :
    CallsIn Fence.wide n Tryz.prog 104 #[.func (.yield l) #[] #[], .pointer (some ⟨Bl, 0, none⟩), .pointer (some ⟨Bi, 0, none⟩)] W fun e W' => (∃ v, e = .returned v) ∧
      ((∃ ys, ys.map Subtype.val = wayL L (L.length + 1) id0 ∧ J ys W') ∨ (∃ pre, pre.map Subtype.val <+: wayL L (L.length + 1) id0 ∧ Jx pre W')) := by
  obtain ⟨A', k', c', he, h1, h2, HN, HR⟩ := hv.op
  cases he
  have HV := Lib.hid hv
  clear hv HR
  refine callsIn_of_wp Tryz.func104 rfl trivial ?_ rfl
  simp only [Tryz.ntmps104, List.size_toArray, List.length_cons, List.length_nil, Nat.reduceAdd, Nat.reduceSub, Array.replicate_succ, Array.replicate_zero, List.push_toArray, List.append_toArray, List.nil_append, List.cons_append]
  have cl := hl2.cell
  have ll := hl2.lt
  have HL2 := Lib.hid hl2
  have HI2 := Lib.hid hi2
  have HM := Lib.hid hm
  clear hl2 hi2 hm
  gi_wp2
  gi_loopw [9] (fun i wr => ∃ (j : Nat) (pre : List (VE L)) (id : Int), j ≤ nn + 1 ∧ i = .int .i64 j ∧ Hid (wayL L (L.length + 1) id0 = pre.map Subtype.val ++ wayL L (nn + 1 - j) id) ∧ Hid (pre.length = j) ∧ J pre wr ∧ Hid (Below n₀ W wr) ∧ Hid (Boxed wr Bl 34 (.slice A nn c)) ∧ Hid (Boxed wr Bi 3 (.int .i64 id))) (fun i _ => nn + 1 - (intOf i).toNat)
  case atStart => exact ⟨0, [], id0, Nat.zero_le _, rfl, by rw [Hid, HN.out]; rfl, rfl, h0, Below.refl _ _, HL2.out, HI2.out⟩
  case round =>
    obtain ⟨j, pre, id, hj, rfl, HPRE, HLEN, hJs, HB, HBL, HBI⟩ := hrel
    have HJ := Lib.hid hJs
    clear hJs cl ll
    have cl := HBL.out.cell
    have ci := HBI.out.cell
    have ll := HBL.out.lt
    have li := HBI.out.lt
    by_cases hlt : j < nn + 1
    · rcases hg : getE L id with _ | e
      · have HG : Hid (getV L id = .tuple #[.agg #[.int .i64 evz.id, .slice evz.f.A evz.f.n evz.f.c, .int .i64 evz.cls, .slice evz.a.A evz.a.n evz.a.c, .int .i64 evz.main, .slice evz.s.A evz.s.n evz.s.c, .slice evz.l.A evz.l.n evz.l.c, .slice evz.r.A evz.r.n evz.r.c], .bool false]) := by rw [Hid, getV, hg]; rfl
        have HW : Hid (wayL L (L.length + 1) id0 = pre.map Subtype.val) := by
          rw [Hid, HPRE.out, show nn + 1 - j = (nn - j) + 1 by omega, wayL, hg]; simp
        clear hg
        gi_wp2_with fail
        refine ⟨trivial, ?_⟩
        refine (callsIn_wide.2 (get_any _ L id _ (HV.out.below (hWw.trans (HB.out.mono hw0))))).mono ?_
        rintro e w2 ⟨rfl, hb⟩
        rw [HG.out]
        gi_wp2_with fail
        refine ⟨fun _ h => (by cases h), ?_⟩
        gi_wp2
        refine bodyPost_ret (results_none rfl _ _ _) rfl ?_
        exact ⟨⟨_, rfl⟩, .inl ⟨pre, HW.out.symm, hJ.new (hJ.call HJ.out hb) _⟩⟩
      · have HG : Hid (getV L id = .tuple #[.agg #[.int .i64 e.id, .slice e.f.A e.f.n e.f.c, .int .i64 e.cls, .slice e.a.A e.a.n e.a.c, .int .i64 e.main, .slice e.s.A e.s.n e.s.c, .slice e.l.A e.l.n e.l.c, .slice e.r.A e.r.n e.r.c], .bool true]) := by rw [Hid, getV, hg]; rfl
        have HMEM := Lib.hid (getE_mem hg)
        have HW : Hid (wayL L (L.length + 1) id0 = pre.map Subtype.val ++ e :: if e.main = 0 then [] else wayL L (nn + 1 - (j + 1)) e.main) := by
          rw [Hid, HPRE.out, show nn + 1 - j = (nn + 1 - (j + 1)) + 1 by omega, wayL, hg]
        clear hg
        gi_wp2_with fail
        refine ⟨trivial, ?_⟩
        refine (callsIn_wide.2 (get_any _ L id _ (HV.out.below (hWw.trans (HB.out.mono hw0))))).mono ?_
        rintro e' w2 ⟨rfl, hb⟩
        rw [HG.out]
        have HB2 := Lib.hid hb
        clear hb
        obtain ⟨fn, tmps, assign, body, hy, hR⟩ := hY pre ⟨e, HMEM.out⟩ (w2.alloc (.cells #[.int .i64 e.id, .slice e.f.A e.f.n e.f.c, .int .i64 e.cls, .slice e.a.A e.a.n e.a.c, .int .i64 e.main, .slice e.s.A e.s.n e.s.c, .slice e.l.A e.l.n e.l.c, .slice e.r.A e.r.n e.r.c] 85)) (hJ.new (hJ.call HJ.out HB2.out) _) (by rw [HLEN.out, HN.out]; exact hlt)
        dsimp only at hy
        gi_wp2_with fail
        refine hR.mono ?_
        rintro e' W3 (⟨rfl, hJ3, hk3⟩ | ⟨rfl, hJx3⟩)
        · have HJ3 := Lib.hid hJ3
          have HK3 := Lib.hid hk3
          clear hJ3 hk3 cl ci ll li
          have hwm : m ≤ w2.heap.size := by have := HB.out.size; have := HB2.out.size; have := HM.out; omega
          have HBLK : Hid (EBlk W3 w2.heap.size e) := (HK3.out.2 _ (by simp) (.inr (.inr hwm))).trans (heap_alloc_new w2 _)
          have HBL3 : Hid (Boxed W3 Bl 34 (.slice A nn c)) := by
            have h1 : Boxed w2 Bl _ _ := (HB2.out.block _ HBL.out.lt).trans HBL.out
            exact (HK3.out.2 _ (by have := h1.lt; simp; omega) (.inl rfl)).trans (h1.alloc _)
          have HBI3 : Hid (Boxed W3 Bi 3 (.int .i64 id)) := by
            have h1 : Boxed w2 Bi _ _ := (HB2.out.block _ HBI.out.lt).trans HBI.out
            exact (HK3.out.2 _ (by have := h1.lt; simp; omega) (.inr (.inl rfl))).trans (h1.alloc _)
          have hnw : n₀ ≤ wr.heap.size := by have := HBL.out.lt; omega
          have HB3 : Hid (Below n₀ W W3) := ((HB.out.trans (HB2.out.mono hnw)).alloc (by have := HB2.out.size; omega) _).trans HK3.out.1
          obtain ⟨z0, z1, z2, z3, z4, z5, z6, z7, zl⟩ := HBLK.out.facts
          have ci := HBI3.out.cell
          have fi := HBI3.out.frozen
          have li := HBI3.out.lt
          clear hnw hwm
          by_cases hz : e.main = 0
          · have hb0 : (e.main == 0) = true := by simpa using hz
            have HW2 : Hid (wayL L (L.length + 1) id0 = (pre ++ [(⟨e, HMEM.out⟩ : VE L)]).map Subtype.val) := by rw [Hid, HW.out, if_pos hz]; simp
            clear hz
            gi_wp2
            refine bodyPost_ret (results_none rfl _ _ _) rfl ?_
            exact ⟨⟨_, rfl⟩, .inl ⟨_, HW2.out.symm, HJ3.out⟩⟩
          · have hb0 : (e.main == 0) = false := by simpa using hz
            have HW2 : Hid (wayL L (L.length + 1) id0 = (pre ++ [(⟨e, HMEM.out⟩ : VE L)]).map Subtype.val ++ wayL L (nn + 1 - (j + 1)) e.main) := by rw [Hid, HW.out, if_neg hz]; simp
            clear hz
            gi_wp2
            go_roundw
            case rel => exact ⟨j + 1, pre ++ [(⟨e, HMEM.out⟩ : VE L)], e.main, by omega, by go_num, HW2, by rw [Hid]; simp [HLEN.out], hJ.set HJ3.out rfl _, HB3.out.setCell (p := ⟨Bi, 0, none⟩) hi1 _, HBL3.out.other hne _, HBI3.out.set _⟩
            case measure => simp [intOf]; omega
        · have HJX := Lib.hid hJx3
          clear hJx3
          gi_wp2
          refine bodyPost_ret (results_none rfl _ _ _) rfl ?_
          refine ⟨⟨_, rfl⟩, .inr ⟨pre ++ [⟨e, HMEM.out⟩], ?_, HJX.out⟩⟩
          rw [List.map_append, HW.out]
          exact ⟨_, by rw [List.append_assoc]; rfl⟩
    · gi_wp2
      go_end0
      refine ⟨⟨_, rfl⟩, .inl ⟨pre, ?_, HJ.out⟩⟩
      rw [HPRE.out, show nn + 1 - j = 0 by omega]
      simp [wayL]
theorem way_stops (n : Nat) (hn : 1 ≤ n) (Bl Bi n₀ : Nat) (L : List EV) (A : Option Addr) (nn c : Nat) (id0 : Int) (w0 w : World) (hw0 : w0.heap.size ≤ n₀) (hWw : Below w0.heap.size w0 w) (hl1 : n₀ ≤ Bl) (hi1 : n₀ ≤ Bi) (hne : Bl ≠ Bi)
    (hl2 : Boxed w Bl 34 (.slice A nn c)) (hi2 : Boxed w Bi 3 (.int .i64 id0)) (hv : RdV w0 (.slice A nn c) L) (hlen : nn ≤ 1000000) :
    SeqBox Fence.wide n Tryz.prog 104 #[.pointer (some ⟨Bl, 0, none⟩), .pointer (some ⟨Bi, 0, none⟩)] (fun x : VE L => #[.agg #[.int .i64 x.1.id, .slice x.1.f.A x.1.f.n x.1.f.c, .int .i64 x.1.cls, .slice x.1.a.A x.1.a.n x.1.a.c, .int .i64 x.1.main, .slice x.1.s.A x.1.s.n x.1.s.c, .slice x.1.l.A x.1.l.n x.1.l.c, .slice x.1.r.A x.1.r.n x.1.r.c]]) Bi (KW n₀ Bl Bi (w.heap.size + 2))
      (fun ys => ys.map Subtype.val = wayL L (L.length + 1) id0) (fun pre => pre.map Subtype.val <+: wayL L (L.length + 1) id0) (L.length + 1) w :=
  fun l J Jx W hW hz hJ hY h0 => way1_in n hn l Bl Bi n₀ (w.heap.size + 2) L A nn c id0 J Jx w0 W hJ hY hw0 (hWw.trans (hW.mono hWw.size)) hl1 hi1 hne ((hW.block _ hl2.lt).trans hl2) ((hW.block _ hi2.lt).trans hi2) hz hv hlen h0
end Go.Proofs.YtiopgbbggeimaaaGreat

/-
  The last entry of a way, and how many there are on it.
-/
namespace Go.Proofs.YtiopgbbggeimaaaGreat
open Go.ChangeShapes Go.WideShapes Go.ChangeAt Go.RowKit Go.Shelf
attribute [local go_sem] Oper.semAt_some
theorem Stays.boxed {β : Type} {T : Nat → Prop} (b : Nat) (t : TypeId) (f : β → Value) (hb : ¬ T b) : Stays T (fun s W => Boxed W b t (f s)) := fun _ _ _ _ hs hg hr => hs.kept hg (fun e => hb (hr b e.symm))
theorem Stays.ent {β : Type} {T : Nat → Prop} (b : Nat) (f : β → EV) (hb : ¬ T b) : Stays T (fun s W => EBlk W b (f s)) := fun _ _ _ _ hs hg hr =>
  (hg.block b hs.lt (fun e => hb (hr b e.symm))).trans hs
end Go.Proofs.YtiopgbbggeimaaaGreat

/-
  Plain words on ways: by the keys of entries.
-/
namespace Go.Proofs.YtiopgbbggeimaaaGreat
open Go.ChangeShapes Go.WideShapes Go.ChangeAt Go.RowKit
structure EK where
  id : Int
  main : Int
  ns : Nat
  deriving DecidableEq
def EV.key (e : EV) : EK := ⟨e.id, e.main, e.s.n⟩
def keys (L : List EV) : List EK := L.map EV.key
theorem keys_length (L : List EV) : (keys L).length = L.length := by simp [keys]
def getK (K : List EK) (id : Int) : Option EK := K.find? fun e => e.id == id
theorem getK_keys (L : List EV) (id : Int) : getK (keys L) id = (getE L id).map EV.key := by
  rw [getK, keys, getE, List.find?_map]
  rfl
def wayK (K : List EK) : Nat → Int → List EK
  | 0, _ => []
  | k + 1, id => match getK K id with
    | none => []
    | some e => e :: if e.main = 0 then [] else wayK K k e.main
theorem wayK_keys (L : List EV) : ∀ (k : Nat) (id : Int), (wayL L k id).map EV.key = wayK (keys L) k id
  | 0, _ => rfl
  | k + 1, id => by
    rw [wayL, wayK, getK_keys]
    cases getE L id with
    | none => rfl
    | some e =>
      simp only [Option.map_some, List.map_cons]
      congr 1
      show List.map EV.key (if e.main = 0 then [] else wayL L k e.main) = if e.main = 0 then [] else wayK (keys L) k e.main
      split
      · rfl
      · exact wayK_keys L k e.main
/-- the whole way of an entry -/
def wK (K : List EK) (id : Int) : List EK := wayK K (K.length + 1) id
theorem wK_keys (L : List EV) (id : Int) : (wayL L (L.length + 1) id).map EV.key = wK (keys L) id := by rw [wayK_keys, wK, keys_length]
def chk1 (K : List EK) : List EK → Int
  | [] => 0
  | e :: l => if e.main ≠ 0 ∧ getK K e.main = none then 9 else chk1 K l
def chk2 (K : List EK) : List EK → Int
  | [] => 0
  | e :: l => if K.length < (wK K e.id).length then 17 else chk2 K l
def chkK (K : List EK) : Int := if chk1 K K ≠ 0 then 9 else chk2 K K
end Go.Proofs.YtiopgbbggeimaaaGreat

/-
  Rows of entries and of senses of the call's own; slices.Clone; an entry gets another Main.
-/
namespace Go.Proofs.YtiopgbbggeimaaaGreat
open Go.ChangeShapes Go.WideShapes Go.ChangeAt Go.RowKit
section
variable {P : Program}
theorem wpList_app_rd {ops : Array Oper} {rest : List Oper} {o : Oper} {a : Act} {Q : Exit → Act → World → Prop} {w : World} (hgd : o.guard = none) (s x : Operand) (t : TypeId)
    (ho : o.op = .call { callee := .builtin .append, args := #[s, x], argTypes := #[t, t] }) (base : Nat) (e : TypeId) (z : Value) (size bytes : Nat) (ht : P.underlying t = some (.slice e))
    (hinfo : (P.info? e).map (fun i => (i.zero, i.size, i.bytes)) = some (some z, size, bytes)) (hzs : z.cells.size = size) (hsz : 0 < size)
    (v : Value) (n : Nat) (xs : List Value) (hs : a.eval s = v) (hown : w.ownsRow base e size v n xs) (vx : Value) (m : Nat) (news : List Value) (hx : a.eval x = vx) (hr : Rd w size vx m news) (h1 : ∀ u ∈ news, u.oneCell' = true)
    (h63 : n + m ≤ maxLen) (hbytes : (n + m) * bytes ≤ 140737488355328) (hbase : base ≤ w.heap.size)
    (h : ∀ v' w', w'.ownsRow base e size v' (n + m) (xs ++ news) → w.grownBy w' v.ownBlock → (v'.ownBlock = v.ownBlock ∨ v'.ownBlock = some w.heap.size) → wpList P ops Q rest (a.put o.dst v') w') :
    wpList P ops Q (o :: rest) a w := by
  obtain ⟨i, hi, hz0, hz1, hz2⟩ := info_parts hinfo
  exact wpList_plain hgd fun _ hK => wp_append_rd (P := P) w s x t ho base e i z size bytes ht hi hz0 hz1 hz2 hzs hsz v n xs hs hown vx m news hx hr h1 h63 hbytes hbase fun v' w' k1 k2 k3 => hK _ _ (h v' w' k1 k2 k3)
theorem own_newR (w : World) (base g : Nat) (e : TypeId) (size : Nat) (hg : w.heap.size = g) (hb : base ≤ g) : (w.alloc (.cells #[] e)).ownsRow base e size (.slice (some ⟨g, 0, none⟩) 0 0) 0 [] := by
  subst hg
  exact ⟨by simp, .inr ⟨w.heap.size, 0, #[], rfl, hb, heap_alloc_new w _, Nat.le_refl _, by simp [maxLen], by simp, by simp⟩⟩
theorem rd_none (w : World) (size c n : Nat) (xs : List Value) (h : Rd w size (.slice none n c) n xs) : n = 0 ∧ xs = [] := by
  obtain ⟨A, c', he, _, _, hl, hc⟩ := h
  cases he
  rcases Nat.eq_zero_or_pos n with h0 | h0
  · subst h0
    exact ⟨rfl, List.eq_nil_of_length_eq_zero (by simpa using hl)⟩
  · obtain ⟨_, _, h, _⟩ := hc h0
    cases h
end
theorem infoS : (Tryz.prog.info? 99).map (fun i => (i.zero, i.size, i.bytes)) = some (some (.agg #[.string ⟨#[]⟩, .string ⟨#[]⟩]), 2, 32) := by kernel_rfl
def OwnV (w : World) (base : Nat) (v : Value) (L : List EV) : Prop := w.ownsRow base 85 8 v L.length (evs L)
theorem OwnV.rd {w : World} {base : Nat} {v : Value} {L : List EV} (h : OwnV w base v L) : RdV w v L := Rd.own h
theorem OwnV.below {w w' : World} {base : Nat} {v : Value} {L : List EV} (h : OwnV w base v L) (hb : Below w.heap.size w w') : OwnV w' base v L := own_below h hb
end Go.Proofs.YtiopgbbggeimaaaGreat

/-
  Entries read whole: lists of ints, lists of these, senses, pairs.
-/
namespace Go.Proofs.YtiopgbbggeimaaaGreat
open Go.ChangeShapes Go.WideShapes Go.ChangeAt Go.RowKit
inductive All2 {α β : Type} (R : α → β → Prop) : List α → List β → Prop
  | nil : All2 R [] []
  | cons {a b l m} : R a b → All2 R l m → All2 R (a :: l) (b :: m)
section
variable {α β : Type} {R S : α → β → Prop} {l : List α} {m : List β}
theorem All2.length (h : All2 R l m) : l.length = m.length := by induction h with | nil => rfl | cons _ _ ih => simp [ih]
theorem All2.mono (h : All2 R l m) (k : ∀ a b, a ∈ l → b ∈ m → R a b → S a b) : All2 S l m := by
  induction h with
  | nil => exact .nil
  | cons h1 _ ih => exact .cons (k _ _ (by simp) (by simp) h1) (ih fun a b ha hb => k a b (by simp [ha]) (by simp [hb]))
theorem All2.append {l' : List α} {m' : List β} (h : All2 R l m) (k : All2 R l' m') : All2 R (l ++ l') (m ++ m') := by induction h with | nil => exact k | cons h1 _ ih => exact .cons h1 ih
theorem All2.get (h : All2 R l m) {i : Nat} {a : α} (hi : l[i]? = some a) : ∃ b, m[i]? = some b ∧ R a b := by
  induction h generalizing i with
  | nil => simp at hi
  | cons h1 _ ih =>
    cases i with
    | zero => simp at hi; subst hi; exact ⟨_, rfl, h1⟩
    | succ i => simpa using ih (by simpa using hi)
theorem All2.mem (h : All2 R l m) {a : α} (ha : a ∈ l) : ∃ b, b ∈ m ∧ R a b := by
  obtain ⟨i, hi⟩ := List.mem_iff_getElem?.1 ha
  obtain ⟨b, hb, hr⟩ := h.get hi
  exact ⟨b, List.mem_of_getElem? hb, hr⟩
theorem All2.drop (h : All2 R l m) (k : Nat) : All2 R (l.drop k) (m.drop k) := by
  induction h generalizing k with
  | nil => simp; exact .nil
  | cons h1 h2 ih => cases k with
    | zero => exact .cons h1 h2
    | succ k => simpa using ih k
theorem All2.find (h : All2 R l m) {f : α → Bool} {g : β → Bool} (hfg : ∀ a b, R a b → f a = g b) : (l.find? f = none ∧ m.find? g = none) ∨ ∃ a b, l.find? f = some a ∧ m.find? g = some b ∧ R a b := by
  induction h with
  | nil => exact .inl ⟨rfl, rfl⟩
  | @cons a b l m h1 _ ih =>
    have he := hfg _ _ h1
    cases hf : f a
    · rw [List.find?_cons_of_neg (by simp [hf]), List.find?_cons_of_neg (by simp [← he, hf])]
      exact ih
    · rw [List.find?_cons_of_pos (by simp [hf]), List.find?_cons_of_pos (by simp [← he, hf])]
      exact .inr ⟨_, _, rfl, rfl, h1⟩
end
/-! lists of lists of ints -/
def RdL (w : World) (v : Value) (Ls : List (List Int)) : Prop := ∃ us : List Value, Rd w 1 v Ls.length us ∧ us.length = Ls.length ∧ ∀ (i : Nat) (u : Value) (l : List Int), us[i]? = some u → Ls[i]? = some l → RdI w u l
theorem RdL.below {w w' : World} {v : Value} {Ls : List (List Int)} (h : RdL w v Ls) (hb : Below w.heap.size w w') : RdL w' v Ls := by
  obtain ⟨us, h1, h2, h3⟩ := h
  exact ⟨us, Rd.below h1 hb, h2, fun i u l hu hl => (h3 i u l hu hl).below hb⟩
def LAt (w : World) (A : Option Addr) (Ls : List (List Int)) (k : Nat) : Prop :=
  ∃ b off B m cm l, A = some ⟨b, off, none⟩ ∧ b < w.heap.size ∧ Hid (Ls.drop k = l :: Ls.drop (k + 1)) ∧ w.cell? ⟨b, off + k, none⟩ = some (.slice B m cm) ∧ Hid (RdI w (.slice B m cm) l)
theorem RdL.op {w : World} {v : Value} {Ls : List (List Int)} (h : RdL w v Ls) : ∃ (A : Option Addr) (n c : Nat), v = .slice A n c ∧ n ≤ c ∧ c ≤ 9223372036854775807 ∧ Hid (Ls.length = n) ∧
    Hid (∀ k, k < n → LAt w A Ls k) := by
  obtain ⟨us, ⟨A, c, rfl, h1, h2, h3, h4⟩, h5, h6⟩ := h
  refine ⟨A, _, c, rfl, h1, h2, rfl, fun k hk => ?_⟩
  obtain ⟨b, off, rfl, hb, hc⟩ := h4 (by omega)
  have hu : us[k]? = some (us[k]'(by omega)) := List.getElem?_eq_getElem (by omega)
  have hl : Ls[k]? = some (Ls[k]'hk) := List.getElem?_eq_getElem hk
  have h7 := h6 k _ _ hu hl
  obtain ⟨B, m, cm, he, _, _, _, _⟩ := h7.op
  have h8 := hc k _ hu
  rw [he] at h7 h8
  exact ⟨b, off, B, m, cm, Ls[k], rfl, hb, List.drop_eq_getElem_cons hk, h8, h7⟩
theorem LAt.below {w w' : World} {A : Option Addr} {Ls : List (List Int)} {k : Nat} (h : LAt w A Ls k) (hb : Below w.heap.size w w') : LAt w' A Ls k := by
  obtain ⟨b, off, B, m, cm, l, rfl, h1, h2, h3, h4⟩ := h
  exact ⟨b, off, B, m, cm, l, rfl, by have := hb.size; omega, h2, (hb.cell h1).trans h3, h4.out.below hb⟩
/-! senses; pairs of ints -/
structure PSe where
  g : ByteArray
  d : ByteArray
  deriving DecidableEq
structure P2 where
  x : Int
  y : Int
  deriving DecidableEq
def seCells (p : PSe) : List Value := [.string p.g, .string p.d]
def p2Cells (p : P2) : List Value := [.int .i64 p.x, .int .i64 p.y]
def RdSe (w : World) (v : Value) (l : List PSe) : Prop := Rd w 2 v l.length (l.flatMap seCells)
def RdP2 (w : World) (v : Value) (l : List P2) : Prop := Rd w 2 v l.length (l.flatMap p2Cells)
theorem RdSe.below {w w' : World} {v : Value} {l : List PSe} (h : RdSe w v l) (hb : Below w.heap.size w w') : RdSe w' v l := Rd.below h hb
theorem RdP2.below {w w' : World} {v : Value} {l : List P2} (h : RdP2 w v l) (hb : Below w.heap.size w w') : RdP2 w' v l := Rd.below h hb
def SeAt (w : World) (A : Option Addr) (l : List PSe) (k : Nat) : Prop :=
  ∃ b off p, A = some ⟨b, off, none⟩ ∧ b < w.heap.size ∧ Hid (l.drop k = p :: l.drop (k + 1)) ∧ w.cell? ⟨b, off + k * 2, none⟩ = some (.string p.g) ∧ w.cell? ⟨b, off + k * 2 + 1, none⟩ = some (.string p.d)
def P2At (w : World) (A : Option Addr) (l : List P2) (k : Nat) : Prop :=
  ∃ b off p, A = some ⟨b, off, none⟩ ∧ b < w.heap.size ∧ Hid (l.drop k = p :: l.drop (k + 1)) ∧ w.cell? ⟨b, off + k * 2, none⟩ = some (.int .i64 p.x) ∧ w.cell? ⟨b, off + k * 2 + 1, none⟩ = some (.int .i64 p.y)
theorem RdSe.op {w : World} {v : Value} {l : List PSe} (h : RdSe w v l) : ∃ (A : Option Addr) (n c : Nat), v = .slice A n c ∧ n ≤ c ∧ c ≤ 9223372036854775807 ∧ Hid (l.length = n) ∧ Hid (∀ k, k < n → SeAt w A l k) := by
  obtain ⟨A, c, rfl, h1, h2, h3, h4⟩ := h
  refine ⟨A, _, c, rfl, h1, h2, rfl, fun k hk => ?_⟩
  obtain ⟨b, off, rfl, hb, hc⟩ := h4 (by omega)
  exact ⟨b, off, l[k], rfl, hb, List.drop_eq_getElem_cons hk, hc (k * 2 + 0) _ (flat2_at seCells (fun _ => rfl) l k hk 0 (by omega)), hc (k * 2 + 1) _ (flat2_at seCells (fun _ => rfl) l k hk 1 (by omega))⟩
theorem RdP2.op {w : World} {v : Value} {l : List P2} (h : RdP2 w v l) : ∃ (A : Option Addr) (n c : Nat), v = .slice A n c ∧ n ≤ c ∧ c ≤ 9223372036854775807 ∧ Hid (l.length = n) ∧ Hid (∀ k, k < n → P2At w A l k) := by
  obtain ⟨A, c, rfl, h1, h2, h3, h4⟩ := h
  refine ⟨A, _, c, rfl, h1, h2, rfl, fun k hk => ?_⟩
  obtain ⟨b, off, rfl, hb, hc⟩ := h4 (by omega)
  exact ⟨b, off, l[k], rfl, hb, List.drop_eq_getElem_cons hk, hc (k * 2 + 0) _ (flat2_at p2Cells (fun _ => rfl) l k hk 0 (by omega)), hc (k * 2 + 1) _ (flat2_at p2Cells (fun _ => rfl) l k hk 1 (by omega))⟩
theorem SeAt.below {w w' : World} {A : Option Addr} {l : List PSe} {k : Nat} (h : SeAt w A l k) (hb : Below w.heap.size w w') : SeAt w' A l k := by
  obtain ⟨b, off, p, rfl, h1, h2, h3, h4⟩ := h
  exact ⟨b, off, p, rfl, by have := hb.size; omega, h2, (hb.cell h1).trans h3, (hb.cell h1).trans h4⟩
theorem P2At.below {w w' : World} {A : Option Addr} {l : List P2} {k : Nat} (h : P2At w A l k) (hb : Below w.heap.size w w') : P2At w' A l k := by
  obtain ⟨b, off, p, rfl, h1, h2, h3, h4⟩ := h
  exact ⟨b, off, p, rfl, by have := hb.size; omega, h2, (hb.cell h1).trans h3, (hb.cell h1).trans h4⟩
/-! an entry, whole -/
structure PE where
  id : Int
  form : List Int
  cls : Int
  alts : List (List Int)
  main : Int
  senses : List PSe
  links : List P2
  refs : List P2
  deriving DecidableEq
structure DpE (w : World) (e : EV) (p : PE) : Prop where
  id : e.id = p.id
  cls : e.cls = p.cls
  main : e.main = p.main
  f : RdI w (.slice e.f.A e.f.n e.f.c) p.form
  a : RdL w (.slice e.a.A e.a.n e.a.c) p.alts
  s : RdSe w (.slice e.s.A e.s.n e.s.c) p.senses
  l : RdP2 w (.slice e.l.A e.l.n e.l.c) p.links
  r : RdP2 w (.slice e.r.A e.r.n e.r.c) p.refs
theorem rd_len {w : World} {size n m : Nat} {A : Option Addr} {c : Nat} {xs : List Value} (h : Rd w size (.slice A n c) m xs) : n = m := by
  obtain ⟨A', c', he, _⟩ := h
  cases he
  rfl
section
variable {w w' : World} {e : EV} {p : PE}
theorem DpE.below (h : DpE w e p) (hb : Below w.heap.size w w') : DpE w' e p := ⟨h.id, h.cls, h.main, h.f.below hb, h.a.below hb, h.s.below hb, h.l.below hb, h.r.below hb⟩
theorem DpE.ns (h : DpE w e p) : e.s.n = p.senses.length := rd_len h.s
theorem DpE.nl (h : DpE w e p) : e.l.n = p.links.length := rd_len h.l
end
def PE.key (p : PE) : EK := ⟨p.id, p.main, p.senses.length⟩
theorem DpE.key {w : World} {e : EV} {p : PE} (h : DpE w e p) : e.key = p.key := by rw [EV.key, PE.key, h.id, h.main, h.ns]
/-- a slice of entries, read whole -/
def RdP (w : World) (v : Value) (P : List PE) : Prop := ∃ L, RdV w v L ∧ All2 (DpE w) L P
theorem RdP.below {w w' : World} {v : Value} {P : List PE} (h : RdP w v P) (hb : Below w.heap.size w w') : RdP w' v P := by
  obtain ⟨L, h1, h2⟩ := h
  exact ⟨L, h1.below hb, h2.mono fun _ _ _ _ k => k.below hb⟩
/-! the ways and senses, on whole entries -/
def getP (P : List PE) (id : Int) : Option PE := P.find? fun e => e.id == id
def wayP (P : List PE) : Nat → Int → List PE
  | 0, _ => []
  | k + 1, id => match getP P id with
    | none => []
    | some e => e :: if e.main = 0 then [] else wayP P k e.main
theorem get_all {w : World} {L : List EV} {P : List PE} (h : All2 (DpE w) L P) (id : Int) : (getE L id = none ∧ getP P id = none) ∨ ∃ e p, getE L id = some e ∧ getP P id = some p ∧ DpE w e p :=
  h.find fun _ _ k => by rw [k.id]
theorem way_all {w : World} {L : List EV} {P : List PE} (h : All2 (DpE w) L P) : ∀ (k : Nat) (id : Int), All2 (DpE w) (wayL L k id) (wayP P k id)
  | 0, _ => .nil
  | k + 1, id => by
    rw [wayL, wayP]
    rcases get_all h id with ⟨h1, h2⟩ | ⟨e, p, h1, h2, h3⟩
    · rw [h1, h2]; exact .nil
    · rw [h1, h2]
      refine .cons h3 ?_
      rw [← h3.main]
      split
      · exact .nil
      · exact way_all h k _
def sensesP (P : List PE) (id : Int) : List PSe := match (wayP P (P.length + 1) id).find? fun e => decide (0 < e.senses.length) with
  | none => []
  | some p => p.senses
end Go.Proofs.YtiopgbbggeimaaaGreat

/-
  Part of variants; with of the reference; a copy of senses.
-/
namespace Go.Proofs.YtiopgbbggeimaaaGreat
open Go.ChangeShapes Go.WideShapes Go.ChangeAt Go.RowKit
def OwnSe (w : World) (base : Nat) (v : Value) (l : List PSe) : Prop := w.ownsRow base 99 2 v l.length (l.flatMap seCells)
theorem OwnSe.rd {w : World} {base : Nat} {v : Value} {l : List PSe} (h : OwnSe w base v l) : RdSe w v l := Rd.own h
theorem oneCell_se (l : List PSe) : ∀ u ∈ l.flatMap seCells, u.oneCell' = true := by
  intro u hu
  obtain ⟨e, _, he⟩ := List.mem_flatMap.1 hu
  simp only [seCells, List.mem_cons, List.not_mem_nil, or_false] at he
  rcases he with rfl | rfl <;> rfl
set_option maxHeartbeats 400000 in
theorem cloneS_any (v : Value) (l : List PSe) (w : World) (hv : RdSe w v l) (hl : l.length ≤ 100000) :
    Calls Tryz.prog 82 #[v] w fun e w' => (∃ v', e = .returned v' ∧ OwnSe w' w.heap.size v' l) ∧ Below w.heap.size w w' := by
  have HV := Lib.hid hv
  have HL := Lib.hid hl
  obtain ⟨A, n, c, rfl, _, _, HN, hr⟩ := hv.op
  clear hl
  cases A with
  | none =>
    have hxs : l = [] := by
      have hv2 := hv
      unfold RdSe at hv2
      rw [HN.out] at hv2
      exact List.length_eq_zero_iff.1 (HN.out.trans (rd_none _ _ _ _ _ hv2).1)
    have HXS := Lib.hid hxs
    clear hxs hv
    have q : ∀ W : World, (binOp .eql 81 (.slice none n c) (.slice none 0 0)).run Tryz.prog W = .ok (.bool true) W := fun W => Lib.run_eql_slice_nil W _ _ none n c 0 0 Tryz.underlying81
    go_enter Tryz.func82, Tryz.ntmps82
    go_wp2_with fail
    go_ret
    refine ⟨⟨_, rfl, ?_⟩, Below.refl _ _⟩
    rw [HXS.out]
    exact World.ownsRow_nil _ _ _ _
  | some ad =>
    clear hv
    have q : ∀ W : World, (binOp .eql 81 (.slice (some ad) n c) (.slice none 0 0)).run Tryz.prog W = .ok (.bool false) W := fun W => Lib.run_eql_slice_nil W _ _ (some ad) n c 0 0 Tryz.underlying81
    go_enter Tryz.func82, Tryz.ntmps82
    go_wp2_with (at_builtin; refine wpList_app_rd rfl (.tmp 5) (.tmp 6) 81 rfl w.heap.size 99 _ 2 32 Tryz.underlying81 infoS rfl (by decide) (.slice (some ⟨w.heap.size, 0, none⟩) 0 0) 0 [] rfl (own_newR w w.heap.size _ _ 2 rfl (Nat.le_refl _)) (.slice (some ad) n c) l.length (l.flatMap seCells) rfl (Rd.alloc HV.out _) (oneCell_se l) (by have := HL.out; simp only [maxLen]; omega) (by have := HL.out; omega) (by simp) ?_; intro vc w2 ho hg _; have HO := Lib.hid ho; have HG := Lib.hid hg; clear ho hg)
    go_ret
    refine ⟨⟨_, rfl, by simpa [OwnSe] using HO.out⟩, ((Below.refl _ _).alloc (Nat.le_refl _) _).grown HG.out (by simp) (fun k hk => by simp [Value.ownBlock] at hk; omega)⟩
end Go.Proofs.YtiopgbbggeimaaaGreat

/-
  Senses of variants.
-/
namespace Go.Proofs.YtiopgbbggeimaaaGreat
open Go.ChangeShapes Go.WideShapes Go.ChangeAt Go.RowKit Go.Shelf
attribute [local go_sem] Oper.semAt_some
theorem flat_inj {α : Type} (f : α → List Value) (n : Nat) (hn : 0 < n) (hf : ∀ a, (f a).length = n) (hi : ∀ a b, f a = f b → a = b) : ∀ (l m : List α), l.flatMap f = m.flatMap f → l = m
  | [], [], _ => rfl
  | [], b :: m, h => by have := congrArg List.length h; simp [hf] at this; omega
  | a :: l, [], h => by have := congrArg List.length h; simp [hf] at this; omega
  | a :: l, b :: m, h => by
    rw [List.flatMap_cons, List.flatMap_cons] at h
    obtain ⟨h1, h2⟩ := List.append_inj h (by rw [hf, hf])
    rw [hi _ _ h1, flat_inj f n hn hf hi l m h2]
theorem rd_unique {w : World} {size n : Nat} {v : Value} {xs ys : List Value} (h : Rd w size v n xs) (k : Rd w size v n ys) : xs = ys := by
  obtain ⟨A, c, rfl, _, _, h3, h4⟩ := h
  obtain ⟨A', c', he, _, _, k3, k4⟩ := k
  cases he
  rcases Nat.eq_zero_or_pos n with h0 | h0
  · subst h0
    exact (List.eq_nil_of_length_eq_zero (by simpa using h3)).trans (List.eq_nil_of_length_eq_zero (by simpa using k3)).symm
  · obtain ⟨b, off, hA, _, hc⟩ := h4 h0
    obtain ⟨b', off', hA', _, kc⟩ := k4 h0
    rw [hA] at hA'
    cases hA'
    refine List.ext_getElem (by omega) fun i h1 h2 => ?_
    have e1 := hc i _ (List.getElem?_eq_getElem h1)
    have e2 := kc i _ (List.getElem?_eq_getElem h2)
    rw [e1] at e2
    exact Option.some.inj e2
theorem rdSe_unique {w : World} {v : Value} {l m : List PSe} (h : RdSe w v l) (k : RdSe w v m) : l = m := by
  obtain ⟨A, n, c, rfl, _, _, HN, _⟩ := h.op
  obtain ⟨A', n', c', he, _, _, HN', _⟩ := k.op
  cases he
  unfold RdSe at h k
  rw [HN.out] at h
  rw [HN'.out] at k
  exact flat_inj seCells 2 (by decide) (fun _ => rfl) (fun a b hab => by cases a; cases b; simp [seCells] at hab; simp [hab]) l m (rd_unique h k)
theorem Stays.owns {β : Type} {T : Nat → Prop} {base size : Nat} {e : TypeId} {v : Value} {n : Nat} {xs : List Value} (hT : ∀ k, T k → k < base) : Stays T (fun (_ : β) W => W.ownsRow base e size v n xs) := fun _ A _ row hs hg hr =>
  hs.kept hg (by
    rcases row with _ | k
    · rcases hv : v.ownBlock with _ | b
      · exact .inl rfl
      · exact .inr (by simp)
    · refine .inr fun e' => ?_
      have := (World.ownsRow.lt hs k e').1
      have := hT k (hr k rfl)
      omega)
def hasS (e : EV) : Bool := decide (0 < e.s.n)
def pS (e : PE) : Bool := decide (0 < e.senses.length)
set_option maxHeartbeats 4000000 in
set_option maxRecDepth 100000 in
theorem senses_any (v : Value) (P : List PE) (id : Int) (w : World) (hv : RdP w v P) (hl : P.length ≤ 100000) (hsl : ∀ p, p ∈ P → p.senses.length ≤ 100000) :
    Calls Tryz.prog 44 #[v, .int .i64 id] w fun e w' => (∃ v', e = .returned v' ∧ RdSe w' v' (sensesP P id)) ∧ Below w.heap.size w w' := by
  obtain ⟨L, hv, hdp⟩ := hv
  obtain ⟨A, n, c, rfl, h1, h2, HN, _⟩ := hv.op
  have HV := Lib.hid hv
  have HDP := Lib.hid hdp
  have HSL := Lib.hid hsl
  have hln := hl
  rw [← hdp.length, HN.out] at hln
  have HPL : Hid (P.length = n) := hdp.length.symm.trans HN.out
  clear hv hl hdp hsl
  have HDS : Hid (∀ e ∈ L, ∃ p ∈ P, DpE w e p) := fun e he => HDP.out.mem he
  have HSEN : Hid (∀ (pre : List EV) (x : EV) (l : List PSe), pre <+: wayL L (L.length + 1) id → pre.find? hasS = some x → RdSe w (.slice x.s.A x.s.n x.s.c) l → sensesP P id = l) := by
    rintro pre x l ⟨r, hr⟩ hf hrd
    have hww := way_all HDP.out (L.length + 1) id
    rw [HDP.out.length] at hww
    have hfx : (wayL L (P.length + 1) id).find? hasS = some x := by rw [← HDP.out.length, ← hr, List.find?_append, hf]; rfl
    rcases hww.find (f := hasS) (g := pS) (fun a b k => by rw [hasS, pS, k.ns]) with ⟨h3, _⟩ | ⟨a, b, h3, h4, h5⟩
    · rw [h3] at hfx; cases hfx
    · rw [h3] at hfx
      cases hfx
      rw [sensesP, show (fun e : PE => decide (0 < e.senses.length)) = pS from rfl, h4]
      exact rdSe_unique h5.s hrd
  have HNIL : Hid ((∀ e ∈ wayL L (L.length + 1) id, e.s.n = 0) → sensesP P id = []) := by
    intro h
    have hww := way_all HDP.out (L.length + 1) id
    have hfx : (wayL L (L.length + 1) id).find? hasS = none := by
      rw [List.find?_eq_none]
      intro x hx
      simp [hasS, h x hx]
    rw [HDP.out.length] at hww hfx
    rcases hww.find (f := hasS) (g := pS) (fun a b k => by rw [hasS, pS, k.ns]) with ⟨_, h3⟩ | ⟨a, b, h3, h4, h5⟩
    · rw [sensesP, show (fun e : PE => decide (0 < e.senses.length)) = pS from rfl, h3]
    · rw [h3] at hfx; cases hfx
  refine (callsIn_wide (n := 3)).1 ?_
  refine callsIn_of_wp_marks Tryz.func44 rfl trivial ?_ rfl
  simp only [Tryz.ntmps44, List.size_toArray, List.length_cons, List.length_nil, Nat.reduceAdd, Nat.reduceSub, Array.replicate_succ, Array.replicate_zero, List.push_toArray, List.append_toArray, List.nil_append, List.cons_append]
  gi_wp2_with fail
  refine ⟨trivial, ?_⟩
  refine (callsIn_wide.2 (way_any A n c id _)).mono ?_
  rintro e w' ⟨rfl, rfl⟩
  gi_wp2_with fail
  generalize hW0 : World.alloc (World.alloc (World.alloc w _) _) _ = W0
  have b4 : Boxed W0 w.heap.size 81 (.slice none 0 0) := by rw [Boxed, ← hW0]; (repeat (first | exact heap_new' _ _ _ (by first | omega | rfl | (simp; done) | (simp; omega)) | refine (Below.heap_alloc _ _ _ (by first | omega | (simp; done) | (simp; omega))).trans ?_))
  have bl : Boxed W0 (w.heap.size + 1) 34 (.slice A n c) := by rw [Boxed, ← hW0]; (repeat (first | exact heap_new' _ _ _ (by first | omega | rfl | (simp; done) | (simp; omega)) | refine (Below.heap_alloc _ _ _ (by first | omega | (simp; done) | (simp; omega))).trans ?_))
  have bi : Boxed W0 (w.heap.size + 1 + 1) 3 (.int .i64 id) := by rw [Boxed, ← hW0]; (repeat (first | exact heap_new' _ _ _ (by first | omega | rfl | (simp; done) | (simp; omega)) | refine (Below.heap_alloc _ _ _ (by first | omega | (simp; done) | (simp; omega))).trans ?_))
  have hB0 : Below w.heap.size w W0 := by rw [← hW0]; repeat (first | assumption | exact Below.refl _ _ | refine Below.alloc ?_ (by first | omega | (simp; done) | (simp; omega)) _ | refine Below.drew ?_ | refine below_drewN ?_ _ | refine Below.setCell ?_ (by first | omega | (simp; done) | (simp; omega)) _)
  have hz0 : W0.heap.size = w.heap.size + 3 := by rw [← hW0]; simp
  clear hW0
  obtain ⟨D, hD⟩ : ∃ D, W0.heap.size = D := ⟨_, rfl⟩
  have hD1 : D ≤ w.heap.size + 3 := by omega
  have hD2 : w.heap.size + 3 ≤ D := by omega
  clear hz0
  have hst := way_stops 2 (by omega) (w.heap.size + 1) (w.heap.size + 1 + 1) w.heap.size L A n c id w W0 (Nat.le_refl _) hB0 (by omega) (by omega) (by omega) bl bi HV.out (by omega)
  rw [hD] at hst
  refine wpIn_rangeFunc_box (α := VE L) (D := D) hD rfl (by omega) (gf := 104) (lb := #[.pointer (some ⟨w.heap.size + 1, 0, none⟩), .pointer (some ⟨w.heap.size + 1 + 1, 0, none⟩)]) rfl trivial (enters_of Tryz.func104 (by kernel_rfl) rfl)
    (Bi := w.heap.size + 1 + 1) (by omega) hst KW.tr (fun W r r' h => KW.put (D + 1) (by omega) (by omega) (by omega) (by omega) r r' h) (fun _ => rfl)
    (fun pre W => (Boxed W w.heap.size 81 (.slice none 0 0) ∧ ∀ e ∈ pre.map Subtype.val, e.s.n = 0) ∧ Below w.heap.size w W)
    (fun c pre W => c = .ret ∧ ∃ (v' : Value) (x : EV) (l : List PSe), ((pre.map Subtype.val).find? hasS = some x ∧ RdSe w (.slice x.s.A x.s.n x.s.c) l) ∧ ((Boxed W w.heap.size 81 v' ∧ W.ownsRow (D + 2) 99 2 v' l.length (l.flatMap seCells)) ∧ Below w.heap.size w W))
    (((Stays.boxed _ _ _ (by omega)).and (Stays.pure _)).and (Stays.below (Nat.le_refl _) (by omega)))
    (fun c s X Y row hs hg hr => by
      obtain ⟨h1, v', x, l, h2, h3⟩ := hs
      exact ⟨h1, v', x, l, h2, (((Stays.boxed _ _ (fun _ => v') (by omega)).and (Stays.owns (by omega))).and (Stays.below (Nat.le_refl _) (by omega)) : Stays (fun k => k = D ∨ k = D + 1) _) () X Y row h3 hg hr⟩)
    ⟨⟨b4, by simp⟩, hB0⟩
    (fun x a' W => ∃ Bx, D + 1 < Bx ∧ EBlk W Bx x.1 ∧ a' = { tmps := #[.slice A n c, .int .i64 id, undef, undef, .pointer (some ⟨w.heap.size, 0, none⟩), .pointer (some ⟨Bx, 0, none⟩), .slice A n c, .int .i64 id,
      .func (.func 104) #[] #[.pointer (some ⟨w.heap.size + 1, 0, none⟩), .pointer (some ⟨w.heap.size + 1 + 1, 0, none⟩)], .agg #[.int .i64 x.1.id, .slice x.1.f.A x.1.f.n x.1.f.c, .int .i64 x.1.cls, .slice x.1.a.A x.1.a.n x.1.a.c, .int .i64 x.1.main, .slice x.1.s.A x.1.s.n x.1.s.c, .slice x.1.l.A x.1.l.n x.1.l.c, .slice x.1.r.A x.1.r.n x.1.r.c], undef, undef, undef, undef, undef, undef, undef], defers := [] })
    (fun x a' s X Y row hs hg hr => by obtain ⟨Bx, h1, h2, h3⟩ := hs; exact ⟨Bx, h1, Stays.ent (T := fun k => k = D + 1) Bx (fun _ => x.1) (by omega) s X Y row h2 hg hr, h3⟩)
    ?assign ?body ?done ?stop
  case assign =>
    rintro l pre x W K hl ⟨⟨i4, i5⟩, hB1⟩ hK
    have HK := Lib.hid hK
    clear hK
    rw [zip_one]
    simp only [List.setIfInBounds_toArray, List.set_cons_zero, List.set_cons_succ]
    gi_wp2
    refine HK.out _ _ ((Books.refl _ _).alloc hl _) ((KW.refl _ _ _ _ _).alloc hB1.size _) ⟨⟨i4.alloc _, i5⟩, hB1.alloc hB1.size _⟩ ⟨W.heap.size, hl, heap_alloc_new W _, rfl⟩
  case body =>
    rintro l pre x a' W hl ⟨⟨i4, i5⟩, hB1⟩ ⟨Bx, hBx, bX, rfl⟩ hlt
    obtain ⟨p, hpP, hdpx⟩ := HDS.out x.1 x.2
    have hsz := hdpx.ns
    have hsl := HSL.out p hpP
    obtain ⟨z0, z1, z2, z3, z4, z5, z6, z7, zl⟩ := bX.facts
    have HB1 := Lib.hid hB1
    have H4 := Lib.hid i4
    have H5 := Lib.hid i5
    have HDX := Lib.hid hdpx
    clear bX i4 i5 hB1 hdpx
    by_cases hs0 : x.1.s.n = 0
    · have hd : decide (0 < x.1.s.n) = false := by simp [hs0]
      have HS0 := Lib.hid hs0
      clear hs0 hsz
      gi_wp2_with fail
      refine ⟨Books.refl _ _, KW.refl _ _ _ _ _, ⟨H4.out, ?_⟩, HB1.out⟩
      intro e he
      rw [List.map_append, List.mem_append] at he
      rcases he with he | he
      · exact H5.out e he
      · simp at he; subst he; exact HS0.out
    · have hd : decide (0 < x.1.s.n) = true := by simp; omega
      have HF : Hid (((pre ++ [x]).map Subtype.val).find? hasS = some x.1) := by
        rw [Hid, List.map_append, List.find?_append, List.find?_eq_none.2 (fun e he => by simp [hasS, H5.out e he])]
        simp [hasS]; omega
      clear hs0 hsz
      gi_wp2_with fail
      refine ⟨trivial, ?_⟩
      refine (CallsIn.inRound l (callsIn_wide.2 (cloneS_any _ p.senses W (HDX.out.s.below HB1.out) hsl))).mono ?_
      rintro e W2 ⟨⟨v2, rfl, ho⟩, hb⟩
      dsimp only
      have HO := Lib.hid ho
      obtain ⟨A2, n2, c2, rfl, _, _, _, _⟩ := ho.rd.op
      have H42 : Hid (Boxed W2 w.heap.size 81 (.slice none 0 0)) := (hb.block _ H4.out.lt).trans H4.out
      have hc4 := H42.out.cell
      have hf4 := H42.out.frozen
      have HB2 := Lib.hid hb
      have hge := hb.size
      clear ho hb z0 z1 z2 z3 z4 z5 z6 z7 zl hd
      gi_wp2_with fail
      refine ⟨((Books.refl _ _).call hl HB2.out).set (by omega) _ _, rfl, _, x.1, p.senses, ⟨HF.out, HDX.out.s⟩, ⟨H42.out.set _, ?_⟩, (bchain HB1.out HB2.out).setCell (p := ⟨w.heap.size, 0, none⟩) (Nat.le_refl _) _⟩
      refine own_setCell (own_base HO.out (by omega)) (fun e => ?_) _ _
      have := (World.ownsRow.lt HO.out _ e).1
      omega
  case done =>
    rintro ys W hys ⟨⟨i4, i5⟩, hB1⟩ hK
    rw [hys] at i5
    have HE : Hid (sensesP P id = []) := HNIL.out i5
    have HK := Lib.hid hK
    have H4 := Lib.hid i4
    have HB1 := Lib.hid hB1
    have hc4 := i4.cell
    have hf4 := i4.frozen
    clear i4 i5 hK hB1 hys
    have H4D : Hid ((W.setCell ⟨w.heap.size, 0, none⟩ (.slice none 0 0)).heap[D]? = some (.deferred (some []))) := (Below.heap_setCell W ⟨w.heap.size, 0, none⟩ _ D (by show D ≠ w.heap.size; omega)).trans HK.out
    have HBS : Hid (Below w.heap.size w (W.setCell ⟨w.heap.size, 0, none⟩ (.slice none 0 0))) := HB1.out.setCell (p := ⟨w.heap.size, 0, none⟩) (Nat.le_refl _) _
    have hcell : ((W.setCell ⟨w.heap.size, 0, none⟩ (.slice none 0 0)).putObj D (.deferred none)).cell? ⟨w.heap.size, 0, none⟩ = some (.slice none 0 0) := (show Boxed _ w.heap.size 81 (.slice none 0 0) from (World.putObj_heap_other (by omega)).trans (H4.out.set _)).cell
    have HFIN : Hid (Below w.heap.size w ((W.setCell ⟨w.heap.size, 0, none⟩ (.slice none 0 0)).putObj D (.deferred none))) := HBS.out.trans (belowK_b (w := w) (Nat.le_refl _) _ D _ _ (by omega) H4D.out rfl rfl)
    gi_wp2
    refine ⟨by simp, .inl ⟨_, _, rfl, run_takeDeferred H4D.out, ?_⟩⟩
    refine ⟨.slice none 0 0, ?_, ⟨_, rfl, ?_⟩, HFIN.out⟩
    · simp [results, Tryz.results44, go_sem, hcell]
    · rw [HE.out]
      exact Rd.own (World.ownsRow_nil _ w.heap.size 99 2)
  case stop =>
    rintro c pre W hpre ⟨rfl, v', x, l, ⟨h3, h4⟩, ⟨h5, h6⟩, h7⟩ hK
    have HE : Hid (sensesP P id = l) := HSEN.out _ x l hpre h3 h4
    have hcell : (W.putObj D (.deferred none)).cell? ⟨w.heap.size, 0, none⟩ = some v' := (show Boxed _ w.heap.size 81 v' from (World.putObj_heap_other (by omega)).trans h5).cell
    have HFIN : Hid (Below w.heap.size w (W.putObj D (.deferred none))) := h7.trans (belowK_b (w := w) (Nat.le_refl _) _ D _ _ (by omega) hK rfl rfl)
    have HO : Hid (OwnSe (W.putObj D (.deferred none)) (D + 2) v' l) := ownsRow_putObj h6 _ hK rfl
    have HK := Lib.hid hK
    clear h3 h4 h5 h6 h7 hK hpre
    gi_wp2
    refine ⟨by simp, .inl ⟨_, _, rfl, run_takeDeferred HK.out, ?_⟩⟩
    refine ⟨v', ?_, ⟨_, rfl, ?_⟩, HFIN.out⟩
    · simp [results, Tryz.results44, go_sem, hcell]
    · rw [HE.out]
      exact HO.out.rd
end Go.Proofs.YtiopgbbggeimaaaGreat

