/-
  Texts, inventories and orthographies in memory.
-/
import Derived.Test.YtokbclpdpegicaaW4
namespace Go.Proofs.Ytokbclpdpegicaa
open Go.ChangeShapes Go.WideShapes Go.ChangeAt Go.RowKit
theorem flat2_length {α : Type} (f : α → List Value) (hf : ∀ a, (f a).length = 2) (l : List α) : (l.flatMap f).length = l.length * 2 := by
  induction l with
  | nil => rfl
  | cons a l ih => rw [List.flatMap_cons, List.length_append, ih, hf, List.length_cons]; omega
theorem flat2_at {α : Type} (f : α → List Value) (hf : ∀ a, (f a).length = 2) (l : List α) (k : Nat) (h : k < l.length) (j : Nat) (hj : j < 2) : (l.flatMap f)[k * 2 + j]? = (f l[k])[j]? := by
  induction l generalizing k with
  | nil => simp at h
  | cons a l ih =>
    have ha := hf a
    cases k with
    | zero => rw [List.flatMap_cons, List.getElem?_append_left (by omega)]; simp
    | succ k =>
      rw [List.flatMap_cons, List.getElem?_append_right (by omega), show (k + 1) * 2 + j - (f a).length = k * 2 + j by omega]
      exact ih k (by simpa using h)
/-! a list of texts -/
def RdS (w : World) (v : Value) (ss : List ByteArray) : Prop := Rd w 1 v ss.length (ss.map Value.string)
theorem RdS.below {w w' : World} {v : Value} {ss : List ByteArray} (h : RdS w v ss) (hb : Below w.heap.size w w') : RdS w' v ss := Rd.below h hb
def StAt (w : World) (A : Option Addr) (l : List ByteArray) (k : Nat) : Prop :=
  ∃ b off s, A = some ⟨b, off, none⟩ ∧ b < w.heap.size ∧ Hid (l.drop k = s :: l.drop (k + 1)) ∧ w.cell? ⟨b, off + k, none⟩ = some (.string s)
theorem RdS.op {w : World} {v : Value} {l : List ByteArray} (h : RdS w v l) : ∃ (A : Option Addr) (n c : Nat), v = .slice A n c ∧ n ≤ c ∧ c ≤ 9223372036854775807 ∧ Hid (l.length = n) ∧ Hid (∀ k, k < n → StAt w A l k) := by
  obtain ⟨A, c, rfl, h1, h2, h3, h4⟩ := h
  refine ⟨A, _, c, rfl, h1, h2, rfl, fun k hk => ?_⟩
  obtain ⟨b, off, rfl, hb, hc⟩ := h4 (by omega)
  exact ⟨b, off, l[k], rfl, hb, List.drop_eq_getElem_cons hk, hc k _ (by simp [hk])⟩
theorem StAt.below {w w' : World} {A : Option Addr} {l : List ByteArray} {k : Nat} (h : StAt w A l k) (hb : Below w.heap.size w w') : StAt w' A l k := by
  obtain ⟨b, off, s, rfl, h1, h2, h3⟩ := h
  exact ⟨b, off, s, rfl, by have := hb.size; omega, h2, (hb.cell h1).trans h3⟩
/-! a list of lists of texts -/
def RdSS (w : World) (v : Value) (Ls : List (List ByteArray)) : Prop := ∃ us : List Value, Rd w 1 v Ls.length us ∧ us.length = Ls.length ∧ ∀ (i : Nat) (u : Value) (l : List ByteArray), us[i]? = some u → Ls[i]? = some l → RdS w u l
theorem RdSS.below {w w' : World} {v : Value} {Ls : List (List ByteArray)} (h : RdSS w v Ls) (hb : Below w.heap.size w w') : RdSS w' v Ls := by
  obtain ⟨us, h1, h2, h3⟩ := h
  exact ⟨us, Rd.below h1 hb, h2, fun i u l hu hl => (h3 i u l hu hl).below hb⟩
def SSAt (w : World) (A : Option Addr) (Ls : List (List ByteArray)) (k : Nat) : Prop :=
  ∃ b off B m cm l, A = some ⟨b, off, none⟩ ∧ b < w.heap.size ∧ Hid (Ls.drop k = l :: Ls.drop (k + 1)) ∧ w.cell? ⟨b, off + k, none⟩ = some (.slice B m cm) ∧ Hid (RdS w (.slice B m cm) l)
theorem RdSS.op {w : World} {v : Value} {Ls : List (List ByteArray)} (h : RdSS w v Ls) : ∃ (A : Option Addr) (n c : Nat), v = .slice A n c ∧ n ≤ c ∧ c ≤ 9223372036854775807 ∧ Hid (Ls.length = n) ∧
    Hid (∀ k, k < n → SSAt w A Ls k) := by
  obtain ⟨us, ⟨A, c, rfl, h1, h2, h3, h4⟩, h5, h6⟩ := h
  refine ⟨A, _, c, rfl, h1, h2, rfl, fun k hk => ?_⟩
  obtain ⟨b, off, rfl, hb, hc⟩ := h4 (by omega)
  have hu : us[k]? = some (us[k]'(by omega)) := List.getElem?_eq_getElem (by omega)
  have hl : Ls[k]? = some (Ls[k]'hk) := List.getElem?_eq_getElem hk
  have h7 := h6 k _ _ hu hl
  obtain ⟨B, m, cm, he, _, _, _, _⟩ := h7.op
  have h8 := hc k _ hu
  rw [he] at h7 h8
  exact ⟨b, off, B, m, cm, Ls[k], rfl, hb, List.drop_eq_getElem_cons hk, h8, h7⟩
theorem SSAt.below {w w' : World} {A : Option Addr} {Ls : List (List ByteArray)} {k : Nat} (h : SSAt w A Ls k) (hb : Below w.heap.size w w') : SSAt w' A Ls k := by
  obtain ⟨b, off, B, m, cm, l, rfl, h1, h2, h3, h4⟩ := h
  exact ⟨b, off, B, m, cm, l, rfl, by have := hb.size; omega, h2, (hb.cell h1).trans h3, h4.out.below hb⟩
/-! the segments of an inventory -/
structure PPh where
  name : ByteArray
  feat : Int
def phCells (p : PPh) : List Value := [.string p.name, .int .i64 p.feat]
def RdPh (w : World) (v : Value) (l : List PPh) : Prop := Rd w 2 v l.length (l.flatMap phCells)
theorem RdPh.below {w w' : World} {v : Value} {l : List PPh} (h : RdPh w v l) (hb : Below w.heap.size w w') : RdPh w' v l := Rd.below h hb
def PhAt (w : World) (A : Option Addr) (l : List PPh) (k : Nat) : Prop :=
  ∃ b off p, A = some ⟨b, off, none⟩ ∧ b < w.heap.size ∧ Hid (l.drop k = p :: l.drop (k + 1)) ∧ w.cell? ⟨b, off + k * 2, none⟩ = some (.string p.name) ∧ w.cell? ⟨b, off + k * 2 + 1, none⟩ = some (.int .i64 p.feat)
theorem RdPh.op {w : World} {v : Value} {l : List PPh} (h : RdPh w v l) : ∃ (A : Option Addr) (n c : Nat), v = .slice A n c ∧ n ≤ c ∧ c ≤ 9223372036854775807 ∧ Hid (l.length = n) ∧ Hid (∀ k, k < n → PhAt w A l k) := by
  obtain ⟨A, c, rfl, h1, h2, h3, h4⟩ := h
  refine ⟨A, _, c, rfl, h1, h2, rfl, fun k hk => ?_⟩
  obtain ⟨b, off, rfl, hb, hc⟩ := h4 (by omega)
  exact ⟨b, off, l[k], rfl, hb, List.drop_eq_getElem_cons hk, hc (k * 2 + 0) _ (flat2_at phCells (fun _ => rfl) l k hk 0 (by omega)), hc (k * 2 + 1) _ (flat2_at phCells (fun _ => rfl) l k hk 1 (by omega))⟩
theorem PhAt.below {w w' : World} {A : Option Addr} {l : List PPh} {k : Nat} (h : PhAt w A l k) (hb : Below w.heap.size w w') : PhAt w' A l k := by
  obtain ⟨b, off, p, rfl, h1, h2, h3, h4⟩ := h
  exact ⟨b, off, p, rfl, by have := hb.size; omega, h2, (hb.cell h1).trans h3, (hb.cell h1).trans h4⟩
/-! units -/
structure PU where
  g : ByteArray
  s : List Int
def uCells (x : PU × Value) : List Value := [.string x.1.g, x.2]
def RdU (w : World) (v : Value) (P : List PU) : Prop := ∃ us : List Value, us.length = P.length ∧ Rd w 2 v P.length ((P.zip us).flatMap uCells) ∧ ∀ (i : Nat) (u : Value) (p : PU), us[i]? = some u → P[i]? = some p → RdI w u p.s
theorem RdU.below {w w' : World} {v : Value} {P : List PU} (h : RdU w v P) (hb : Below w.heap.size w w') : RdU w' v P := by
  obtain ⟨us, h1, h2, h3⟩ := h
  exact ⟨us, h1, Rd.below h2 hb, fun i u p hu hp => (h3 i u p hu hp).below hb⟩
def UAt (w : World) (A : Option Addr) (P : List PU) (k : Nat) : Prop :=
  ∃ b off B m cm p, A = some ⟨b, off, none⟩ ∧ b < w.heap.size ∧ Hid (P.drop k = p :: P.drop (k + 1)) ∧ w.cell? ⟨b, off + k * 2, none⟩ = some (.string p.g) ∧ w.cell? ⟨b, off + k * 2 + 1, none⟩ = some (.slice B m cm) ∧ Hid (RdI w (.slice B m cm) p.s)
theorem RdU.op {w : World} {v : Value} {P : List PU} (h : RdU w v P) : ∃ (A : Option Addr) (n c : Nat), v = .slice A n c ∧ n ≤ c ∧ c ≤ 9223372036854775807 ∧ Hid (P.length = n) ∧ Hid (∀ k, k < n → UAt w A P k) := by
  obtain ⟨us, h5, ⟨A, c, rfl, h1, h2, h3, h4⟩, h6⟩ := h
  refine ⟨A, _, c, rfl, h1, h2, rfl, fun k hk => ?_⟩
  obtain ⟨b, off, rfl, hb, hc⟩ := h4 (by omega)
  have hu : us[k]? = some (us[k]'(by omega)) := List.getElem?_eq_getElem (by omega)
  have hp : P[k]? = some (P[k]'hk) := List.getElem?_eq_getElem hk
  have h7 := h6 k _ _ hu hp
  obtain ⟨B, m, cm, he, _, _, _, _⟩ := h7.op
  have hz : k < (P.zip us).length := by simp; omega
  have c0 := hc (k * 2 + 0) _ (flat2_at uCells (fun _ => rfl) (P.zip us) k hz 0 (by omega))
  have c1 := hc (k * 2 + 1) _ (flat2_at uCells (fun _ => rfl) (P.zip us) k hz 1 (by omega))
  simp only [List.getElem_zip] at c0 c1
  rw [he] at h7 c1
  exact ⟨b, off, B, m, cm, P[k], rfl, hb, List.drop_eq_getElem_cons hk, c0, c1, h7⟩
theorem UAt.below {w w' : World} {A : Option Addr} {P : List PU} {k : Nat} (h : UAt w A P k) (hb : Below w.heap.size w w') : UAt w' A P k := by
  obtain ⟨b, off, B, m, cm, p, rfl, h1, h2, h3, h4, h5⟩ := h
  exact ⟨b, off, B, m, cm, p, rfl, by have := hb.size; omega, h2, (hb.cell h1).trans h3, (hb.cell h1).trans h4, h5.out.below hb⟩
/-! an orthography -/
structure PO where
  name : ByteArray
  units : List PU
  letters : List (List ByteArray)
def RdO (w : World) (v : Value) (o : PO) : Prop := ∃ vu vl, v = .agg #[.string o.name, vu, vl] ∧ RdU w vu o.units ∧ RdSS w vl o.letters
theorem RdO.below {w w' : World} {v : Value} {o : PO} (h : RdO w v o) (hb : Below w.heap.size w w') : RdO w' v o := by
  obtain ⟨vu, vl, rfl, h1, h2⟩ := h
  exact ⟨vu, vl, rfl, h1.below hb, h2.below hb⟩
theorem RdO.op {w : World} {v : Value} {o : PO} (h : RdO w v o) : ∃ (A : Option Addr) (n c : Nat) (B : Option Addr) (m d : Nat), v = .agg #[.string o.name, .slice A n c, .slice B m d] ∧ Hid (RdU w (.slice A n c) o.units) ∧ Hid (RdSS w (.slice B m d) o.letters) ∧ Hid (o.units.length = n) ∧ Hid (o.letters.length = m) := by
  obtain ⟨vu, vl, rfl, h1, h2⟩ := h
  obtain ⟨A, n, c, rfl, _, _, hn, _⟩ := id h1.op
  obtain ⟨B, m, d, rfl, _, _, hm, _⟩ := id h2.op
  exact ⟨A, n, c, B, m, d, rfl, h1, h2, hn, hm⟩
/-- texts that are not too long -/
def SmS (s : ByteArray) : Prop := s.size ≤ 1048576
structure SmO (o : PO) : Prop where
  name : SmS o.name
  units : o.units.length ≤ 1048576
  graph : ∀ u ∈ o.units, SmS u.g
  segs : ∀ u ∈ o.units, u.s.length ≤ 1048576
  letters : o.letters.length ≤ 1048576
  letter : ∀ l ∈ o.letters, l.length ≤ 1048576 ∧ ∀ s ∈ l, SmS s
end Go.Proofs.Ytokbclpdpegicaa
