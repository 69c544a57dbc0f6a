/-
  A language, an analysis and lists of analyses in memory.
-/
import Derived.Test.YtiopgbbggeimaaaGreatY10
namespace Go.Proofs.YtiopgbbggeimaaaGreat
open Go.ChangeShapes Go.WideShapes Go.ChangeAt Go.RowKit
structure PLang where
  inv : List PPh
  ort : PO
  rules : List PRule
  net : PNet
  lex : List PE
def RdG (w : World) (v : Value) (g : PLang) : Prop := ∃ v0 v2 v3 v4 v6 v7 v8, v = .agg #[v0, .string g.ort.name, v2, v3, v4, .int .i64 g.net.states, v6, v7, v8] ∧
  RdPh w v0 g.inv ∧ RdU w v2 g.ort.units ∧ RdSS w v3 g.ort.letters ∧ RdRs w v4 g.rules ∧ RdSN w v6 g.net.steps ∧ RdI w v7 g.net.final ∧ RdP w v8 g.lex
theorem RdG.below {w w' : World} {v : Value} {g : PLang} (h : RdG w v g) (hb : Below w.heap.size w w') : RdG w' v g := by
  obtain ⟨v0, v2, v3, v4, v6, v7, v8, rfl, h0, h2, h3, h4, h6, h7, h8⟩ := h
  exact ⟨v0, v2, v3, v4, v6, v7, v8, rfl, h0.below hb, h2.below hb, h3.below hb, h4.below hb, h6.below hb, h7.below hb, h8.below hb⟩
theorem RdU.form {w : World} {v : Value} {P : List PU} (h : RdU w v P) : ∃ A n c, v = .slice A n c ∧ P.length = n ∧ n ≤ c ∧ c ≤ 9223372036854775807 := by
  obtain ⟨us, _, ⟨A, c, rfl, h1, h2, _, _⟩, _⟩ := h
  exact ⟨A, _, c, rfl, rfl, h1, h2⟩
theorem RdP.form {w : World} {v : Value} {P : List PE} (h : RdP w v P) : ∃ A n c, v = .slice A n c ∧ P.length = n ∧ n ≤ c ∧ c ≤ 9223372036854775807 := by
  obtain ⟨L, ⟨A, c, rfl, h1, h2, _, _⟩, h3⟩ := h
  exact ⟨A, _, c, rfl, h3.length.symm, h1, h2⟩
/-- the parts of a language's value -/
theorem RdG.parts {w : World} {A0 A2 A3 A4 A6 A7 A8 : Option Addr} {n0 c0 n2 c2 n3 c3 n4 c4 n6 c6 n7 c7 n8 c8 : Nat} {s : ByteArray} {q : Int} {g : PLang}
    (h : RdG w (.agg #[.slice A0 n0 c0, .string s, .slice A2 n2 c2, .slice A3 n3 c3, .slice A4 n4 c4, .int .i64 q, .slice A6 n6 c6, .slice A7 n7 c7, .slice A8 n8 c8]) g) :
    s = g.ort.name ∧ q = g.net.states ∧ RdVQ w (.agg #[.slice A0 n0 c0]) g.inv ∧ RdO w (.agg #[.string s, .slice A2 n2 c2, .slice A3 n3 c3]) g.ort ∧ RdRs w (.slice A4 n4 c4) g.rules ∧ RdN w (.agg #[.int .i64 q, .slice A6 n6 c6, .slice A7 n7 c7]) g.net ∧ RdP w (.slice A8 n8 c8) g.lex := by
  obtain ⟨v0, v2, v3, v4, v6, v7, v8, he, h0, h2, h3, h4, h6, h7, h8⟩ := h
  cases he
  exact ⟨rfl, rfl, ⟨_, rfl, h0⟩, ⟨_, _, rfl, h2, h3⟩, h4, ⟨_, _, rfl, h6, h7⟩, h8⟩
theorem RdG.form {w : World} {v : Value} {g : PLang} (h : RdG w v g) : ∃ (A0 A2 A3 A4 A6 A7 A8 : Option Addr) (n0 c0 n2 c2 n3 c3 n4 c4 n6 c6 n7 c7 n8 c8 : Nat) (s : ByteArray) (q : Int),
    v = .agg #[.slice A0 n0 c0, .string s, .slice A2 n2 c2, .slice A3 n3 c3, .slice A4 n4 c4, .int .i64 q, .slice A6 n6 c6, .slice A7 n7 c7, .slice A8 n8 c8] := by
  obtain ⟨v0, v2, v3, v4, v6, v7, v8, rfl, h0, h2, h3, h4, h6, h7, h8⟩ := h
  obtain ⟨A0, n0, c0, rfl, _, _, _, _⟩ := h0.op
  obtain ⟨A2, n2, c2, rfl, _, _, _⟩ := h2.form
  obtain ⟨A3, n3, c3, rfl, _, _, _, _⟩ := h3.op
  obtain ⟨A4, n4, c4, rfl, _, _, _, _⟩ := h4
  obtain ⟨A6, n6, c6, rfl, _, _, _, _⟩ := h6.op
  obtain ⟨A7, n7, c7, rfl, _, _, _, _⟩ := h7.op
  obtain ⟨A8, n8, c8, rfl, _, _, _⟩ := h8.form
  exact ⟨A0, A2, A3, A4, A6, A7, A8, n0, c0, n2, c2, n3, c3, n4, c4, n6, c6, n7, c7, n8, c8, _, _, rfl⟩
/-- a block is a language -/
def GBlk (w : World) (B : Nat) (v0 v1 v2 v3 v4 v5 v6 v7 v8 : Value) : Prop := w.heap[B]? = some (.cells #[v0, v1, v2, v3, v4, v5, v6, v7, v8] 36 (0, 0))
section
variable {w w' : World} {B : Nat} {v0 v1 v2 v3 v4 v5 v6 v7 v8 : Value}
theorem GBlk.lt (h : GBlk w B v0 v1 v2 v3 v4 v5 v6 v7 v8) : B < w.heap.size := (Array.getElem?_eq_some_iff.1 h).1
theorem GBlk.below (h : GBlk w B v0 v1 v2 v3 v4 v5 v6 v7 v8) (hb : Below w.heap.size w w') : GBlk w' B v0 v1 v2 v3 v4 v5 v6 v7 v8 := (hb.block B h.lt).trans h
theorem GBlk.cells (h : GBlk w B v0 v1 v2 v3 v4 v5 v6 v7 v8) : w.cell? ⟨B, 0, none⟩ = some v0 ∧ w.cell? ⟨B, 1, none⟩ = some v1 ∧ w.cell? ⟨B, 2, none⟩ = some v2 ∧ w.cell? ⟨B, 3, none⟩ = some v3 ∧ w.cell? ⟨B, 4, none⟩ = some v4 ∧ w.cell? ⟨B, 5, none⟩ = some v5 ∧ w.cell? ⟨B, 6, none⟩ = some v6 ∧ w.cell? ⟨B, 7, none⟩ = some v7 ∧ w.cell? ⟨B, 8, none⟩ = some v8 := by
  refine ⟨?_, ?_, ?_, ?_, ?_, ?_, ?_, ?_, ?_⟩ <;> rw [cell_of_row w B _ _ _ (0, 0) h] <;> rfl
end
/-! parts and analyses -/
structure PPt where
  e : Int
  a : Int
  s : Int
  deriving DecidableEq
def ptCells (p : PPt) : List Value := [.int .i64 p.e, .int .i64 p.a, .int .i64 p.s]
theorem pts_at (l : List PPt) (k : Nat) (h : k < l.length) (j : Nat) (hj : j < 3) : (l.flatMap ptCells)[k * 3 + j]? = (ptCells l[k])[j]? := by
  induction l generalizing k with
  | nil => simp at h
  | cons a l ih =>
    cases k with
    | zero => simp only [List.flatMap_cons]; rw [List.getElem?_append_left (by simp [ptCells]; omega)]; simp
    | succ k =>
      simp only [List.flatMap_cons]
      rw [List.getElem?_append_right (by simp [ptCells]; omega)]
      have e : (k + 1) * 3 + j - (ptCells a).length = k * 3 + j := by simp [ptCells]; omega
      rw [e]
      exact ih k (by simpa using h)
def RdPt (w : World) (v : Value) (l : List PPt) : Prop := Rd w 3 v l.length (l.flatMap ptCells)
theorem RdPt.below {w w' : World} {v : Value} {l : List PPt} (h : RdPt w v l) (hb : Below w.heap.size w w') : RdPt w' v l := Rd.below h hb
def PtAt (w : World) (A : Option Addr) (l : List PPt) (k : Nat) : Prop :=
  ∃ b off p, A = some ⟨b, off, none⟩ ∧ b < w.heap.size ∧ Hid (l.drop k = p :: l.drop (k + 1)) ∧ w.cell? ⟨b, off + k * 3, none⟩ = some (.int .i64 p.e) ∧
    w.cell? ⟨b, off + k * 3 + 1, none⟩ = some (.int .i64 p.a) ∧ w.cell? ⟨b, off + k * 3 + 2, none⟩ = some (.int .i64 p.s)
theorem RdPt.op {w : World} {v : Value} {l : List PPt} (h : RdPt w v l) : ∃ (A : Option Addr) (n c : Nat), v = .slice A n c ∧ n ≤ c ∧ c ≤ 9223372036854775807 ∧ Hid (l.length = n) ∧
    Hid (∀ k, k < n → PtAt w A l k) := by
  obtain ⟨A, c, rfl, h1, h2, h3, h4⟩ := h
  refine ⟨A, _, c, rfl, h1, h2, rfl, fun k hk => ?_⟩
  obtain ⟨b, off, rfl, hb, hc⟩ := h4 (by omega)
  refine ⟨b, off, l[k], rfl, hb, List.drop_eq_getElem_cons hk, ?_, ?_, ?_⟩
  · exact hc (k * 3 + 0) _ (pts_at l k hk 0 (by omega))
  · exact hc (k * 3 + 1) _ (pts_at l k hk 1 (by omega))
  · exact hc (k * 3 + 2) _ (pts_at l k hk 2 (by omega))
theorem PtAt.below {w w' : World} {A : Option Addr} {l : List PPt} {k : Nat} (h : PtAt w A l k) (hb : Below w.heap.size w w') : PtAt w' A l k := by
  obtain ⟨b, off, p, rfl, hl, hd, c0, c1, c2⟩ := h
  exact ⟨b, off, p, rfl, by have := hb.size; omega, hd, (hb.cell hl).trans c0, (hb.cell hl).trans c1, (hb.cell hl).trans c2⟩
def RdAn (w : World) (v : Value) (l : List PPt) : Prop := ∃ u, v = .agg #[u] ∧ RdPt w u l
theorem RdAn.below {w w' : World} {v : Value} {l : List PPt} (h : RdAn w v l) (hb : Below w.heap.size w w') : RdAn w' v l := by
  obtain ⟨u, rfl, h⟩ := h
  exact ⟨u, rfl, h.below hb⟩
/-- a list of analyses -/
def RdAs (w : World) (v : Value) (Ls : List (List PPt)) : Prop := ∃ us : List Value, Rd w 1 v Ls.length us ∧ us.length = Ls.length ∧ ∀ (i : Nat) (u : Value) (l : List PPt), us[i]? = some u → Ls[i]? = some l → RdPt w u l
theorem RdAs.below {w w' : World} {v : Value} {Ls : List (List PPt)} (h : RdAs w v Ls) (hb : Below w.heap.size w w') : RdAs w' v Ls := by
  obtain ⟨us, h1, h2, h3⟩ := h
  exact ⟨us, Rd.below h1 hb, h2, fun i u l hu hl => (h3 i u l hu hl).below hb⟩
def AsAt (w : World) (A : Option Addr) (Ls : List (List PPt)) (k : Nat) : Prop :=
  ∃ b off B m cm l, A = some ⟨b, off, none⟩ ∧ b < w.heap.size ∧ Hid (Ls.drop k = l :: Ls.drop (k + 1)) ∧ w.cell? ⟨b, off + k, none⟩ = some (.slice B m cm) ∧ Hid (RdPt w (.slice B m cm) l)
theorem RdAs.op {w : World} {v : Value} {Ls : List (List PPt)} (h : RdAs w v Ls) : ∃ (A : Option Addr) (n c : Nat), v = .slice A n c ∧ n ≤ c ∧ c ≤ 9223372036854775807 ∧ Hid (Ls.length = n) ∧
    Hid (∀ k, k < n → AsAt w A Ls k) := by
  obtain ⟨us, ⟨A, c, rfl, h1, h2, h3, h4⟩, h5, h6⟩ := h
  refine ⟨A, _, c, rfl, h1, h2, rfl, fun k hk => ?_⟩
  obtain ⟨b, off, rfl, hb, hc⟩ := h4 (by omega)
  have hu : us[k]? = some (us[k]'(by omega)) := List.getElem?_eq_getElem (by omega)
  have hl : Ls[k]? = some (Ls[k]'hk) := List.getElem?_eq_getElem hk
  have h7 := h6 k _ _ hu hl
  obtain ⟨B, m, cm, he, _, _, _, _⟩ := h7.op
  have h8 := hc k _ hu
  rw [he] at h7 h8
  exact ⟨b, off, B, m, cm, Ls[k], rfl, hb, List.drop_eq_getElem_cons hk, by simpa using h8, h7⟩
theorem AsAt.below {w w' : World} {A : Option Addr} {Ls : List (List PPt)} {k : Nat} (h : AsAt w A Ls k) (hb : Below w.heap.size w w') : AsAt w' A Ls k := by
  obtain ⟨b, off, B, m, cm, l, rfl, h1, h2, h3, h4⟩ := h
  exact ⟨b, off, B, m, cm, l, rfl, by have := hb.size; omega, h2, (hb.cell h1).trans h3, h4.out.below hb⟩
end Go.Proofs.YtiopgbbggeimaaaGreat
