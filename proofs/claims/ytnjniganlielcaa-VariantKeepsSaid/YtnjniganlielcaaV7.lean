/-
  Entries read whole: lists of ints, lists of these, senses, pairs.
-/
import Derived.Test.YtnjniganlielcaaV6
namespace Go.Proofs.Ytnjniganlielcaa
open Go.ChangeShapes Go.WideShapes Go.ChangeAt Go.RowKit
inductive All2 {α β : Type} (R : α → β → Prop) : List α → List β → Prop
  | nil : All2 R [] []
  | cons {a b l m} : R a b → All2 R l m → All2 R (a :: l) (b :: m)
section
variable {α β : Type} {R S : α → β → Prop} {l : List α} {m : List β}
theorem All2.length (h : All2 R l m) : l.length = m.length := by induction h with | nil => rfl | cons _ _ ih => simp [ih]
theorem All2.mono (h : All2 R l m) (k : ∀ a b, a ∈ l → b ∈ m → R a b → S a b) : All2 S l m := by
  induction h with
  | nil => exact .nil
  | cons h1 _ ih => exact .cons (k _ _ (by simp) (by simp) h1) (ih fun a b ha hb => k a b (by simp [ha]) (by simp [hb]))
theorem All2.append {l' : List α} {m' : List β} (h : All2 R l m) (k : All2 R l' m') : All2 R (l ++ l') (m ++ m') := by induction h with | nil => exact k | cons h1 _ ih => exact .cons h1 ih
theorem All2.get (h : All2 R l m) {i : Nat} {a : α} (hi : l[i]? = some a) : ∃ b, m[i]? = some b ∧ R a b := by
  induction h generalizing i with
  | nil => simp at hi
  | cons h1 _ ih =>
    cases i with
    | zero => simp at hi; subst hi; exact ⟨_, rfl, h1⟩
    | succ i => simpa using ih (by simpa using hi)
theorem All2.mem (h : All2 R l m) {a : α} (ha : a ∈ l) : ∃ b, b ∈ m ∧ R a b := by
  obtain ⟨i, hi⟩ := List.mem_iff_getElem?.1 ha
  obtain ⟨b, hb, hr⟩ := h.get hi
  exact ⟨b, List.mem_of_getElem? hb, hr⟩
theorem All2.drop (h : All2 R l m) (k : Nat) : All2 R (l.drop k) (m.drop k) := by
  induction h generalizing k with
  | nil => simp; exact .nil
  | cons h1 h2 ih => cases k with
    | zero => exact .cons h1 h2
    | succ k => simpa using ih k
theorem All2.find (h : All2 R l m) {f : α → Bool} {g : β → Bool} (hfg : ∀ a b, R a b → f a = g b) : (l.find? f = none ∧ m.find? g = none) ∨ ∃ a b, l.find? f = some a ∧ m.find? g = some b ∧ R a b := by
  induction h with
  | nil => exact .inl ⟨rfl, rfl⟩
  | @cons a b l m h1 _ ih =>
    have he := hfg _ _ h1
    cases hf : f a
    · rw [List.find?_cons_of_neg (by simp [hf]), List.find?_cons_of_neg (by simp [← he, hf])]
      exact ih
    · rw [List.find?_cons_of_pos (by simp [hf]), List.find?_cons_of_pos (by simp [← he, hf])]
      exact .inr ⟨_, _, rfl, rfl, h1⟩
theorem All2.map_eq {γ : Type} {f : α → γ} {g : β → γ} (h : All2 R l m) (hfg : ∀ a b, R a b → f a = g b) : l.map f = m.map g := by
  induction h with
  | nil => rfl
  | cons h1 _ ih => rw [List.map_cons, List.map_cons, hfg _ _ h1, ih]
theorem All2.maps {γ δ : Type} {T : γ → δ → Prop} (f : α → γ) (g : β → δ) (h : All2 R l m) (k : ∀ a b, R a b → T (f a) (g b)) : All2 T (l.map f) (m.map g) := by
  induction h with
  | nil => exact .nil
  | cons h1 _ ih => exact .cons (k _ _ h1) ih
end
/-! lists of lists of ints -/
def RdL (w : World) (v : Value) (Ls : List (List Int)) : Prop := ∃ us : List Value, Rd w 1 v Ls.length us ∧ us.length = Ls.length ∧ ∀ (i : Nat) (u : Value) (l : List Int), us[i]? = some u → Ls[i]? = some l → RdI w u l
theorem RdL.below {w w' : World} {v : Value} {Ls : List (List Int)} (h : RdL w v Ls) (hb : Below w.heap.size w w') : RdL w' v Ls := by
  obtain ⟨us, h1, h2, h3⟩ := h
  exact ⟨us, Rd.below h1 hb, h2, fun i u l hu hl => (h3 i u l hu hl).below hb⟩
def LAt (w : World) (A : Option Addr) (Ls : List (List Int)) (k : Nat) : Prop :=
  ∃ b off B m cm l, A = some ⟨b, off, none⟩ ∧ b < w.heap.size ∧ Hid (Ls.drop k = l :: Ls.drop (k + 1)) ∧ w.cell? ⟨b, off + k, none⟩ = some (.slice B m cm) ∧ Hid (RdI w (.slice B m cm) l)
theorem RdL.op {w : World} {v : Value} {Ls : List (List Int)} (h : RdL w v Ls) : ∃ (A : Option Addr) (n c : Nat), v = .slice A n c ∧ n ≤ c ∧ c ≤ 9223372036854775807 ∧ Hid (Ls.length = n) ∧
    Hid (∀ k, k < n → LAt w A Ls k) := by
  obtain ⟨us, ⟨A, c, rfl, h1, h2, h3, h4⟩, h5, h6⟩ := h
  refine ⟨A, _, c, rfl, h1, h2, rfl, fun k hk => ?_⟩
  obtain ⟨b, off, rfl, hb, hc⟩ := h4 (by omega)
  have hu : us[k]? = some (us[k]'(by omega)) := List.getElem?_eq_getElem (by omega)
  have hl : Ls[k]? = some (Ls[k]'hk) := List.getElem?_eq_getElem hk
  have h7 := h6 k _ _ hu hl
  obtain ⟨B, m, cm, he, _, _, _, _⟩ := h7.op
  have h8 := hc k _ hu
  rw [he] at h7 h8
  exact ⟨b, off, B, m, cm, Ls[k], rfl, hb, List.drop_eq_getElem_cons hk, h8, h7⟩
theorem LAt.below {w w' : World} {A : Option Addr} {Ls : List (List Int)} {k : Nat} (h : LAt w A Ls k) (hb : Below w.heap.size w w') : LAt w' A Ls k := by
  obtain ⟨b, off, B, m, cm, l, rfl, h1, h2, h3, h4⟩ := h
  exact ⟨b, off, B, m, cm, l, rfl, by have := hb.size; omega, h2, (hb.cell h1).trans h3, h4.out.below hb⟩
/-! senses; pairs of ints -/
structure PSe where
  g : ByteArray
  d : ByteArray
  deriving DecidableEq
structure P2 where
  x : Int
  y : Int
  deriving DecidableEq
def seCells (p : PSe) : List Value := [.string p.g, .string p.d]
def p2Cells (p : P2) : List Value := [.int .i64 p.x, .int .i64 p.y]
theorem flat2_length {α : Type} (f : α → List Value) (hf : ∀ a, (f a).length = 2) (l : List α) : (l.flatMap f).length = l.length * 2 := by
  induction l with
  | nil => rfl
  | cons a l ih => rw [List.flatMap_cons, List.length_append, ih, hf, List.length_cons]; omega
theorem flat2_at {α : Type} (f : α → List Value) (hf : ∀ a, (f a).length = 2) (l : List α) (k : Nat) (h : k < l.length) (j : Nat) (hj : j < 2) : (l.flatMap f)[k * 2 + j]? = (f l[k])[j]? := by
  induction l generalizing k with
  | nil => simp at h
  | cons a l ih =>
    have ha := hf a
    cases k with
    | zero => rw [List.flatMap_cons, List.getElem?_append_left (by omega)]; simp
    | succ k =>
      rw [List.flatMap_cons, List.getElem?_append_right (by omega), show (k + 1) * 2 + j - (f a).length = k * 2 + j by omega]
      exact ih k (by simpa using h)
def RdSe (w : World) (v : Value) (l : List PSe) : Prop := Rd w 2 v l.length (l.flatMap seCells)
def RdP2 (w : World) (v : Value) (l : List P2) : Prop := Rd w 2 v l.length (l.flatMap p2Cells)
theorem RdSe.below {w w' : World} {v : Value} {l : List PSe} (h : RdSe w v l) (hb : Below w.heap.size w w') : RdSe w' v l := Rd.below h hb
theorem RdP2.below {w w' : World} {v : Value} {l : List P2} (h : RdP2 w v l) (hb : Below w.heap.size w w') : RdP2 w' v l := Rd.below h hb
def SeAt (w : World) (A : Option Addr) (l : List PSe) (k : Nat) : Prop :=
  ∃ b off p, A = some ⟨b, off, none⟩ ∧ b < w.heap.size ∧ Hid (l.drop k = p :: l.drop (k + 1)) ∧ w.cell? ⟨b, off + k * 2, none⟩ = some (.string p.g) ∧ w.cell? ⟨b, off + k * 2 + 1, none⟩ = some (.string p.d)
def P2At (w : World) (A : Option Addr) (l : List P2) (k : Nat) : Prop :=
  ∃ b off p, A = some ⟨b, off, none⟩ ∧ b < w.heap.size ∧ Hid (l.drop k = p :: l.drop (k + 1)) ∧ w.cell? ⟨b, off + k * 2, none⟩ = some (.int .i64 p.x) ∧ w.cell? ⟨b, off + k * 2 + 1, none⟩ = some (.int .i64 p.y)
theorem RdSe.op {w : World} {v : Value} {l : List PSe} (h : RdSe w v l) : ∃ (A : Option Addr) (n c : Nat), v = .slice A n c ∧ n ≤ c ∧ c ≤ 9223372036854775807 ∧ Hid (l.length = n) ∧ Hid (∀ k, k < n → SeAt w A l k) := by
  obtain ⟨A, c, rfl, h1, h2, h3, h4⟩ := h
  refine ⟨A, _, c, rfl, h1, h2, rfl, fun k hk => ?_⟩
  obtain ⟨b, off, rfl, hb, hc⟩ := h4 (by omega)
  exact ⟨b, off, l[k], rfl, hb, List.drop_eq_getElem_cons hk, hc (k * 2 + 0) _ (flat2_at seCells (fun _ => rfl) l k hk 0 (by omega)), hc (k * 2 + 1) _ (flat2_at seCells (fun _ => rfl) l k hk 1 (by omega))⟩
theorem RdP2.op {w : World} {v : Value} {l : List P2} (h : RdP2 w v l) : ∃ (A : Option Addr) (n c : Nat), v = .slice A n c ∧ n ≤ c ∧ c ≤ 9223372036854775807 ∧ Hid (l.length = n) ∧ Hid (∀ k, k < n → P2At w A l k) := by
  obtain ⟨A, c, rfl, h1, h2, h3, h4⟩ := h
  refine ⟨A, _, c, rfl, h1, h2, rfl, fun k hk => ?_⟩
  obtain ⟨b, off, rfl, hb, hc⟩ := h4 (by omega)
  exact ⟨b, off, l[k], rfl, hb, List.drop_eq_getElem_cons hk, hc (k * 2 + 0) _ (flat2_at p2Cells (fun _ => rfl) l k hk 0 (by omega)), hc (k * 2 + 1) _ (flat2_at p2Cells (fun _ => rfl) l k hk 1 (by omega))⟩
theorem SeAt.below {w w' : World} {A : Option Addr} {l : List PSe} {k : Nat} (h : SeAt w A l k) (hb : Below w.heap.size w w') : SeAt w' A l k := by
  obtain ⟨b, off, p, rfl, h1, h2, h3, h4⟩ := h
  exact ⟨b, off, p, rfl, by have := hb.size; omega, h2, (hb.cell h1).trans h3, (hb.cell h1).trans h4⟩
theorem P2At.below {w w' : World} {A : Option Addr} {l : List P2} {k : Nat} (h : P2At w A l k) (hb : Below w.heap.size w w') : P2At w' A l k := by
  obtain ⟨b, off, p, rfl, h1, h2, h3, h4⟩ := h
  exact ⟨b, off, p, rfl, by have := hb.size; omega, h2, (hb.cell h1).trans h3, (hb.cell h1).trans h4⟩
/-! an entry, whole -/
structure PE where
  id : Int
  form : List Int
  cls : Int
  alts : List (List Int)
  main : Int
  senses : List PSe
  links : List P2
  refs : List P2
  deriving DecidableEq
structure DpE (w : World) (e : EV) (p : PE) : Prop where
  id : e.id = p.id
  cls : e.cls = p.cls
  main : e.main = p.main
  f : RdI w (.slice e.f.A e.f.n e.f.c) p.form
  a : RdL w (.slice e.a.A e.a.n e.a.c) p.alts
  s : RdSe w (.slice e.s.A e.s.n e.s.c) p.senses
  l : RdP2 w (.slice e.l.A e.l.n e.l.c) p.links
  r : RdP2 w (.slice e.r.A e.r.n e.r.c) p.refs
theorem rd_len {w : World} {size n m : Nat} {A : Option Addr} {c : Nat} {xs : List Value} (h : Rd w size (.slice A n c) m xs) : n = m := by
  obtain ⟨A', c', he, _⟩ := h
  cases he
  rfl
section
variable {w w' : World} {e : EV} {p : PE}
theorem DpE.below (h : DpE w e p) (hb : Below w.heap.size w w') : DpE w' e p := ⟨h.id, h.cls, h.main, h.f.below hb, h.a.below hb, h.s.below hb, h.l.below hb, h.r.below hb⟩
theorem DpE.nf (h : DpE w e p) : e.f.n = p.form.length := rd_len h.f
theorem DpE.na (h : DpE w e p) : e.a.n = p.alts.length := by obtain ⟨_, h1, _⟩ := h.a; exact rd_len h1
theorem DpE.ns (h : DpE w e p) : e.s.n = p.senses.length := rd_len h.s
theorem DpE.nl (h : DpE w e p) : e.l.n = p.links.length := rd_len h.l
theorem DpE.nr (h : DpE w e p) : e.r.n = p.refs.length := rd_len h.r
end
def PE.key (p : PE) : EK := ⟨p.id, p.main, p.senses.length⟩
def pk (P : List PE) : List EK := P.map PE.key
theorem DpE.key {w : World} {e : EV} {p : PE} (h : DpE w e p) : e.key = p.key := by rw [EV.key, PE.key, h.id, h.main, h.ns]
theorem keys_pk {w : World} {L : List EV} {P : List PE} (h : All2 (DpE w) L P) : keys L = pk P := h.map_eq fun _ _ k => k.key
/-- a slice of entries, read whole -/
def RdP (w : World) (v : Value) (P : List PE) : Prop := ∃ L, RdV w v L ∧ All2 (DpE w) L P
theorem RdP.below {w w' : World} {v : Value} {P : List PE} (h : RdP w v P) (hb : Below w.heap.size w w') : RdP w' v P := by
  obtain ⟨L, h1, h2⟩ := h
  exact ⟨L, h1.below hb, h2.mono fun _ _ _ _ k => k.below hb⟩
/-! the ways and senses, on whole entries -/
def getP (P : List PE) (id : Int) : Option PE := P.find? fun e => e.id == id
def wayP (P : List PE) : Nat → Int → List PE
  | 0, _ => []
  | k + 1, id => match getP P id with
    | none => []
    | some e => e :: if e.main = 0 then [] else wayP P k e.main
theorem get_all {w : World} {L : List EV} {P : List PE} (h : All2 (DpE w) L P) (id : Int) : (getE L id = none ∧ getP P id = none) ∨ ∃ e p, getE L id = some e ∧ getP P id = some p ∧ DpE w e p :=
  h.find fun _ _ k => by rw [k.id]
theorem way_all {w : World} {L : List EV} {P : List PE} (h : All2 (DpE w) L P) : ∀ (k : Nat) (id : Int), All2 (DpE w) (wayL L k id) (wayP P k id)
  | 0, _ => .nil
  | k + 1, id => by
    rw [wayL, wayP]
    rcases get_all h id with ⟨h1, h2⟩ | ⟨e, p, h1, h2, h3⟩
    · rw [h1, h2]; exact .nil
    · rw [h1, h2]
      refine .cons h3 ?_
      rw [← h3.main]
      split
      · exact .nil
      · exact way_all h k _
def sensesP (P : List PE) (id : Int) : List PSe := match (wayP P (P.length + 1) id).find? fun e => decide (0 < e.senses.length) with
  | none => []
  | some p => p.senses
def setE (L : List EV) (id main : Int) : List EV := L.map fun e => if e.id = id then { e with main := main } else e
def setP (P : List PE) (id main : Int) : List PE := P.map fun e => if e.id = id then { e with main := main } else e
theorem set_all {w : World} {L : List EV} {P : List PE} (h : All2 (DpE w) L P) (id m : Int) : All2 (DpE w) (setE L id m) (setP P id m) := by
  refine h.maps _ _ fun a b k => ?_
  rw [k.id]
  by_cases hb : b.id = id
  · rw [if_pos hb, if_pos hb]
    exact ⟨rfl, k.cls, rfl, k.f, k.a, k.s, k.l, k.r⟩
  · rw [if_neg hb, if_neg hb]
    exact k
end Go.Proofs.Ytnjniganlielcaa
