/-
  The maps that are keyed by a state, and by a place; rows of states and of places.
-/
import Derived.Test.YtdijlakeonionaaQP2
import Derived.Test.YtdijlakeonionaaQP3
import Derived.Test.YtdijlakeonionaaQ11
namespace Go.Proofs.Ytdijlakeonionaa
open Go.ChangeShapes Go.WideShapes Go.ChangeAt Go.RowKit
open Go.Maps (Keyed)
set_option maxRecDepth 100000
theorem rowSt : (85 : TypeId) < Try.prog.types.size := of_decide_eq_true (by kernel_rfl)
theorem wideSt : (match Try.prog.underlying 85 with | some (.array _ _) | some (.struct _) => true | _ => false) = true := by rw [Try.underlying85]
theorem lawSt : Keyed Try.prog 85 := Keyed.of_law (deep_law_laid laidOut (m := 3) (by omega) rowSt (by kernel_rfl) wideSt)
theorem rowPl : (87 : TypeId) < Try.prog.types.size := of_decide_eq_true (by kernel_rfl)
theorem widePl : (match Try.prog.underlying 87 with | some (.array _ _) | some (.struct _) => true | _ => false) = true := by rw [Try.underlying87]
theorem lawPl : Keyed Try.prog 87 := Keyed.of_law (deep_law_laid laidOut (m := 4) (by omega) rowPl (by kernel_rfl) widePl)
theorem lit_one {P : Program} {t : TypeId} {q : IntKind} (hu : P.underlying t = some (.int q)) (d : Nat) {n : Int} (h : (Lit.int q n).wf = true) : P.keyLits (d + 1) t [.int q n] = some [.int q n] := by
  simp [Program.keyLits, hu, h]
theorem cellsOf83 : Try.prog.cellsOf 83 = 3 := by kernel_rfl
theorem cellsOf8 : Try.prog.cellsOf 82 = 1 := by kernel_rfl
theorem cellsOf5 : Try.prog.cellsOf 5 = 1 := by kernel_rfl
theorem cellsOf3 : Try.prog.cellsOf 3 = 1 := by kernel_rfl
theorem cellsOfSt : Try.prog.cellsOf 85 = 6 := by kernel_rfl
theorem cellsOfPl : Try.prog.cellsOf 87 = 8 := by kernel_rfl
theorem wf_i8 {n : Int} (h0 : -1 ≤ n) (h1 : n ≤ 1) : (Lit.int .i8 n).wf = true := by
  rcases (show n = -1 ∨ n = 0 ∨ n = 1 by omega) with rfl | rfl | rfl <;> decide
theorem wf_u8 {n : Int} (h0 : 0 ≤ n) (h1 : n ≤ 3) : (Lit.int .u8 n).wf = true := by
  rcases (show n = 0 ∨ n = 1 ∨ n = 2 ∨ n = 3 by omega) with rfl | rfl | rfl | rfl <;> decide
theorem lit_arr (d : Nat) {a b c : Int} (ha : (Lit.int .i8 a).wf = true) (hb : (Lit.int .i8 b).wf = true) (hc : (Lit.int .i8 c).wf = true) :
    Try.prog.keyLits (d + 2) 83 [.int .i8 a, .int .i8 b, .int .i8 c] = some [.int .i8 a, .int .i8 b, .int .i8 c] := by
  have l := fun n h => lit_one (P := Try.prog) Try.underlying82 d (n := n) h
  simp [Program.keyLits, Try.underlying83, cellsOf83, cellsOf8, List.range, List.range.loop, Try.underlying82, ha, hb, hc]
theorem lit_st (d : Nat) {s : St} (h : StOk s) : Try.prog.keyLits (d + 3) 85 (stC s) = some [.int .i64 s.cnt, .int .u8 s.near, .int .u8 s.far, .int .i8 s.o0, .int .i8 s.o1, .int .i8 s.o2] := by
  obtain ⟨c, x, y, o0, o1, o2⟩ := s
  obtain ⟨c0, c1, n0, n1, f0, f1, a0, a1, b0, b1, d0, d1⟩ := h
  simp only at c0 c1 n0 n1 f0 f1 a0 a1 b0 b1 d0 d1
  have l3 := lit_one (P := Try.prog) Try.underlying3 (d + 1) (n := c) (wf_in (by unfold InI; omega))
  have l5 := fun n h => lit_one (P := Try.prog) Try.underlying5 (d + 1) (n := n) h
  have la := lit_arr d (wf_i8 a0 a1) (wf_i8 b0 b1) (wf_i8 d0 d1)
  unfold Program.keyLits
  simp only [Try.underlying85, stC, cellsOfSt]
  simp [cellsOf83, cellsOf5, cellsOf3, l3, l5 _ (wf_u8 n0 n1), l5 _ (wf_u8 f0 (show y ≤ 3 by omega)), la]
theorem key_st (s : St) (h : StOk s) : ∃ l, keyOf Try.prog 85 (stV s) = some l := by
  have hk : Try.prog.keyType 85 = true := by kernel_rfl
  have hf : (stV s).formed Try.prog 85 = true := by simp [Value.formed, Try.underlying85, cellsOfSt, stV, stA]
  obtain ⟨m, hm⟩ : ∃ m, Try.prog.types.size = m + 2 := ⟨Try.prog.types.size - 2, by have : 3 ≤ Try.prog.types.size := of_decide_eq_true (by kernel_rfl); omega⟩
  refine ⟨.string (keyBytes [.int .i64 s.cnt, .int .u8 s.near, .int .u8 s.far, .int .i8 s.o0, .int .i8 s.o1, .int .i8 s.o2]), ?_⟩
  unfold keyOf
  rw [Try.underlying85]
  dsimp only
  rw [hk, hf, hm, show (stV s).cells.toList = stC s from rfl, lit_st m h]
  rfl
theorem stV_inj (c d : St) (h : stV c = stV d) : c = d := by
  cases c; cases d
  simp [stV, stA] at h
  simp [h]
def NS : MS Try.prog St Int := { mt := 91, kt := 85, et := 3, ht := Try.underlying91, K := lawSt, mkK := stV, wf := StOk, key := key_st, inj := stV_inj, mkV := Value.int .i64, lit := Lit.int .i64, wfV := InI, elem := fun _ h => plainElem_int Try.underlying3 (wf_in h), inv := elem_int_inv, zero := 0, zrun := zeroI, zwf := inI0 }
/-- a place, as a value -/
def plA (p : Pl) : Array Value := #[.int .i64 p.s.cnt, .int .u8 p.s.near, .int .u8 p.s.far, .int .i8 p.s.o0, .int .i8 p.s.o1, .int .i8 p.s.o2, .int .i64 (p.at_ : Int), .int .i64 (p.left : Int)]
def plC (p : Pl) : List Value := [.int .i64 p.s.cnt, .int .u8 p.s.near, .int .u8 p.s.far, .int .i8 p.s.o0, .int .i8 p.s.o1, .int .i8 p.s.o2, .int .i64 (p.at_ : Int), .int .i64 (p.left : Int)]
def plV (p : Pl) : Value := .agg (plA p)
structure PlOk (p : Pl) : Prop where
  s : StOk p.s
  a : p.at_ ≤ 24
  l : p.left ≤ 24
theorem key_pl (p : Pl) (h : PlOk p) : ∃ l, keyOf Try.prog 87 (plV p) = some l := by
  have hk : Try.prog.keyType 87 = true := by kernel_rfl
  have hf : (plV p).formed Try.prog 87 = true := by simp [Value.formed, Try.underlying87, cellsOfPl, plV, plA]
  obtain ⟨m, hm⟩ : ∃ m, Try.prog.types.size = m + 3 := ⟨Try.prog.types.size - 3, by have : 3 ≤ Try.prog.types.size := of_decide_eq_true (by kernel_rfl); omega⟩
  have h3 := lit_st m h.s
  have l3 := fun n h => lit_one (P := Try.prog) Try.underlying3 (m + 2) (n := n) h
  have ha := l3 (p.at_ : Int) (wf_in (by have := h.a; unfold InI; omega))
  have hl := l3 (p.left : Int) (wf_in (by have := h.l; unfold InI; omega))
  have : Try.prog.keyLits (m + 3 + 1) 87 (plV p).cells.toList = some [.int .i64 p.s.cnt, .int .u8 p.s.near, .int .u8 p.s.far, .int .i8 p.s.o0, .int .i8 p.s.o1, .int .i8 p.s.o2, .int .i64 (p.at_ : Int), .int .i64 (p.left : Int)] := by
    rw [show (plV p).cells.toList = plC p from rfl]
    simp only [stC] at h3
    unfold Program.keyLits
    simp only [Try.underlying87, plC, cellsOfPl]
    simp [cellsOfSt, cellsOf3, h3, ha, hl]
  refine ⟨.string (keyBytes [.int .i64 p.s.cnt, .int .u8 p.s.near, .int .u8 p.s.far, .int .i8 p.s.o0, .int .i8 p.s.o1, .int .i8 p.s.o2, .int .i64 (p.at_ : Int), .int .i64 (p.left : Int)]), ?_⟩
  unfold keyOf
  rw [Try.underlying87]
  dsimp only
  rw [hk, hf, hm, this]
  rfl
theorem plV_inj (c d : Pl) (h : plV c = plV d) : c = d := by
  obtain ⟨⟨_, _, _, _, _, _⟩, _, _⟩ := c
  obtain ⟨⟨_, _, _, _, _, _⟩, _, _⟩ := d
  simp only [plV, plA, Value.agg.injEq, Array.mk.injEq, List.cons.injEq, Value.int.injEq, true_and, and_true] at h
  obtain ⟨rfl, rfl, rfl, rfl, rfl, rfl, h7, h8⟩ := h
  rw [Int.natCast_inj.1 h7, Int.natCast_inj.1 h8]
theorem elem_bool_inv (v : Value) (x : Bool) (z : DataW Unit × List MemPlace) (h : plainElem (H := Unit) Try.prog 4 v = some z) (hz : z.1 = .lit (.bool x)) : v = .bool x := by
  unfold plainElem at h
  rw [Try.underlying4] at h
  cases v <;> simp at h
  subst h
  simp at hz
  rw [hz]
theorem zeroB (w : World) : (zeroValue 4).run Try.prog w = .ok (.bool false) w := by kernel_rfl
def KP : MS Try.prog Pl Bool := { mt := 78, kt := 87, et := 4, ht := Try.underlying78, K := lawPl, mkK := plV, wf := PlOk, key := key_pl, inj := plV_inj, mkV := Value.bool, lit := Lit.bool, wfV := fun _ => True, elem := fun x _ => plainElem_bool Try.underlying4 x, inv := elem_bool_inv, zero := false, zrun := zeroB, zwf := trivial }
def allPl : List Pl := allSt.flatMap fun s => (List.range 25).flatMap fun a => (List.range 25).map fun l => ⟨s, a, l⟩
theorem mem_allPl {p : Pl} (h : PlOk p) : p ∈ allPl := by
  obtain ⟨s, a, l⟩ := p
  exact List.mem_flatMap.2 ⟨s, mem_allSt h.s, List.mem_flatMap.2 ⟨a, List.mem_range.2 (by have := h.a; simp only at this; omega), List.mem_map.2 ⟨l, List.mem_range.2 (by have := h.l; simp only at this; omega), rfl⟩⟩⟩
theorem allPl_len : allPl.length ≤ 540000 := by
  have h1 := flatMap_len (l := allSt) (f := fun s => (List.range 25).flatMap fun a => (List.range 25).map fun l => (⟨s, a, l⟩ : Pl)) (m := 625) fun s _ => by
    have := flatMap_len (l := List.range 25) (f := fun a => (List.range 25).map fun l => (⟨s, a, l⟩ : Pl)) (m := 25) fun a _ => by simp
    simpa using this
  rw [allSt_len] at h1
  exact h1
theorem infoPl : (Try.prog.info? 87).map (fun i => (i.zero, i.size, i.bytes)) = some (some (.agg #[.int .i64 0, .int .u8 0, .int .u8 0, .int .i8 0, .int .i8 0, .int .i8 0, .int .i64 0, .int .i64 0]), 8, 32) := by kernel_rfl
theorem infoSt : (Try.prog.info? 85).map (fun i => (i.zero, i.size, i.bytes)) = some (some (.agg #[.int .i64 0, .int .u8 0, .int .u8 0, .int .i8 0, .int .i8 0, .int .i8 0]), 6, 16) := by kernel_rfl
theorem plC_len (p : Pl) : (plC p).length = 8 := rfl
theorem plC_one (p : Pl) : ∀ u ∈ plC p, u.oneCell' = true := by
  intro u hu
  simp only [plC, List.mem_cons, List.not_mem_nil, or_false] at hu
  rcases hu with rfl | rfl | rfl | rfl | rfl | rfl | rfl | rfl <;> rfl
theorem stC_len (s : St) : (stC s).length = 6 := rfl
theorem stC_one (s : St) : ∀ u ∈ stC s, u.oneCell' = true := by
  intro u hu
  simp only [stC, List.mem_cons, List.not_mem_nil, or_false] at hu
  rcases hu with rfl | rfl | rfl | rfl | rfl | rfl <;> rfl
def OwnSt (w : World) (base : Nat) (v : Value) (l : List St) : Prop := w.ownsRow base 85 6 v l.length (l.flatMap stC)
def RdSt (w : World) (v : Value) (l : List St) : Prop := Rd w 6 v l.length (l.flatMap stC)
def OwnPl (w : World) (base : Nat) (v : Value) (l : List Pl) : Prop := w.ownsRow base 87 8 v l.length (l.flatMap plC)
def RdPl (w : World) (v : Value) (l : List Pl) : Prop := Rd w 8 v l.length (l.flatMap plC)
theorem OwnSt.rd {w : World} {base : Nat} {v : Value} {l : List St} (h : OwnSt w base v l) : RdSt w v l := Rd.own h
theorem OwnPl.rd {w : World} {base : Nat} {v : Value} {l : List Pl} (h : OwnPl w base v l) : RdPl w v l := Rd.own h
theorem RdPl.below {w w' : World} {v : Value} {l : List Pl} (h : RdPl w v l) (hb : Below w.heap.size w w') : RdPl w' v l := Rd.below h hb
theorem RdPl.nil (w : World) : RdPl w (.slice none 0 0) [] := ⟨none, 0, rfl, by simp, by decide, rfl, fun h => absurd h (Nat.lt_irrefl 0)⟩
def StAt6 (w : World) (A : Option Addr) (l : List St) (k : Nat) : Prop :=
  ∃ b off s, A = some ⟨b, off, none⟩ ∧ b < w.heap.size ∧ Hid (l.drop k = s :: l.drop (k + 1)) ∧ (w.cell? ⟨b, off + k * 6, none⟩ = some (.int .i64 s.cnt) ∧ w.cell? ⟨b, off + k * 6 + 1, none⟩ = some (.int .u8 s.near) ∧ w.cell? ⟨b, off + k * 6 + 2, none⟩ = some (.int .u8 s.far) ∧
    w.cell? ⟨b, off + k * 6 + 3, none⟩ = some (.int .i8 s.o0) ∧ w.cell? ⟨b, off + k * 6 + 4, none⟩ = some (.int .i8 s.o1) ∧ w.cell? ⟨b, off + k * 6 + 5, none⟩ = some (.int .i8 s.o2))
theorem RdSt.op {w : World} {v : Value} {l : List St} (h : RdSt w v l) : ∃ (A : Option Addr) (n c : Nat), v = .slice A n c ∧ n ≤ c ∧ c ≤ 9223372036854775807 ∧ Hid (l.length = n) ∧ Hid (∀ k, k < n → StAt6 w A l k) := by
  obtain ⟨A, c, rfl, h1, h2, h3, h4⟩ := h
  refine ⟨A, _, c, rfl, h1, h2, rfl, fun k hk => ?_⟩
  obtain ⟨b, off, rfl, hb, hc⟩ := h4 (by omega)
  have hj : ∀ j u, j < 6 → (stC l[k])[j]? = some u → w.cell? ⟨b, off + k * 6 + j, none⟩ = some u := fun j u hj hu => by
    rw [Nat.add_assoc]
    exact hc (k * 6 + j) u ((flatN_at stC 6 stC_len l k hk j hj).trans hu)
  exact ⟨b, off, l[k], rfl, hb, List.drop_eq_getElem_cons hk, hj 0 _ (by omega) rfl, hj 1 _ (by omega) rfl, hj 2 _ (by omega) rfl, hj 3 _ (by omega) rfl, hj 4 _ (by omega) rfl, hj 5 _ (by omega) rfl⟩
def PlAt (w : World) (A : Option Addr) (l : List Pl) (k : Nat) : Prop :=
  ∃ b off p, A = some ⟨b, off, none⟩ ∧ b < w.heap.size ∧ Hid (l.drop k = p :: l.drop (k + 1)) ∧ (w.cell? ⟨b, off + k * 8, none⟩ = some (.int .i64 p.s.cnt) ∧ w.cell? ⟨b, off + k * 8 + 1, none⟩ = some (.int .u8 p.s.near) ∧ w.cell? ⟨b, off + k * 8 + 2, none⟩ = some (.int .u8 p.s.far) ∧
    w.cell? ⟨b, off + k * 8 + 3, none⟩ = some (.int .i8 p.s.o0) ∧ w.cell? ⟨b, off + k * 8 + 4, none⟩ = some (.int .i8 p.s.o1) ∧ w.cell? ⟨b, off + k * 8 + 5, none⟩ = some (.int .i8 p.s.o2) ∧ w.cell? ⟨b, off + k * 8 + 6, none⟩ = some (.int .i64 (p.at_ : Int)) ∧ w.cell? ⟨b, off + k * 8 + 7, none⟩ = some (.int .i64 (p.left : Int)))
theorem RdPl.op {w : World} {v : Value} {l : List Pl} (h : RdPl w v l) : ∃ (A : Option Addr) (n c : Nat), v = .slice A n c ∧ n ≤ c ∧ c ≤ 9223372036854775807 ∧ Hid (l.length = n) ∧ Hid (∀ k, k < n → PlAt w A l k) := by
  obtain ⟨A, c, rfl, h1, h2, h3, h4⟩ := h
  refine ⟨A, _, c, rfl, h1, h2, rfl, fun k hk => ?_⟩
  obtain ⟨b, off, rfl, hb, hc⟩ := h4 (by omega)
  have hj : ∀ j u, j < 8 → (plC l[k])[j]? = some u → w.cell? ⟨b, off + k * 8 + j, none⟩ = some u := fun j u hj hu => by
    rw [Nat.add_assoc]
    exact hc (k * 8 + j) u ((flatN_at plC 8 plC_len l k hk j hj).trans hu)
  exact ⟨b, off, l[k], rfl, hb, List.drop_eq_getElem_cons hk, hj 0 _ (by omega) rfl, hj 1 _ (by omega) rfl, hj 2 _ (by omega) rfl, hj 3 _ (by omega) rfl, hj 4 _ (by omega) rfl, hj 5 _ (by omega) rfl, hj 6 _ (by omega) rfl, hj 7 _ (by omega) rfl⟩
/-- what a row of another type keeps while a row grows -/
theorem own_apart {w w' : World} {base b2 size size2 n n2 : Nat} {e e2 : TypeId} {u v : Value} {xs ys : List Value} (ho : w.ownsRow base e size u n xs) (hv : w.ownsRow b2 e2 size2 v n2 ys) (he : e ≠ e2) (hg : w.grownBy w' v.ownBlock) : w'.ownsRow base e size u n xs := by
  refine World.ownsRow.kept ho hg ?_
  rcases ho.2 with ⟨rfl, _⟩ | ⟨g, cap, cur, rfl, _, hh, _⟩
  · exact .inl rfl
  · refine .inr fun e' => ?_
    obtain ⟨cs, hcs⟩ := row_type hv e'.symm
    rw [hh] at hcs
    cases hcs
    exact he rfl
theorem blk_apart {w w' : World} {k b2 size2 n2 : Nat} {cs : Array Value} {t e2 : TypeId} {m : Nat × Nat} {v : Value} {ys : List Value} (hk : w.heap[k]? = some (.cells cs t m)) (hv : w.ownsRow b2 e2 size2 v n2 ys) (ht : t ≠ e2) (hg : w.grownBy w' v.ownBlock) : w'.heap[k]? = some (.cells cs t m) := by
  refine (hg.block k (Array.getElem?_eq_some_iff.1 hk).1 fun e => ?_).trans hk
  obtain ⟨cs', hcs⟩ := row_type hv e.symm
  rw [hk] at hcs
  cases hcs
  exact ht rfl
theorem map_apart {P : Program} {α β : Type} {S : MS P α β} {w w' : World} {b b2 size2 n2 : Nat} {L : List α} {f : α → Option β} {e2 : TypeId} {v : Value} {ys : List Value} (hm : OwnM S w b L f) (hv : w.ownsRow b2 e2 size2 v n2 ys) (hg : w.grownBy w' v.ownBlock) : OwnM S w' b L f :=
  hm.kept hg fun e => by
    obtain ⟨cs, hcs⟩ := row_type hv e
    exact hm.ne hcs rfl
theorem own_of_map {P : Program} {α β : Type} {S : MS P α β} {w w' : World} {b base size n : Nat} {L : List α} {f : α → Option β} {e : TypeId} {u : Value} {xs : List Value} (ho : w.ownsRow base e size u n xs) (hm : OwnM S w b L f) (hg : w.grownBy w' (some b)) : w'.ownsRow base e size u n xs :=
  own_keep ho fun k cs m _ hk _ => hg.block k (Array.getElem?_eq_some_iff.1 hk).1 fun h => by cases h; exact hm.ne hk rfl
theorem blk_of_map {P : Program} {α β : Type} {S : MS P α β} {w w' : World} {b k : Nat} {L : List α} {f : α → Option β} {cs : Array Value} {t : TypeId} {m : Nat × Nat} (hk : w.heap[k]? = some (.cells cs t m)) (hm : OwnM S w b L f) (hg : w.grownBy w' (some b)) : w'.heap[k]? = some (.cells cs t m) :=
  (hg.block k (Array.getElem?_eq_some_iff.1 hk).1 fun h => by cases h; exact hm.ne hk rfl).trans hk
end Go.Proofs.Ytdijlakeonionaa
