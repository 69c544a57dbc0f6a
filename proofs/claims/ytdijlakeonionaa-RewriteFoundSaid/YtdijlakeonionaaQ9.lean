/-
  The machine in memory; owe.
-/
import Derived.Test.YtdijlakeonionaaQP1
namespace Go.Proofs.Ytdijlakeonionaa
open Go.ChangeShapes Go.WideShapes Go.ChangeAt Go.RowKit
structure SV where
  A : Option Addr
  n : Nat
  c : Nat
structure Mch where
  i : SV
  f : SV
  t : SV
  l : SV
  r : SV
structure MmOk (w : World) (m : Mch) (I : List PPh) (R : PRule) : Prop where
  i : RdPh w (.slice m.i.A m.i.n m.i.c) I
  f : RdI w (.slice m.f.A m.f.n m.f.c) R.fr
  t : RdI w (.slice m.t.A m.t.n m.t.c) R.tto
  l : RdC w (.slice m.l.A m.l.n m.l.c) R.lft
  r : RdC w (.slice m.r.A m.r.n m.r.c) R.rgt
theorem MmOk.below {w w' : World} {m : Mch} {I : List PPh} {R : PRule} (h : MmOk w m I R) (hb : Below w.heap.size w w') : MmOk w' m I R := ⟨h.i.below hb, h.f.below hb, h.t.below hb, h.l.below hb, h.r.below hb⟩
theorem MmOk.len {w : World} {m : Mch} {I : List PPh} {R : PRule} (h : MmOk w m I R) : I.length = m.i.n ∧ R.fr.length = m.f.n ∧ R.tto.length = m.t.n ∧ R.lft.length = m.l.n ∧ R.rgt.length = m.r.n := by
  refine ⟨?_, ?_, ?_, ?_, ?_⟩
  · obtain ⟨A, c, he, _⟩ := h.i; injection he with _ h1 _; exact h1.symm
  · obtain ⟨A, c, he, _⟩ := h.f; injection he with _ h1 _; exact h1.symm
  · obtain ⟨A, c, he, _⟩ := h.t; injection he with _ h1 _; exact h1.symm
  · obtain ⟨A, c, he, _⟩ := h.l; injection he with _ h1 _; exact h1.symm
  · obtain ⟨A, c, he, _⟩ := h.r; injection he with _ h1 _; exact h1.symm
def mchC (m : Mch) (beg fin : Bool) : Array Value := #[.slice m.i.A m.i.n m.i.c, .slice m.f.A m.f.n m.f.c, .slice m.t.A m.t.n m.t.c, .slice m.l.A m.l.n m.l.c, .slice m.r.A m.r.n m.r.c, .bool beg, .bool fin, .slice m.i.A m.i.n m.i.c, .slice m.l.A m.l.n m.l.c, .slice m.i.A m.i.n m.i.c, .slice m.r.A m.r.n m.r.c]
def stA (s : St) : Array Value := #[.int .i64 s.cnt, .int .u8 s.near, .int .u8 s.far, .int .i8 s.o0, .int .i8 s.o1, .int .i8 s.o2]
def mchV (m : Mch) (beg fin : Bool) : Value := .agg (mchC m beg fin)
def stV (s : St) : Value := .agg (stA s)
def stC (s : St) : List Value := [.int .i64 s.cnt, .int .u8 s.near, .int .u8 s.far, .int .i8 s.o0, .int .i8 s.o1, .int .i8 s.o2]
structure StOk (s : St) : Prop where
  c0 : 0 ≤ s.cnt
  c1 : s.cnt ≤ 3
  n0 : 0 ≤ s.near
  n1 : s.near ≤ 3
  f0 : 0 ≤ s.far
  f1 : s.far ≤ 1
  a0 : -1 ≤ s.o0
  a1 : s.o0 ≤ 1
  b0 : -1 ≤ s.o1
  b1 : s.o1 ≤ 1
  d0 : -1 ≤ s.o2
  d1 : s.o2 ≤ 1
theorem StOk.zero : StOk St.zero := by constructor <;> decide
theorem StOk.set_ {s : St} (h : StOk s) (k : Nat) {g : Int} (h0 : -1 ≤ g) (h1 : g ≤ 1) : StOk (s.set k g) := by
  obtain ⟨a1, a2, a3, a4, a5, a6, a7, a8, a9, a10, a11, a12⟩ := h
  match k with
  | 0 => constructor <;> assumption
  | 1 => constructor <;> assumption
  | k + 2 => constructor <;> assumption
/-- what owe returns -/
def OweQ (o : Option St) (e : Ending) : Prop := (∃ s, o = some s ∧ e = .returned (.tuple #[stV s, .bool true])) ∨ (o = none ∧ ∃ s, e = .returned (.tuple #[stV s, .bool false]))
theorem OweQ.yes {o : Option St} {s : St} {v : Value} (h : o = some s) (hv : v = stV s) : OweQ o (.returned (.tuple #[v, .bool true])) := .inl ⟨s, h, by rw [hv]⟩
theorem OweQ.no {o : Option St} (s : St) {v : Value} (h : o = none) (hv : v = stV s) : OweQ o (.returned (.tuple #[v, .bool false])) := .inr ⟨h, s, by rw [hv]⟩
def MBlk (w : World) (B : Nat) (m : Mch) (beg fin : Bool) : Prop := w.heap[B]? = some (.cells (mchC m beg fin) 76 (0, 0))
theorem MBlk.lt {w : World} {B : Nat} {m : Mch} {beg fin : Bool} (h : MBlk w B m beg fin) : B < w.heap.size := (Array.getElem?_eq_some_iff.1 h).1
theorem MBlk.below {w w' : World} {B : Nat} {m : Mch} {beg fin : Bool} (h : MBlk w B m beg fin) (hb : Below w.heap.size w w') : MBlk w' B m beg fin := (hb.block B h.lt).trans h
theorem MBlk.cells {w : World} {B : Nat} {m : Mch} {beg fin : Bool} (h : MBlk w B m beg fin) : w.cell? ⟨B, 0, none⟩ = some (.slice m.i.A m.i.n m.i.c) ∧ w.cell? ⟨B, 1, none⟩ = some (.slice m.f.A m.f.n m.f.c) ∧ w.cell? ⟨B, 2, none⟩ = some (.slice m.t.A m.t.n m.t.c) ∧ w.cell? ⟨B, 3, none⟩ = some (.slice m.l.A m.l.n m.l.c) ∧ w.cell? ⟨B, 4, none⟩ = some (.slice m.r.A m.r.n m.r.c) ∧ w.cell? ⟨B, 5, none⟩ = some (.bool beg) ∧ w.cell? ⟨B, 6, none⟩ = some (.bool fin) ∧ w.cell? ⟨B, 7, none⟩ = some (.slice m.i.A m.i.n m.i.c) ∧ w.cell? ⟨B, 8, none⟩ = some (.slice m.l.A m.l.n m.l.c) ∧ w.cell? ⟨B, 9, none⟩ = some (.slice m.i.A m.i.n m.i.c) ∧ w.cell? ⟨B, 10, none⟩ = some (.slice m.r.A m.r.n m.r.c) := by
  refine ⟨?_, ?_, ?_, ?_, ?_, ?_, ?_, ?_, ?_, ?_, ?_⟩ <;> rw [cell_of_row w B _ _ _ (0, 0) h] <;> rfl
def SBlk (w : World) (B : Nat) (s : St) : Prop := w.heap[B]? = some (.cells (stA s) 85 (0, 0))
theorem SBlk.lt {w : World} {B : Nat} {s : St} (h : SBlk w B s) : B < w.heap.size := (Array.getElem?_eq_some_iff.1 h).1
theorem SBlk.below {w w' : World} {B : Nat} {s : St} (h : SBlk w B s) (hb : Below w.heap.size w w') : SBlk w' B s := (hb.block B h.lt).trans h
theorem SBlk.cells {w : World} {B : Nat} {s : St} (h : SBlk w B s) : w.cell? ⟨B, 0, none⟩ = some (.int .i64 s.cnt) ∧ w.cell? ⟨B, 1, none⟩ = some (.int .u8 s.near) ∧ w.cell? ⟨B, 2, none⟩ = some (.int .u8 s.far) ∧ w.cell? ⟨B, 3, none⟩ = some (.int .i8 s.o0) ∧ w.cell? ⟨B, 4, none⟩ = some (.int .i8 s.o1) ∧ w.cell? ⟨B, 5, none⟩ = some (.int .i8 s.o2) := by
  refine ⟨?_, ?_, ?_, ?_, ?_, ?_⟩ <;> rw [cell_of_row w B _ _ _ (0, 0) h] <;> rfl
theorem SBlk.free {w : World} {B : Nat} {s : St} (h : SBlk w B s) (j : Nat) : w.frozen? ⟨B, j, none⟩ = false := by
  unfold SBlk at h
  simp [World.frozen?, h]
set_option maxHeartbeats 4000000 in
set_option maxRecDepth 100000 in
theorem owe_any (m : Mch) (I : List PPh) (R : PRule) (s : St) (k : Nat) (g : Int) (w : World) (hm : MmOk w m I R) (hk : k ≤ 2) :
    Calls Try.prog 76 #[mchV m R.beg R.fin, stV s, .int .i64 (k : Int), .int .i8 g] w fun e w' => OweQ (oweM R s k g) e ∧ Below w.heap.size w w' := by
  have HN := hm.len.2.2.2.2
  obtain ⟨o, ho⟩ : ∃ o, oweM R s k g = o := ⟨_, rfl⟩
  rw [ho]
  rw [oweM, HN] at ho
  have HO := Lib.hid ho
  obtain ⟨beg, hbeg⟩ : ∃ x, R.beg = x := ⟨_, rfl⟩
  obtain ⟨fin, hfin⟩ : ∃ x, R.fin = x := ⟨_, rfl⟩
  rw [hfin] at HO
  rw [hbeg, hfin]
  clear hbeg hfin ho HN hm
  obtain ⟨c, nr, fr, o0, o1, o2⟩ := s
  simp only [mchV, mchC, stV, stA]
  by_cases hkm : (k == m.r.n && !fin) = true
  · rw [hkm] at HO
    simp only [Bool.and_eq_true, Bool.not_eq_true', beq_iff_eq] at hkm
    obtain ⟨hk1, rfl⟩ := hkm
    have hb0 : ((k : Int) == (m.r.n : Int)) = true := by simp [hk1]
    have hb1 : (k == m.r.n) = true := by simp [hk1]
    clear hk1 hk
    by_cases hp : 0 < g
    · have hp1 : decide (0 < g) = true := by simp [hp]
      have HO2 : Hid (o = some ⟨c, nr, fr, o0, o1, o2⟩) := by rw [Hid, ← HO.out, if_pos rfl, if_pos hp]
      clear hp HO
      go_enter Try.func76, Try.ntmps76
      go_wp2_with fail
      refine bodyPost_ret (v := .tuple #[.agg #[.int .i64 c, .int .u8 nr, .int .u8 fr, .int .i8 o0, .int .i8 o1, .int .i8 o2], .bool true]) ?_ rfl ?_
      · simp [results, Try.results76, go_sem]
      exact ⟨.inl ⟨_, HO2.out, rfl⟩, by repeat (first | assumption | exact Below.refl _ _ | refine Below.alloc ?_ (by first | omega | (simp; done) | (simp; omega)) _ | refine Below.drew ?_ | refine below_drewN ?_ _ | refine Below.setCell ?_ (by first | omega | (simp; done) | (simp; omega)) _)⟩
    · have hp1 : decide (0 < g) = false := by simp [hp]
      have HO2 : Hid (o = none) := by rw [Hid, ← HO.out, if_pos rfl, if_neg hp]
      clear hp HO
      go_enter Try.func76, Try.ntmps76
      go_wp2_with fail
      refine bodyPost_ret (v := .tuple #[.agg #[.int .i64 c, .int .u8 nr, .int .u8 fr, .int .i8 o0, .int .i8 o1, .int .i8 o2], .bool false]) ?_ rfl ?_
      · simp [results, Try.results76, go_sem]
      exact ⟨.inr ⟨HO2.out, ⟨c, nr, fr, o0, o1, o2⟩, rfl⟩, by repeat (first | assumption | exact Below.refl _ _ | refine Below.alloc ?_ (by first | omega | (simp; done) | (simp; omega)) _ | refine Below.drew ?_ | refine below_drewN ?_ _ | refine Below.setCell ?_ (by first | omega | (simp; done) | (simp; omega)) _)⟩
  · simp only [Bool.not_eq_true] at hkm
    rw [hkm] at HO
    have HO1 : Hid (o = some (St.set ⟨c, nr, fr, o0, o1, o2⟩ k g)) := by rw [Hid, ← HO.out]; rfl
    clear HO
    by_cases hkn : k = m.r.n
    · have hb0 : ((k : Int) == (m.r.n : Int)) = true := by simp [hkn]
      have hb1 : (k == m.r.n) = true := by simp [hkn]
      obtain rfl : fin = true := by simp [hkn] at hkm; exact hkm
      clear hkn hkm
      go_enter Try.func76, Try.ntmps76
      go_upto_region 3 with (fail)
      clear hb0 hb1
      rcases (show k = 0 ∨ k = 1 ∨ k = 2 by omega) with hk0 | hk0 | hk0
      · subst hk0
        clear hk
        go_wp2_with fail
        refine bodyPost_ret (v := .tuple #[.agg #[.int .i64 c, .int .u8 nr, .int .u8 fr, .int .i8 g, .int .i8 o1, .int .i8 o2], .bool true]) ?_ rfl ?_
        · simp [results, Try.results76, go_sem]
        exact ⟨.inl ⟨_, HO1.out, rfl⟩, by repeat (first | assumption | exact Below.refl _ _ | refine Below.alloc ?_ (by first | omega | (simp; done) | (simp; omega)) _ | refine Below.drew ?_ | refine below_drewN ?_ _ | refine Below.setCell ?_ (by first | omega | (simp; done) | (simp; omega)) _)⟩
      · subst hk0
        clear hk
        go_wp2_with fail
        refine bodyPost_ret (v := .tuple #[.agg #[.int .i64 c, .int .u8 nr, .int .u8 fr, .int .i8 o0, .int .i8 g, .int .i8 o2], .bool true]) ?_ rfl ?_
        · simp [results, Try.results76, go_sem]
        exact ⟨.inl ⟨_, HO1.out, rfl⟩, by repeat (first | assumption | exact Below.refl _ _ | refine Below.alloc ?_ (by first | omega | (simp; done) | (simp; omega)) _ | refine Below.drew ?_ | refine below_drewN ?_ _ | refine Below.setCell ?_ (by first | omega | (simp; done) | (simp; omega)) _)⟩
      · subst hk0
        clear hk
        go_wp2_with fail
        refine bodyPost_ret (v := .tuple #[.agg #[.int .i64 c, .int .u8 nr, .int .u8 fr, .int .i8 o0, .int .i8 o1, .int .i8 g], .bool true]) ?_ rfl ?_
        · simp [results, Try.results76, go_sem]
        exact ⟨.inl ⟨_, HO1.out, rfl⟩, by repeat (first | assumption | exact Below.refl _ _ | refine Below.alloc ?_ (by first | omega | (simp; done) | (simp; omega)) _ | refine Below.drew ?_ | refine below_drewN ?_ _ | refine Below.setCell ?_ (by first | omega | (simp; done) | (simp; omega)) _)⟩
    · have hb0 : ((k : Int) == (m.r.n : Int)) = false := by simp; omega
      have hb1 : (k == m.r.n) = false := by simp [hkn]
      clear hkn hkm
      go_enter Try.func76, Try.ntmps76
      go_upto_region 3 with (fail)
      clear hb0 hb1
      rcases (show k = 0 ∨ k = 1 ∨ k = 2 by omega) with hk0 | hk0 | hk0
      · subst hk0
        clear hk
        go_wp2_with fail
        refine bodyPost_ret (v := .tuple #[.agg #[.int .i64 c, .int .u8 nr, .int .u8 fr, .int .i8 g, .int .i8 o1, .int .i8 o2], .bool true]) ?_ rfl ?_
        · simp [results, Try.results76, go_sem]
        exact ⟨.inl ⟨_, HO1.out, rfl⟩, by repeat (first | assumption | exact Below.refl _ _ | refine Below.alloc ?_ (by first | omega | (simp; done) | (simp; omega)) _ | refine Below.drew ?_ | refine below_drewN ?_ _ | refine Below.setCell ?_ (by first | omega | (simp; done) | (simp; omega)) _)⟩
      · subst hk0
        clear hk
        go_wp2_with fail
        refine bodyPost_ret (v := .tuple #[.agg #[.int .i64 c, .int .u8 nr, .int .u8 fr, .int .i8 o0, .int .i8 g, .int .i8 o2], .bool true]) ?_ rfl ?_
        · simp [results, Try.results76, go_sem]
        exact ⟨.inl ⟨_, HO1.out, rfl⟩, by repeat (first | assumption | exact Below.refl _ _ | refine Below.alloc ?_ (by first | omega | (simp; done) | (simp; omega)) _ | refine Below.drew ?_ | refine below_drewN ?_ _ | refine Below.setCell ?_ (by first | omega | (simp; done) | (simp; omega)) _)⟩
      · subst hk0
        clear hk
        go_wp2_with fail
        refine bodyPost_ret (v := .tuple #[.agg #[.int .i64 c, .int .u8 nr, .int .u8 fr, .int .i8 o0, .int .i8 o1, .int .i8 g], .bool true]) ?_ rfl ?_
        · simp [results, Try.results76, go_sem]
        exact ⟨.inl ⟨_, HO1.out, rfl⟩, by repeat (first | assumption | exact Below.refl _ _ | refine Below.alloc ?_ (by first | omega | (simp; done) | (simp; omega)) _ | refine Below.drew ?_ | refine below_drewN ?_ _ | refine Below.setCell ?_ (by first | omega | (simp; done) | (simp; omega)) _)⟩
set_option maxHeartbeats 4000000 in
set_option maxRecDepth 100000 in
theorem open_any (m : Mch) (I : List PPh) (R : PRule) (s : St) (w : World) (hm : MmOk w m I R) (hs : StOk s) (hl : R.lft.length ≤ 2) :
    Calls Try.prog 75 #[mchV m R.beg R.fin, stV s] w fun e w' => e = .returned (.bool (openB R s)) ∧ Below w.heap.size w w' := by
  have HN := hm.len.2.2.2.1
  obtain ⟨b, hb⟩ : ∃ b, openB R s = b := ⟨_, rfl⟩
  rw [hb]
  rw [openB, HN] at hb
  rw [HN] at hl
  obtain ⟨beg, hbeg⟩ : ∃ x, R.beg = x := ⟨_, rfl⟩
  obtain ⟨fin, hfin⟩ : ∃ x, R.fin = x := ⟨_, rfl⟩
  rw [hbeg] at hb
  rw [hbeg, hfin]
  clear hbeg hfin HN hm
  obtain ⟨c, nr, fr, o0, o1, o2⟩ := s
  obtain ⟨_, _, hn0, hn1, hf0, hf1, _, _, _, _, _, _⟩ := hs
  simp only at hb hn0 hn1 hf0 hf1
  simp only [mchV, mchC, stV, stA]
  obtain ⟨mi, mf, mt, ⟨Al, nl, cl⟩, mr⟩ := m
  simp only at hb hl ⊢
  by_cases h1 : (nl : Int) ≤ c
  · have d1 : decide (c < (nl : Int)) = false := by simp; omega
    rw [decide_eq_true h1, Bool.true_and] at hb
    by_cases h2 : (beg && decide ((nl : Int) < c)) = true
    · rw [h2, Bool.not_true, Bool.false_and] at hb
      subst hb
      simp only [Bool.and_eq_true, decide_eq_true_eq] at h2
      obtain ⟨rfl, h3⟩ := h2
      have d2 : decide ((nl : Int) < c) = true := by simpa using h3
      clear h1 h3
      go_enter Try.func75, Try.ntmps75
      go_wp2_with fail
      go_ret
      exact ⟨rfl, by repeat (first | assumption | exact Below.refl _ _ | refine Below.alloc ?_ (by first | omega | (simp; done) | (simp; omega)) _ | refine Below.drew ?_ | refine below_drewN ?_ _ | refine Below.setCell ?_ (by first | omega | (simp; done) | (simp; omega)) _)⟩
    · simp only [Bool.not_eq_true] at h2
      rw [h2, Bool.not_false, Bool.true_and] at hb
      cases beg
      · clear h2 d1
        rcases (show nl = 0 ∨ nl = 1 ∨ nl = 2 by omega) with h | h | h
        · subst h
          simp only [Bool.and_true] at hb
          subst hb
          have d1 : decide (c < 0) = false := by simp; omega
          clear h1
          go_enter Try.func75, Try.ntmps75
          go_wp2_with fail
          go_ret
          exact ⟨rfl, by repeat (first | assumption | exact Below.refl _ _ | refine Below.alloc ?_ (by first | omega | (simp; done) | (simp; omega)) _ | refine Below.drew ?_ | refine below_drewN ?_ _ | refine Below.setCell ?_ (by first | omega | (simp; done) | (simp; omega)) _)⟩
        · subst h
          clear hl
          have d1 : decide (c < 1) = false := by simp; omega
          clear h1
          rcases (show nr = 0 ∨ nr = 1 ∨ nr = 2 ∨ nr = 3 by omega) with h | h | h | h
          · subst h; obtain rfl : b = false := by rw [← hb]; rfl
            clear hb
            go_enter Try.func75, Try.ntmps75
            go_wp2_with fail
            go_ret
            exact ⟨rfl, by repeat (first | assumption | exact Below.refl _ _ | refine Below.alloc ?_ (by first | omega | (simp; done) | (simp; omega)) _ | refine Below.drew ?_ | refine below_drewN ?_ _ | refine Below.setCell ?_ (by first | omega | (simp; done) | (simp; omega)) _)⟩
          · subst h; obtain rfl : b = true := by rw [← hb]; rfl
            clear hb
            go_enter Try.func75, Try.ntmps75
            go_wp2_with fail
            go_ret
            exact ⟨rfl, by repeat (first | assumption | exact Below.refl _ _ | refine Below.alloc ?_ (by first | omega | (simp; done) | (simp; omega)) _ | refine Below.drew ?_ | refine below_drewN ?_ _ | refine Below.setCell ?_ (by first | omega | (simp; done) | (simp; omega)) _)⟩
          · subst h; obtain rfl : b = false := by rw [← hb]; rfl
            clear hb
            go_enter Try.func75, Try.ntmps75
            go_wp2_with fail
            go_ret
            exact ⟨rfl, by repeat (first | assumption | exact Below.refl _ _ | refine Below.alloc ?_ (by first | omega | (simp; done) | (simp; omega)) _ | refine Below.drew ?_ | refine below_drewN ?_ _ | refine Below.setCell ?_ (by first | omega | (simp; done) | (simp; omega)) _)⟩
          · subst h; obtain rfl : b = true := by rw [← hb]; rfl
            clear hb
            go_enter Try.func75, Try.ntmps75
            go_wp2_with fail
            go_ret
            exact ⟨rfl, by repeat (first | assumption | exact Below.refl _ _ | refine Below.alloc ?_ (by first | omega | (simp; done) | (simp; omega)) _ | refine Below.drew ?_ | refine below_drewN ?_ _ | refine Below.setCell ?_ (by first | omega | (simp; done) | (simp; omega)) _)⟩
        · subst h
          clear hl
          have d1 : decide (c < 2) = false := by simp; omega
          clear h1
          rcases (show nr = 0 ∨ nr = 1 ∨ nr = 2 ∨ nr = 3 by omega) with h | h | h | h
          · subst h; obtain rfl : b = false := by rw [← hb]; rfl
            clear hb
            go_enter Try.func75, Try.ntmps75
            go_wp2_with fail
            go_ret
            exact ⟨rfl, by repeat (first | assumption | exact Below.refl _ _ | refine Below.alloc ?_ (by first | omega | (simp; done) | (simp; omega)) _ | refine Below.drew ?_ | refine below_drewN ?_ _ | refine Below.setCell ?_ (by first | omega | (simp; done) | (simp; omega)) _)⟩
          · subst h; obtain rfl : b = false := by rw [← hb]; rfl
            clear hb
            go_enter Try.func75, Try.ntmps75
            go_wp2_with fail
            go_ret
            exact ⟨rfl, by repeat (first | assumption | exact Below.refl _ _ | refine Below.alloc ?_ (by first | omega | (simp; done) | (simp; omega)) _ | refine Below.drew ?_ | refine below_drewN ?_ _ | refine Below.setCell ?_ (by first | omega | (simp; done) | (simp; omega)) _)⟩
          · subst h
            rcases (show fr = 0 ∨ fr = 1 by omega) with h | h
            · subst h; obtain rfl : b = false := by rw [← hb]; rfl
              clear hb
              go_enter Try.func75, Try.ntmps75
              go_wp2_with fail
              go_ret
              exact ⟨rfl, by repeat (first | assumption | exact Below.refl _ _ | refine Below.alloc ?_ (by first | omega | (simp; done) | (simp; omega)) _ | refine Below.drew ?_ | refine below_drewN ?_ _ | refine Below.setCell ?_ (by first | omega | (simp; done) | (simp; omega)) _)⟩
            · subst h; obtain rfl : b = true := by rw [← hb]; rfl
              clear hb
              go_enter Try.func75, Try.ntmps75
              go_wp2_with fail
              go_ret
              exact ⟨rfl, by repeat (first | assumption | exact Below.refl _ _ | refine Below.alloc ?_ (by first | omega | (simp; done) | (simp; omega)) _ | refine Below.drew ?_ | refine below_drewN ?_ _ | refine Below.setCell ?_ (by first | omega | (simp; done) | (simp; omega)) _)⟩
          · subst h
            rcases (show fr = 0 ∨ fr = 1 by omega) with h | h
            · subst h; obtain rfl : b = false := by rw [← hb]; rfl
              clear hb
              go_enter Try.func75, Try.ntmps75
              go_wp2_with fail
              go_ret
              exact ⟨rfl, by repeat (first | assumption | exact Below.refl _ _ | refine Below.alloc ?_ (by first | omega | (simp; done) | (simp; omega)) _ | refine Below.drew ?_ | refine below_drewN ?_ _ | refine Below.setCell ?_ (by first | omega | (simp; done) | (simp; omega)) _)⟩
            · subst h; obtain rfl : b = true := by rw [← hb]; rfl
              clear hb
              go_enter Try.func75, Try.ntmps75
              go_wp2_with fail
              go_ret
              exact ⟨rfl, by repeat (first | assumption | exact Below.refl _ _ | refine Below.alloc ?_ (by first | omega | (simp; done) | (simp; omega)) _ | refine Below.drew ?_ | refine below_drewN ?_ _ | refine Below.setCell ?_ (by first | omega | (simp; done) | (simp; omega)) _)⟩
      · have h3 : c ≤ (nl : Int) := by simpa using h2
        clear h2 d1
        rcases (show nl = 0 ∨ nl = 1 ∨ nl = 2 by omega) with h | h | h
        · subst h
          simp only [Bool.and_true] at hb
          subst hb
          have d1 : decide (c < 0) = false := by simp; omega
          have d2 : decide (0 < c) = false := by simp; omega
          clear h1 h3
          go_enter Try.func75, Try.ntmps75
          go_wp2_with fail
          go_ret
          exact ⟨rfl, by repeat (first | assumption | exact Below.refl _ _ | refine Below.alloc ?_ (by first | omega | (simp; done) | (simp; omega)) _ | refine Below.drew ?_ | refine below_drewN ?_ _ | refine Below.setCell ?_ (by first | omega | (simp; done) | (simp; omega)) _)⟩
        · subst h
          clear hl
          have d1 : decide (c < 1) = false := by simp; omega
          have d2 : decide (1 < c) = false := by simp; omega
          clear h1 h3
          rcases (show nr = 0 ∨ nr = 1 ∨ nr = 2 ∨ nr = 3 by omega) with h | h | h | h
          · subst h; obtain rfl : b = false := by rw [← hb]; rfl
            clear hb
            go_enter Try.func75, Try.ntmps75
            go_wp2_with fail
            go_ret
            exact ⟨rfl, by repeat (first | assumption | exact Below.refl _ _ | refine Below.alloc ?_ (by first | omega | (simp; done) | (simp; omega)) _ | refine Below.drew ?_ | refine below_drewN ?_ _ | refine Below.setCell ?_ (by first | omega | (simp; done) | (simp; omega)) _)⟩
          · subst h; obtain rfl : b = true := by rw [← hb]; rfl
            clear hb
            go_enter Try.func75, Try.ntmps75
            go_wp2_with fail
            go_ret
            exact ⟨rfl, by repeat (first | assumption | exact Below.refl _ _ | refine Below.alloc ?_ (by first | omega | (simp; done) | (simp; omega)) _ | refine Below.drew ?_ | refine below_drewN ?_ _ | refine Below.setCell ?_ (by first | omega | (simp; done) | (simp; omega)) _)⟩
          · subst h; obtain rfl : b = false := by rw [← hb]; rfl
            clear hb
            go_enter Try.func75, Try.ntmps75
            go_wp2_with fail
            go_ret
            exact ⟨rfl, by repeat (first | assumption | exact Below.refl _ _ | refine Below.alloc ?_ (by first | omega | (simp; done) | (simp; omega)) _ | refine Below.drew ?_ | refine below_drewN ?_ _ | refine Below.setCell ?_ (by first | omega | (simp; done) | (simp; omega)) _)⟩
          · subst h; obtain rfl : b = true := by rw [← hb]; rfl
            clear hb
            go_enter Try.func75, Try.ntmps75
            go_wp2_with fail
            go_ret
            exact ⟨rfl, by repeat (first | assumption | exact Below.refl _ _ | refine Below.alloc ?_ (by first | omega | (simp; done) | (simp; omega)) _ | refine Below.drew ?_ | refine below_drewN ?_ _ | refine Below.setCell ?_ (by first | omega | (simp; done) | (simp; omega)) _)⟩
        · subst h
          clear hl
          have d1 : decide (c < 2) = false := by simp; omega
          have d2 : decide (2 < c) = false := by simp; omega
          clear h1 h3
          rcases (show nr = 0 ∨ nr = 1 ∨ nr = 2 ∨ nr = 3 by omega) with h | h | h | h
          · subst h; obtain rfl : b = false := by rw [← hb]; rfl
            clear hb
            go_enter Try.func75, Try.ntmps75
            go_wp2_with fail
            go_ret
            exact ⟨rfl, by repeat (first | assumption | exact Below.refl _ _ | refine Below.alloc ?_ (by first | omega | (simp; done) | (simp; omega)) _ | refine Below.drew ?_ | refine below_drewN ?_ _ | refine Below.setCell ?_ (by first | omega | (simp; done) | (simp; omega)) _)⟩
          · subst h; obtain rfl : b = false := by rw [← hb]; rfl
            clear hb
            go_enter Try.func75, Try.ntmps75
            go_wp2_with fail
            go_ret
            exact ⟨rfl, by repeat (first | assumption | exact Below.refl _ _ | refine Below.alloc ?_ (by first | omega | (simp; done) | (simp; omega)) _ | refine Below.drew ?_ | refine below_drewN ?_ _ | refine Below.setCell ?_ (by first | omega | (simp; done) | (simp; omega)) _)⟩
          · subst h
            rcases (show fr = 0 ∨ fr = 1 by omega) with h | h
            · subst h; obtain rfl : b = false := by rw [← hb]; rfl
              clear hb
              go_enter Try.func75, Try.ntmps75
              go_wp2_with fail
              go_ret
              exact ⟨rfl, by repeat (first | assumption | exact Below.refl _ _ | refine Below.alloc ?_ (by first | omega | (simp; done) | (simp; omega)) _ | refine Below.drew ?_ | refine below_drewN ?_ _ | refine Below.setCell ?_ (by first | omega | (simp; done) | (simp; omega)) _)⟩
            · subst h; obtain rfl : b = true := by rw [← hb]; rfl
              clear hb
              go_enter Try.func75, Try.ntmps75
              go_wp2_with fail
              go_ret
              exact ⟨rfl, by repeat (first | assumption | exact Below.refl _ _ | refine Below.alloc ?_ (by first | omega | (simp; done) | (simp; omega)) _ | refine Below.drew ?_ | refine below_drewN ?_ _ | refine Below.setCell ?_ (by first | omega | (simp; done) | (simp; omega)) _)⟩
          · subst h
            rcases (show fr = 0 ∨ fr = 1 by omega) with h | h
            · subst h; obtain rfl : b = false := by rw [← hb]; rfl
              clear hb
              go_enter Try.func75, Try.ntmps75
              go_wp2_with fail
              go_ret
              exact ⟨rfl, by repeat (first | assumption | exact Below.refl _ _ | refine Below.alloc ?_ (by first | omega | (simp; done) | (simp; omega)) _ | refine Below.drew ?_ | refine below_drewN ?_ _ | refine Below.setCell ?_ (by first | omega | (simp; done) | (simp; omega)) _)⟩
            · subst h; obtain rfl : b = true := by rw [← hb]; rfl
              clear hb
              go_enter Try.func75, Try.ntmps75
              go_wp2_with fail
              go_ret
              exact ⟨rfl, by repeat (first | assumption | exact Below.refl _ _ | refine Below.alloc ?_ (by first | omega | (simp; done) | (simp; omega)) _ | refine Below.drew ?_ | refine below_drewN ?_ _ | refine Below.setCell ?_ (by first | omega | (simp; done) | (simp; omega)) _)⟩
  · have d1 : decide (c < (nl : Int)) = true := by simp; omega
    rw [decide_eq_false h1, Bool.false_and] at hb
    subst hb
    clear h1
    go_enter Try.func75, Try.ntmps75
    go_wp2_with fail
    go_ret
    exact ⟨rfl, by repeat (first | assumption | exact Below.refl _ _ | refine Below.alloc ?_ (by first | omega | (simp; done) | (simp; omega)) _ | refine Below.drew ?_ | refine below_drewN ?_ _ | refine Below.setCell ?_ (by first | omega | (simp; done) | (simp; omega)) _)⟩
theorem endK_zero (R : PRule) (k : Nat) : endK R k 0 = true := rfl
def endFrom (R : PRule) (s : St) : Nat → Bool
  | 0 => endM R s
  | 1 => endK R 1 s.o1 && endK R 2 s.o2
  | 2 => endK R 2 s.o2
  | _ => true
set_option maxHeartbeats 4000000 in
set_option maxRecDepth 100000 in
theorem end_any (m : Mch) (I : List PPh) (R : PRule) (s : St) (w : World) (hm : MmOk w m I R) :
    Calls Try.prog 51 #[mchV m R.beg R.fin, stV s] w fun e w' => e = .returned (.bool (endM R s)) ∧ Below w.heap.size w w' := by
  have HN := Lib.hid hm.len.2.2.2.2
  obtain ⟨beg, hbeg⟩ : ∃ x, R.beg = x := ⟨_, rfl⟩
  obtain ⟨fin, hfin⟩ : ∃ x, R.fin = x := ⟨_, rfl⟩
  rw [hbeg, hfin]
  clear hbeg hfin hm
  obtain ⟨c, nr, fr, o0, o1, o2⟩ := s
  simp only [mchV, mchC, stV, stA]
  have i0 : ∀ w, (Instr.index 83 (.agg #[.int .i8 o0, .int .i8 o1, .int .i8 o2]) (.int .i64 0)).run Try.prog w = .ok (.int .i8 o0) w := fun _ => by kernel_rfl
  have i1 : ∀ w, (Instr.index 83 (.agg #[.int .i8 o0, .int .i8 o1, .int .i8 o2]) (.int .i64 1)).run Try.prog w = .ok (.int .i8 o1) w := fun _ => by kernel_rfl
  have i2 : ∀ w, (Instr.index 83 (.agg #[.int .i8 o0, .int .i8 o1, .int .i8 o2]) (.int .i64 2)).run Try.prog w = .ok (.int .i8 o2) w := fun _ => by kernel_rfl
  go_enter Try.func51, Try.ntmps51
  go_wp2_with fail
  generalize hW : World.alloc (World.alloc w _) _ = W
  have HBW : Hid (Below w.heap.size w W) := by rw [← hW]; repeat (first | assumption | exact Below.refl _ _ | refine Below.alloc ?_ (by first | omega | (simp; done) | (simp; omega)) _ | refine Below.drew ?_ | refine below_drewN ?_ _ | refine Below.setCell ?_ (by first | omega | (simp; done) | (simp; omega)) _)
  have HP : Hid (MBlk W w.heap.size m beg fin) := by rw [← hW]; exact MBlk.below (heap_alloc_new w _) (al_below _ _)
  clear hW
  obtain ⟨_, _, _, _, z4, _⟩ := HP.out.cells
  have zl := HP.out.lt
  go_loop [9] (fun v9 => ∃ k : Nat, k ≤ 3 ∧ v9 = .int .i64 k ∧ Hid (endM R ⟨c, nr, fr, o0, o1, o2⟩ = endFrom R ⟨c, nr, fr, o0, o1, o2⟩ k)) (fun v9 => 3 - (intOf v9).toNat)
  case atStart => exact ⟨0, Nat.zero_le _, rfl, rfl⟩
  case round =>
    obtain ⟨k, hk, rfl, HF⟩ := hrel
    rcases (show k = 0 ∨ k = 1 ∨ k = 2 ∨ k = 3 by omega) with hk0 | hk0 | hk0 | hk0
    · subst hk0
      by_cases hg0 : o0 = 0
      · have d1 : (o0 != 0) = false := by simp [hg0]
        have HF2 : Hid (endM R ⟨c, nr, fr, o0, o1, o2⟩ = endFrom R ⟨c, nr, fr, o0, o1, o2⟩ 1) := by rw [Hid, HF.out]; rw [show endFrom R ⟨c, nr, fr, o0, o1, o2⟩ 0 = (endK R 0 o0 && endFrom R ⟨c, nr, fr, o0, o1, o2⟩ 1) from by first | rfl | simp [endFrom], hg0]; rfl
        clear hg0
        go_wp2_with fail
        go_round
        case rel => exact ⟨1, by omega, by go_num, HF2.out⟩
        case measure => simp [intOf]
      · have d1 : (o0 != 0) = true := by simp [hg0]
        obtain ⟨p, hp⟩ : ∃ p, decide (0 < o0) = p := ⟨_, rfl⟩
        obtain ⟨q, hq⟩ : ∃ q, (0 == m.r.n) = q := ⟨_, rfl⟩
        have hq2 : ((0 : Int) == (m.r.n : Int)) = q := by rw [← hq, Bool.eq_iff_iff, beq_iff_eq, beq_iff_eq]; omega
        have HE : Hid (endK R 0 o0 = (p == q)) := by rw [Hid, endK, HN.out, hp, hq, show (o0 == 0) = false by simp [hg0], Bool.false_or]
        clear hg0
        cases p
        · cases q
          · skip
            have HF2 : Hid (endM R ⟨c, nr, fr, o0, o1, o2⟩ = endFrom R ⟨c, nr, fr, o0, o1, o2⟩ 1) := by rw [Hid, HF.out]; rw [show endFrom R ⟨c, nr, fr, o0, o1, o2⟩ 0 = (endK R 0 o0 && endFrom R ⟨c, nr, fr, o0, o1, o2⟩ 1) from by first | rfl | simp [endFrom], HE.out]; rfl
            go_wp2_with fail
            go_round
            case rel => exact ⟨1, by omega, by go_num, HF2.out⟩
            case measure => simp [intOf]
          · skip
            have HF2 : Hid (endM R ⟨c, nr, fr, o0, o1, o2⟩ = false) := by rw [Hid, HF.out]; rw [show endFrom R ⟨c, nr, fr, o0, o1, o2⟩ 0 = (endK R 0 o0 && endFrom R ⟨c, nr, fr, o0, o1, o2⟩ 1) from by first | rfl | simp [endFrom], HE.out]; rfl
            go_wp2_with fail
            go_ret
            exact ⟨by rw [HF2.out]; rfl, HBW.out⟩
        · cases q
          · skip
            have HF2 : Hid (endM R ⟨c, nr, fr, o0, o1, o2⟩ = false) := by rw [Hid, HF.out]; rw [show endFrom R ⟨c, nr, fr, o0, o1, o2⟩ 0 = (endK R 0 o0 && endFrom R ⟨c, nr, fr, o0, o1, o2⟩ 1) from by first | rfl | simp [endFrom], HE.out]; rfl
            go_wp2_with fail
            go_ret
            exact ⟨by rw [HF2.out]; rfl, HBW.out⟩
          · skip
            have HF2 : Hid (endM R ⟨c, nr, fr, o0, o1, o2⟩ = endFrom R ⟨c, nr, fr, o0, o1, o2⟩ 1) := by rw [Hid, HF.out]; rw [show endFrom R ⟨c, nr, fr, o0, o1, o2⟩ 0 = (endK R 0 o0 && endFrom R ⟨c, nr, fr, o0, o1, o2⟩ 1) from by first | rfl | simp [endFrom], HE.out]; rfl
            go_wp2_with fail
            go_round
            case rel => exact ⟨1, by omega, by go_num, HF2.out⟩
            case measure => simp [intOf]
    · subst hk0
      by_cases hg0 : o1 = 0
      · have d1 : (o1 != 0) = false := by simp [hg0]
        have HF2 : Hid (endM R ⟨c, nr, fr, o0, o1, o2⟩ = endFrom R ⟨c, nr, fr, o0, o1, o2⟩ 2) := by rw [Hid, HF.out]; rw [show endFrom R ⟨c, nr, fr, o0, o1, o2⟩ 1 = (endK R 1 o1 && endFrom R ⟨c, nr, fr, o0, o1, o2⟩ 2) from by first | rfl | simp [endFrom], hg0]; rfl
        clear hg0
        go_wp2_with fail
        go_round
        case rel => exact ⟨2, by omega, by go_num, HF2.out⟩
        case measure => simp [intOf]
      · have d1 : (o1 != 0) = true := by simp [hg0]
        obtain ⟨p, hp⟩ : ∃ p, decide (0 < o1) = p := ⟨_, rfl⟩
        obtain ⟨q, hq⟩ : ∃ q, (1 == m.r.n) = q := ⟨_, rfl⟩
        have hq2 : ((1 : Int) == (m.r.n : Int)) = q := by rw [← hq, Bool.eq_iff_iff, beq_iff_eq, beq_iff_eq]; omega
        have HE : Hid (endK R 1 o1 = (p == q)) := by rw [Hid, endK, HN.out, hp, hq, show (o1 == 0) = false by simp [hg0], Bool.false_or]
        clear hg0
        cases p
        · cases q
          · skip
            have HF2 : Hid (endM R ⟨c, nr, fr, o0, o1, o2⟩ = endFrom R ⟨c, nr, fr, o0, o1, o2⟩ 2) := by rw [Hid, HF.out]; rw [show endFrom R ⟨c, nr, fr, o0, o1, o2⟩ 1 = (endK R 1 o1 && endFrom R ⟨c, nr, fr, o0, o1, o2⟩ 2) from by first | rfl | simp [endFrom], HE.out]; rfl
            go_wp2_with fail
            go_round
            case rel => exact ⟨2, by omega, by go_num, HF2.out⟩
            case measure => simp [intOf]
          · skip
            have HF2 : Hid (endM R ⟨c, nr, fr, o0, o1, o2⟩ = false) := by rw [Hid, HF.out]; rw [show endFrom R ⟨c, nr, fr, o0, o1, o2⟩ 1 = (endK R 1 o1 && endFrom R ⟨c, nr, fr, o0, o1, o2⟩ 2) from by first | rfl | simp [endFrom], HE.out]; rfl
            go_wp2_with fail
            go_ret
            exact ⟨by rw [HF2.out]; rfl, HBW.out⟩
        · cases q
          · skip
            have HF2 : Hid (endM R ⟨c, nr, fr, o0, o1, o2⟩ = false) := by rw [Hid, HF.out]; rw [show endFrom R ⟨c, nr, fr, o0, o1, o2⟩ 1 = (endK R 1 o1 && endFrom R ⟨c, nr, fr, o0, o1, o2⟩ 2) from by first | rfl | simp [endFrom], HE.out]; rfl
            go_wp2_with fail
            go_ret
            exact ⟨by rw [HF2.out]; rfl, HBW.out⟩
          · skip
            have HF2 : Hid (endM R ⟨c, nr, fr, o0, o1, o2⟩ = endFrom R ⟨c, nr, fr, o0, o1, o2⟩ 2) := by rw [Hid, HF.out]; rw [show endFrom R ⟨c, nr, fr, o0, o1, o2⟩ 1 = (endK R 1 o1 && endFrom R ⟨c, nr, fr, o0, o1, o2⟩ 2) from by first | rfl | simp [endFrom], HE.out]; rfl
            go_wp2_with fail
            go_round
            case rel => exact ⟨2, by omega, by go_num, HF2.out⟩
            case measure => simp [intOf]
    · subst hk0
      by_cases hg0 : o2 = 0
      · have d1 : (o2 != 0) = false := by simp [hg0]
        have HF2 : Hid (endM R ⟨c, nr, fr, o0, o1, o2⟩ = endFrom R ⟨c, nr, fr, o0, o1, o2⟩ 3) := by rw [Hid, HF.out]; rw [show endFrom R ⟨c, nr, fr, o0, o1, o2⟩ 2 = (endK R 2 o2 && endFrom R ⟨c, nr, fr, o0, o1, o2⟩ 3) from by first | rfl | simp [endFrom], hg0]; rfl
        clear hg0
        go_wp2_with fail
        go_round
        case rel => exact ⟨3, by omega, by go_num, HF2.out⟩
        case measure => simp [intOf]
      · have d1 : (o2 != 0) = true := by simp [hg0]
        obtain ⟨p, hp⟩ : ∃ p, decide (0 < o2) = p := ⟨_, rfl⟩
        obtain ⟨q, hq⟩ : ∃ q, (2 == m.r.n) = q := ⟨_, rfl⟩
        have hq2 : ((2 : Int) == (m.r.n : Int)) = q := by rw [← hq, Bool.eq_iff_iff, beq_iff_eq, beq_iff_eq]; omega
        have HE : Hid (endK R 2 o2 = (p == q)) := by rw [Hid, endK, HN.out, hp, hq, show (o2 == 0) = false by simp [hg0], Bool.false_or]
        clear hg0
        cases p
        · cases q
          · skip
            have HF2 : Hid (endM R ⟨c, nr, fr, o0, o1, o2⟩ = endFrom R ⟨c, nr, fr, o0, o1, o2⟩ 3) := by rw [Hid, HF.out]; rw [show endFrom R ⟨c, nr, fr, o0, o1, o2⟩ 2 = (endK R 2 o2 && endFrom R ⟨c, nr, fr, o0, o1, o2⟩ 3) from by first | rfl | simp [endFrom], HE.out]; rfl
            go_wp2_with fail
            go_round
            case rel => exact ⟨3, by omega, by go_num, HF2.out⟩
            case measure => simp [intOf]
          · skip
            have HF2 : Hid (endM R ⟨c, nr, fr, o0, o1, o2⟩ = false) := by rw [Hid, HF.out]; rw [show endFrom R ⟨c, nr, fr, o0, o1, o2⟩ 2 = (endK R 2 o2 && endFrom R ⟨c, nr, fr, o0, o1, o2⟩ 3) from by first | rfl | simp [endFrom], HE.out]; rfl
            go_wp2_with fail
            go_ret
            exact ⟨by rw [HF2.out]; rfl, HBW.out⟩
        · cases q
          · skip
            have HF2 : Hid (endM R ⟨c, nr, fr, o0, o1, o2⟩ = false) := by rw [Hid, HF.out]; rw [show endFrom R ⟨c, nr, fr, o0, o1, o2⟩ 2 = (endK R 2 o2 && endFrom R ⟨c, nr, fr, o0, o1, o2⟩ 3) from by first | rfl | simp [endFrom], HE.out]; rfl
            go_wp2_with fail
            go_ret
            exact ⟨by rw [HF2.out]; rfl, HBW.out⟩
          · skip
            have HF2 : Hid (endM R ⟨c, nr, fr, o0, o1, o2⟩ = endFrom R ⟨c, nr, fr, o0, o1, o2⟩ 3) := by rw [Hid, HF.out]; rw [show endFrom R ⟨c, nr, fr, o0, o1, o2⟩ 2 = (endK R 2 o2 && endFrom R ⟨c, nr, fr, o0, o1, o2⟩ 3) from by first | rfl | simp [endFrom], HE.out]; rfl
            go_wp2_with fail
            go_round
            case rel => exact ⟨3, by omega, by go_num, HF2.out⟩
            case measure => simp [intOf]
    · subst hk0
      go_wp2_with fail
      go_ret
      exact ⟨by rw [HF.out]; rfl, HBW.out⟩
end Go.Proofs.Ytdijlakeonionaa
