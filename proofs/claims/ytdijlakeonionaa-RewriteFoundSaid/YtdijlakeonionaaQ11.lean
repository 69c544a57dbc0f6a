/-
  Rows of structs, whatever their type; next of the machine.
-/
import Derived.Test.YtdijlakeonionaaQ10
import Derived.Test.YtdijlakeonionaaQ8
namespace Go.Proofs.Ytdijlakeonionaa
open Go.ChangeShapes Go.WideShapes Go.ChangeAt Go.RowKit
theorem flatN_len {α : Type} (f : α → List Value) (n : Nat) (hf : ∀ a, (f a).length = n) : ∀ l : List α, (l.flatMap f).length = l.length * n
  | [] => by simp
  | x :: l => by rw [List.flatMap_cons, List.length_append, hf, flatN_len f n hf l, List.length_cons, Nat.succ_mul, Nat.add_comm]
theorem flatN_at {α : Type} (f : α → List Value) (n : Nat) (hf : ∀ a, (f a).length = n) : ∀ (l : List α) (k : Nat) (h : k < l.length) (j : Nat), j < n → (l.flatMap f)[k * n + j]? = (f l[k])[j]?
  | x :: l, 0, _, j, hj => by
    rw [List.flatMap_cons, Nat.zero_mul, Nat.zero_add, List.getElem?_append_left (by rw [hf]; exact hj)]; rfl
  | x :: l, k + 1, h, j, hj => by
    have ih := flatN_at f n hf l k (by simpa using h) j hj
    rw [List.flatMap_cons, List.getElem?_append_right (by rw [hf, Nat.succ_mul]; omega), hf, show (k + 1) * n + j - n = k * n + j by rw [Nat.succ_mul]; omega, ih]
    rfl
/-- append of one struct onto a row of the call's own -/
theorem wpList_app_row {α : Type} (T E : TypeId) (sz bys : Nat) (z : Value) (f : α → List Value) (hT : Try.prog.underlying T = some (.slice E)) (hI : (Try.prog.info? E).map (fun i => (i.zero, i.size, i.bytes)) = some (some z, sz, bys))
    (hz : z.cells.size = sz) (hsz : 0 < sz) (hb : bys ≤ 10000) (hf : ∀ a, (f a).length = sz) (h1 : ∀ a, ∀ u ∈ f a, u.oneCell' = true)
    {ops : Array Oper} {rest : List Oper} {o : Oper} {a : Act} {Q : Exit → Act → World → Prop} {w : World} (hgd : o.guard = none) (s x : Operand)
    (ho : o.op = .call { callee := .builtin .append, args := #[s, x], argTypes := #[T, T] })
    (base : Nat) (v : Value) (l : List α) (hs : a.eval s = v) (hown : w.ownsRow base E sz v l.length (l.flatMap f)) (y : α) (m : Nat) (hm : Hid (l.length = m)) (hl : m ≤ 1000000) (hbase : base ≤ w.heap.size)
    (hx : a.eval x = .slice (some ⟨w.heap.size, 0, none⟩) 1 1)
    (h : ∀ g' cap w', w'.ownsRow base E sz (.slice (some ⟨g', 0, none⟩) (m + 1) cap) (l ++ [y]).length ((l ++ [y]).flatMap f) → base ≤ g' → w.grownBy w' v.ownBlock → wpList Try.prog ops Q rest (a.put o.dst (.slice (some ⟨g', 0, none⟩) (m + 1) cap)) w') :
    wpList Try.prog ops Q (o :: rest) a (w.alloc (.cells (f y).toArray E)) := by
  obtain rfl := hm.out
  obtain ⟨i0, hi, hz0, hz1, hz2⟩ := info_parts hI
  refine wpList_append_own _ hgd s x T ho base E i0 z sz bys hT hi hz0 hz1 hz2 hz hsz v l.length (l.flatMap f) hs (World.ownsRow.alloc hown _) ⟨w.heap.size, 0, none⟩ 1 1
    (f y) hx (by rw [hf, Nat.one_mul]) ?_ (h1 y) (by simp only [maxLen]; omega) ?_ (by simp; omega) ?_
  · intro j u hu
    have hj : (⟨w.heap.size, 0, none⟩ : Addr).add j = ⟨w.heap.size, 0 + j, none⟩ := by unfold Addr.add; split <;> simp_all
    rw [hj, cell_of_row _ w.heap.size (0 + j) (f y).toArray E (0, 0) (heap_alloc_new w _)]
    simpa using hu
  · have : (l.length + 1) * bys ≤ 1000001 * 10000 := Nat.mul_le_mul (by omega) hb
    omega
  · intro v' w' h3 h2 _
    obtain ⟨g', cap, rfl, hg1, hg2⟩ := h3.form (by omega)
    refine h g' cap w' ?_ hg1 ?_
    · rw [List.flatMap_append, List.length_append]
      simpa using h3
    · exact ⟨h2.os, h2.tape, h2.output, Nat.le_trans (by simp) h2.size, fun k hk hne => (h2.block k (by simp; omega) hne).trans (Below.heap_alloc w _ k hk)⟩
theorem own_one {α : Type} (E : TypeId) (sz : Nat) (f : α → List Value) (hf : ∀ a, (f a).length = sz) (w : World) (y : α) (base : Nat) (hb : base ≤ w.heap.size) : (w.alloc (.cells (f y).toArray E)).ownsRow base E sz (.slice (some ⟨w.heap.size, 0, none⟩) 1 1) [y].length ([y].flatMap f) :=
  ⟨by simp [hf], .inr ⟨w.heap.size, 1, _, rfl, hb, heap_alloc_new w _, Nat.le_refl _, by simp [maxLen], by simp [hf], by simp [← hf y]⟩⟩
theorem rd_one {α : Type} (E : TypeId) (sz : Nat) (f : α → List Value) (hf : ∀ a, (f a).length = sz) (w : World) (y : α) : Rd (w.alloc (.cells (f y).toArray E)) sz (.slice (some ⟨w.heap.size, 0, none⟩) 1 1) [y].length ([y].flatMap f) := by
  refine ⟨_, 1, rfl, Nat.le_refl _, by decide, by simp [hf], fun _ => ⟨w.heap.size, 0, rfl, by simp, fun j u hu => ?_⟩⟩
  rw [cell_of_row _ w.heap.size (0 + j) (f y).toArray E (0, 0) (heap_alloc_new w _)]
  simpa using hu
/-- a move -/
def mvC (p : Int × St) : List Value := [.int .i64 p.1, .int .i64 p.2.cnt, .int .u8 p.2.near, .int .u8 p.2.far, .int .i8 p.2.o0, .int .i8 p.2.o1, .int .i8 p.2.o2]
theorem mvC_len (p : Int × St) : (mvC p).length = 7 := rfl
theorem mvC_one (p : Int × St) : ∀ u ∈ mvC p, u.oneCell' = true := by
  intro u hu
  simp only [mvC, List.mem_cons, List.not_mem_nil, or_false] at hu
  rcases hu with rfl | rfl | rfl | rfl | rfl | rfl | rfl <;> rfl
theorem infoMv : (Try.prog.info? 95).map (fun i => (i.zero, i.size, i.bytes)) = some (some (.agg #[.int .i64 0, .int .i64 0, .int .u8 0, .int .u8 0, .int .i8 0, .int .i8 0, .int .i8 0]), 7, 24) := by kernel_rfl
def OwnMv (w : World) (base : Nat) (v : Value) (l : List (Int × St)) : Prop := w.ownsRow base 95 7 v l.length (l.flatMap mvC)
def RdMv (w : World) (v : Value) (l : List (Int × St)) : Prop := Rd w 7 v l.length (l.flatMap mvC)
theorem OwnMv.rd {w : World} {base : Nat} {v : Value} {l : List (Int × St)} (h : OwnMv w base v l) : RdMv w v l := Rd.own h
theorem RdMv.below {w w' : World} {v : Value} {l : List (Int × St)} (h : RdMv w v l) (hb : Below w.heap.size w w') : RdMv w' v l := Rd.below h hb
theorem RdMv.nil (w : World) : RdMv w (.slice none 0 0) [] := ⟨none, 0, rfl, by simp, by decide, rfl, fun h => absurd h (Nat.lt_irrefl 0)⟩
def MvAt (w : World) (A : Option Addr) (l : List (Int × St)) (k : Nat) : Prop :=
  ∃ b off p, A = some ⟨b, off, none⟩ ∧ b < w.heap.size ∧ Hid (l.drop k = p :: l.drop (k + 1)) ∧ w.cell? ⟨b, off + k * 7, none⟩ = some (.int .i64 p.1) ∧ w.cell? ⟨b, off + k * 7 + 1, none⟩ = some (.int .i64 p.2.cnt) ∧ w.cell? ⟨b, off + k * 7 + 2, none⟩ = some (.int .u8 p.2.near) ∧
    w.cell? ⟨b, off + k * 7 + 3, none⟩ = some (.int .u8 p.2.far) ∧ w.cell? ⟨b, off + k * 7 + 4, none⟩ = some (.int .i8 p.2.o0) ∧ w.cell? ⟨b, off + k * 7 + 5, none⟩ = some (.int .i8 p.2.o1) ∧ w.cell? ⟨b, off + k * 7 + 6, none⟩ = some (.int .i8 p.2.o2)
theorem RdMv.op {w : World} {v : Value} {l : List (Int × St)} (h : RdMv w v l) : ∃ (A : Option Addr) (n c : Nat), v = .slice A n c ∧ n ≤ c ∧ c ≤ 9223372036854775807 ∧ Hid (l.length = n) ∧ Hid (∀ k, k < n → MvAt w A l k) := by
  obtain ⟨A, c, rfl, h1, h2, h3, h4⟩ := h
  refine ⟨A, _, c, rfl, h1, h2, rfl, fun k hk => ?_⟩
  obtain ⟨b, off, rfl, hb, hc⟩ := h4 (by omega)
  have hj : ∀ j u, j < 7 → (mvC l[k])[j]? = some u → w.cell? ⟨b, off + k * 7 + j, none⟩ = some u := fun j u hj hu => by
    rw [Nat.add_assoc]
    exact hc (k * 7 + j) u ((flatN_at mvC 7 mvC_len l k hk j hj).trans hu)
  exact ⟨b, off, l[k], rfl, hb, List.drop_eq_getElem_cons hk, hj 0 _ (by omega) rfl, hj 1 _ (by omega) rfl, hj 2 _ (by omega) rfl, hj 3 _ (by omega) rfl, hj 4 _ (by omega) rfl, hj 5 _ (by omega) rfl, hj 6 _ (by omega) rfl⟩
theorem MvAt.below {w w' : World} {A : Option Addr} {l : List (Int × St)} {k : Nat} (h : MvAt w A l k) (hb : Below w.heap.size w w') : MvAt w' A l k := by
  obtain ⟨b, off, p, rfl, h1, h2, c0, c1, c2, c3, c4, c5, c6⟩ := h
  exact ⟨b, off, p, rfl, by have := hb.size; omega, h2, (hb.cell h1).trans c0, (hb.cell h1).trans c1, (hb.cell h1).trans c2, (hb.cell h1).trans c3, (hb.cell h1).trans c4, (hb.cell h1).trans c5, (hb.cell h1).trans c6⟩
theorem next_ok {I : List PPh} {R : PRule} {s : St} {x : Int} (h : StOk s) (hl : R.lft.length ≤ 2) {p : Int × St} (hp : p ∈ nextM I R s x) : StOk p.2 := by
  rw [nextM] at hp
  cases hb : readM I R s x with
  | none => rw [hb] at hp; cases hp
  | some b =>
    rw [hb] at hp
    have hbo := read_ok h hl hb
    have key : ∀ (g o : Int), -1 ≤ g → g ≤ 1 → p ∈ oweL R b g o → StOk p.2 := fun g o h0 h1 hm => by
      rw [oweL] at hm
      cases ho : oweM R b 0 g with
      | none => rw [ho] at hm; cases hm
      | some t =>
        rw [ho] at hm
        have : p = (o, t) := by simpa using hm
        rw [this]
        exact owe_ok hbo h0 h1 ho
    simp only at hp
    split at hp
    · rcases List.mem_append.1 hp with hp | hp
      · exact key 1 _ (by omega) (by omega) hp
      · exact key (-1) _ (by omega) (by omega) hp
    · have : p = (x, b) := by simpa using hp
      rw [this]
      exact hbo
theorem next_len (I : List PPh) (R : PRule) (s : St) (x : Int) : (nextM I R s x).length ≤ 2 := by
  have key : ∀ (b : St) (g o : Int), (oweL R b g o).length ≤ 1 := fun b g o => by
    rw [oweL]; cases oweM R b 0 g <;> simp
  rw [nextM]
  cases readM I R s x with
  | none => simp
  | some b =>
    simp only
    split
    · rw [List.length_append]
      have := key b 1 (toF R.fr R.tto x)
      have := key b (-1) x
      omega
    · simp
theorem idx_none {fr : List Int} {x : Int} (h : hasB fr x = false) : Lib.idxOf fr x < 0 := by
  have := Lib.idxOf_nonneg_iff fr x
  rw [hasB] at h
  rw [h] at this
  have h2 : ¬ 0 ≤ Lib.idxOf fr x := by rw [this]; decide
  omega
theorem MmOk.tAt {w : World} {m : Mch} {I : List PPh} {R : PRule} (h : MmOk w m I R) {k : Nat} (hk : k < m.t.n) : IAt w m.t.A R.tto k := by
  obtain ⟨A, n, c, he, _, _, _, hr⟩ := h.t.op
  injection he with h1 h2 h3
  rw [h1]
  exact hr.out k (by omega)
set_option maxHeartbeats 8000000 in
set_option maxRecDepth 100000 in
theorem next_any (m : Mch) (I : List PPh) (R : PRule) (s : St) (x : Int) (w : World) (hm : MmOk w m I R) (hs : StOk s) (hl : R.lft.length ≤ 2) (hr : R.rgt.length ≤ 2) (htl : R.tto.length = R.fr.length) :
    Calls Try.prog 50 #[mchV m R.beg R.fin, stV s, .int .i64 x] w fun e w' => (∃ v, e = .returned v ∧ OwnMv w' w.heap.size v (nextM I R s x)) ∧ Below w.heap.size w w' := by
  have HM := Lib.hid hm
  have HSO := Lib.hid hs
  have HL := Lib.hid hl
  have HRL := Lib.hid hr
  have HTL := Lib.hid htl
  obtain ⟨nx, hnx⟩ : ∃ nx, nextM I R s x = nx := ⟨_, rfl⟩
  have HNX0 := Lib.hid hnx
  rw [hnx]
  obtain ⟨beg, hbeg⟩ : ∃ x, R.beg = x := ⟨_, rfl⟩
  obtain ⟨fin, hfin⟩ : ∃ x, R.fin = x := ⟨_, rfl⟩
  have HBEG := Lib.hid hbeg
  have HFIN := Lib.hid hfin
  rw [hbeg, hfin]
  have HREAD := Lib.hid (fun w' h => read_any m I R s x w' h hs hl hr)
  have HOPEN := Lib.hid (fun w' h => open_any m I R s w' h hs hl)
  rw [hbeg, hfin] at HREAD HOPEN
  obtain ⟨ob, hob⟩ : ∃ ob, openB R s = ob := ⟨_, rfl⟩
  have HOB := Lib.hid hob
  rw [hob] at HOPEN
  clear hbeg hfin hm hnx hl hr hs htl hob
  simp only [mchV, mchC, stV, stA] at HREAD HOPEN ⊢
  go_enter Try.func50, Try.ntmps50
  go_upto_region 1 with (fail)
  generalize hW0 : World.alloc (World.alloc w _) _ = W
  have HBW : Hid (Below w.heap.size w W) := by rw [← hW0]; repeat (first | assumption | exact Below.refl _ _ | refine Below.alloc ?_ (by first | omega | (simp; done) | (simp; omega)) _ | refine Below.drew ?_ | refine below_drewN ?_ _ | refine Below.setCell ?_ (by first | omega | (simp; done) | (simp; omega)) _)
  have HP : Hid (MBlk W w.heap.size m beg fin) := by rw [← hW0]; exact MBlk.below (heap_alloc_new w _) (al_below _ _)
  have HSS : Hid (SBlk W (w.heap.size + 1) s) := by
    have h := heap_alloc_new (w.alloc (.cells (mchC m beg fin) 76)) (.cells (stA s) 85)
    rw [World.size_alloc] at h
    rw [← hW0]; exact h
  clear hW0
  obtain ⟨z0, z1, z2, z3, z4, z5, z6, z7, z8, z9, z10⟩ := HP.out.cells
  have zl := HP.out.lt
  obtain ⟨y0, y1, y2, y3, y4, y5⟩ := HSS.out.cells
  have yl := HSS.out.lt
  go_wp2_with fail
  clear z0 z1 z2 z3 z4 z5 z6 z7 z8 z9 z10 zl y0 y1 y2 y3 y4 y5 yl
  refine (HREAD.out _ (HM.out.below HBW.out)).mono ?_
  rintro e w1 ⟨hq, hb1⟩
  have HB1 := Lib.hid (bchain HBW.out hb1)
  have HP1 := Lib.hid (HP.out.below hb1)
  have HS1 := Lib.hid (HSS.out.below hb1)
  clear hb1 HREAD HP HSS HBW
  rcases hq with ⟨b, hb, rfl⟩ | ⟨hno, t, rfl⟩
  · have HNB : Hid (nx = if hasB R.fr x && ob then oweL R b 1 (toF R.fr R.tto x) ++ oweL R b (-1) x else [(x, b)]) := by rw [Hid, ← HNX0.out, nextM, hb, HOB.out]
    clear hb
    simp only [stV, stA]
    obtain ⟨_, z1, _⟩ := HP1.out.cells
    have zl := HP1.out.lt
    go_wp2_with fail
    clear z1 zl
    generalize hW2 : World.alloc w1 _ = W2
    have hb2 : Below w1.heap.size w1 W2 := by rw [← hW2]; exact al_below _ _
    have HBB : Hid (SBlk W2 w1.heap.size b) := by rw [← hW2]; exact heap_alloc_new w1 _
    clear hW2
    obtain ⟨b7, hb7⟩ : ∃ b7, w1.heap.size = b7 := ⟨_, rfl⟩
    have HB2 := Lib.hid (bchain HB1.out hb2)
    have HP2 := Lib.hid (HP1.out.below hb2)
    have HS2 := Lib.hid (HS1.out.below hb2)
    rw [hb7] at HBB ⊢
    clear hb2 hb7 HB1 HP1 HS1
    refine (index_any _ R.fr x _ (HM.out.below HB2.out).f).mono ?_
    rintro e w3 ⟨rfl, rfl⟩
    cases hh : hasB R.fr x
    · have HNX : Hid (nx = [(x, b)]) := by rw [Hid, HNB.out, hh]; rfl
      have hz := idx_none hh
      generalize Lib.idxOf R.fr x = z at hz ⊢
      have d1 : decide (z < 0) = true := by simpa using hz
      obtain ⟨x0, x1, x2, x3, x4, x5⟩ := HBB.out.cells
      have xl := HBB.out.lt
      clear hh hz
      go_wp2_with fail
      go_ret
      refine ⟨⟨_, rfl, ?_⟩, (HB2.out).alloc (HB2.out).size _⟩
      rw [HNX.out]
      exact own_one 95 7 mvC mvC_len _ (x, b) _ (HB2.out).size
    · obtain ⟨kk, hk1, hk2, hk3, _⟩ := idx_to HTL.out hh
      rw [hk1]
      rw [hh, Bool.true_and] at HNB
      have HK3 := Lib.hid hk3
      have HKN : Hid (kk < m.t.n) := by rw [Hid, ← HM.out.len.2.2.1, HTL.out]; exact hk2
      have hkk0 : (0 : Int) ≤ (kk : Int) := by omega
      have d1 : decide ((kk : Int) < 0) = false := by simp
      clear hk1 hk2 hk3 hh
      obtain ⟨z0, z1, z2, z3, z4, z5, z6, z7, z8, z9, z10⟩ := HP2.out.cells
      have zl := HP2.out.lt
      obtain ⟨y0, y1, y2, y3, y4, y5⟩ := HS2.out.cells
      have yl := HS2.out.lt
      go_wp2_with fail
      clear z0 z1 z2 z3 z4 z5 z6 z7 z8 z9 z10 zl y0 y1 y2 y3 y4 y5 yl
      refine (HOPEN.out _ (HM.out.below HB2.out)).mono ?_
      rintro e w4 ⟨rfl, hb4⟩
      have HB4 := Lib.hid (bchain HB2.out hb4)
      have HP4 := Lib.hid (HP2.out.below hb4)
      have HBB4 := Lib.hid (HBB.out.below hb4)
      clear hb4 HP2 HS2 HB2 HBB HOPEN d1
      cases ob
      · have HNX : Hid (nx = [(x, b)]) := by rw [Hid, HNB.out]; rfl
        obtain ⟨x0, x1, x2, x3, x4, x5⟩ := HBB4.out.cells
        have xl := HBB4.out.lt
        go_wp2_with fail
        go_ret
        refine ⟨⟨_, rfl, ?_⟩, (HB4.out).alloc (HB4.out).size _⟩
        rw [HNX.out]
        exact own_one 95 7 mvC mvC_len _ (x, b) _ (HB4.out).size
      · rw [if_pos rfl] at HNB
        obtain ⟨z0, z1, z2, z3, z4, z5, z6, z7, z8, z9, z10⟩ := HP4.out.cells
        have zl := HP4.out.lt
        obtain ⟨x0, x1, x2, x3, x4, x5⟩ := HBB4.out.cells
        have xl := HBB4.out.lt
        go_wp2_with fail
        clear z0 z1 z2 z3 z4 z5 z6 z7 z8 z9 z10 zl x0 x1 x2 x3 x4 x5 xl
        have howe := owe_any m I R b 0 1 w4 (HM.out.below HB4.out) (by omega)
        rw [HBEG.out, HFIN.out] at howe
        refine howe.mono ?_
        clear howe
        rintro e w5 ⟨hq, hb5⟩
        have HB5 := Lib.hid (bchain HB4.out hb5)
        have HP5 := Lib.hid (HP4.out.below hb5)
        have HBB5 := Lib.hid (HBB4.out.below hb5)
        clear hb5 HP4 HB4 HBB4
        rcases hq with ⟨t1, ht, rfl⟩ | ⟨hno, t1, rfl⟩
        · have HL1 : Hid (oweL R b 1 (toF R.fr R.tto x) = [(toF R.fr R.tto x, t1)]) := by rw [Hid, oweL, ht]
          clear ht
          simp only [stV, stA]
          obtain ⟨tt, htt⟩ : ∃ tt, toF R.fr R.tto x = tt := ⟨_, rfl⟩
          rw [htt] at HL1 HNB HK3
          clear htt
          obtain ⟨b2, o2, t', he2, hb2, hd2, hc2⟩ := (HM.out.below HB5.out).tAt HKN.out
          obtain rfl : t' = tt := by rw [← HK3.out, getD_at hd2.out]
          have HC2 : Hid (w5.cell? ⟨b2, o2 + kk, none⟩ = some (.int .i64 t') ∧ b2 < w5.heap.size) := ⟨hc2, hb2⟩
          have HE2 := Lib.hid he2
          clear he2 hb2 hd2 hc2 HK3
          go_upto_region 10 with (fail)
          generalize hW6 : World.alloc w5 _ = W6
          have hb6 : Below w5.heap.size w5 W6 := by rw [← hW6]; exact al_below _ _
          have HT6 : Hid (SBlk W6 w5.heap.size t1) := by rw [← hW6]; exact heap_alloc_new w5 _
          have HB6 := Lib.hid (bchain HB5.out hb6)
          have HX6 := Lib.hid hb6
          clear hW6 hb6
          refine wp_region_ord 8 [1, 2, 3, 4, 5, 6, 7] [0] [0, 1, 2, 3, 4, 5, 6, 7] [8, 9, 10, 11] (fun w' => Below W6.heap.size W6 w') (by kernel_rfl) (by kernel_rfl) ?_
          rintro Z hZ
          have HSZ : Hid (Below W6.heap.size W6 Z) := by rw [hZ]; exact (Below.refl _ _).drew
          clear hZ
          refine ⟨HSZ.out, ?_⟩
          have HS : Hid (∀ w' : World, Below W6.heap.size W6 w' → (w'.cell? ⟨w.heap.size, 2, none⟩ = some (.slice (some ⟨b2, o2, none⟩) m.t.n m.t.c) ∧ w'.cell? ⟨b2, o2 + kk, none⟩ = some (.int .i64 t')) ∧ w'.cell? ⟨w5.heap.size, 0, none⟩ = some (.int .i64 t1.cnt) ∧ w'.cell? ⟨w5.heap.size, 1, none⟩ = some (.int .u8 t1.near) ∧ w'.cell? ⟨w5.heap.size, 2, none⟩ = some (.int .u8 t1.far) ∧ w'.cell? ⟨w5.heap.size, 3, none⟩ = some (.int .i8 t1.o0) ∧ w'.cell? ⟨w5.heap.size, 4, none⟩ = some (.int .i8 t1.o1) ∧ w'.cell? ⟨w5.heap.size, 5, none⟩ = some (.int .i8 t1.o2)) := by
            intro w' h
            have h5 := bchain HX6.out h
            obtain ⟨_, _, r2, _⟩ := (HP5.out.below h5).cells
            rw [HE2.out] at r2
            exact ⟨⟨r2, (h5.cell (p := ⟨b2, o2 + kk, none⟩) HC2.out.2).trans HC2.out.1⟩, (HT6.out.below h).cells⟩
          have hkn := HKN.out
          iterate 8 (refine wpHead_cons (v := ?_) rfl rfl (fun w' hS => ?_) ?_; rotate_left; (focus ((try obtain ⟨⟨s0, s1⟩, s2, s3, s4, s5, s6, s7⟩ := HS.out _ (hS rfl)); clear hS; go_simp; try with_reducible rfl; done)); (try simp only [Act.put, List.setIfInBounds_toArray, List.set_cons_zero, List.set_cons_succ]))
          clear hkk0 hkn
          refine wpHead_nil ?_
          refine wpTail_rest 8 rfl ?_
          simp only [List.drop_succ_cons, List.drop_zero]
          have hzz : Z.heap.size ≤ Z.heap.size := Nat.le_refl _
          have hz0 : 0 ≤ 1000000 := by decide
          go_wp2_with (at_builtin; refine wpList_app_row 92 95 7 24 _ mvC Try.underlying92 infoMv rfl (by decide) (by decide) mvC_len mvC_one rfl (.tmp 48) (.tmp 57) rfl Z.heap.size (.slice none 0 0) [] rfl (World.ownsRow_nil _ _ _ _) (t', t1) 0 (Lib.hid rfl) hz0 hzz rfl ?_; intro g7 c7 w7 ho7 hgg7 hg7; have HO7 : Hid (OwnMv w7 Z.heap.size (.slice (some ⟨g7, 0, none⟩) 1 c7) [(t', t1)]) := ho7; have HG7 := Lib.hid hg7; clear ho7 hgg7 hg7)
          clear hzz
          refine NoPanic.normal ?_
          have HB7 : Hid (Below w.heap.size w w7) := (bchain HB6.out HSZ.out).grown HG7.out (bchain HB6.out HSZ.out).size (fun j hj => by cases hj)
          have hb57 : Below w5.heap.size w5 w7 := (bchain HX6.out HSZ.out).grown HG7.out (bchain HX6.out HSZ.out).size (fun j hj => by cases hj)
          have HP7 := Lib.hid (HP5.out.below hb57)
          have HBB7 := Lib.hid (HBB5.out.below hb57)
          have hbs : Z.heap.size ≤ w7.heap.size := HG7.out.size
          have HBS := Lib.hid hbs
          have HBD : w.heap.size ≤ Z.heap.size := (bchain HB6.out HSZ.out).size
          have HNX2 : Hid (nx = [(t', t1)] ++ oweL R b (-1) x) := by rw [Hid, HNB.out, HL1.out]
          clear hb57 HB5 HP5 HBB5 HG7 HC2 HE2 HX6 HT6 HB6 HSZ HS HNB HL1 hbs
          obtain ⟨z0, z1, z2, z3, z4, z5, z6, z7, z8, z9, z10⟩ := (HP7).out.cells
          have zl := (HP7).out.lt
          obtain ⟨x0, x1, x2, x3, x4, x5⟩ := (HBB7).out.cells
          have xl := (HBB7).out.lt
          go_wp2_with fail
          clear z0 z1 z2 z3 z4 z5 z6 z7 z8 z9 z10 zl x0 x1 x2 x3 x4 x5 xl
          have howe := owe_any m I R b 0 (-1) w7 (HM.out.below (HB7).out) (by omega)
          rw [HBEG.out, HFIN.out] at howe
          refine howe.mono ?_
          clear howe
          rintro e w8 ⟨hq, hb8⟩
          have HB8 := Lib.hid (bchain (HB7).out hb8)
          have HO8 : Hid (OwnMv w8 (Z.heap.size) (.slice (some ⟨g7, 0, none⟩) 1 c7) [(t', t1)]) := own_below HO7.out hb8
          have hbs : Z.heap.size ≤ w8.heap.size := Nat.le_trans HBS.out hb8.size
          clear hb8 HO7 HBS HB7 HP7 HBB7
          rcases hq with ⟨t2, ht2, rfl⟩ | ⟨hno2, t2, rfl⟩
          · have HNX : Hid (nx = [(t', t1)] ++ [(x, t2)]) := by rw [Hid, HNX2.out]; congr 1; rw [oweL, ht2]
            clear ht2 HNX2
            simp only [stV, stA]
            go_upto_region 13 with (fail)
            generalize hW9 : World.alloc w8 _ = w9
            have hb9 : Below w8.heap.size w8 w9 := by rw [← hW9]; exact al_below _ _
            have HT9 : Hid (SBlk w9 w8.heap.size t2) := by rw [← hW9]; exact heap_alloc_new w8 _
            have HB9 := Lib.hid (bchain HB8.out hb9)
            have HO9 : Hid (OwnMv w9 (Z.heap.size) (.slice (some ⟨g7, 0, none⟩) 1 c7) [(t', t1)]) := own_below HO8.out hb9
            have hbs9 : Z.heap.size ≤ w9.heap.size := Nat.le_trans hbs hb9.size
            obtain ⟨x0, x1, x2, x3, x4, x5⟩ := HT9.out.cells
            have xl := HT9.out.lt
            have hz0 : 1 ≤ 1000000 := by decide
            clear hW9 hb9 HB8 HO8 hbs
            go_wp2_with (at_builtin; refine wpList_app_row 92 95 7 24 _ mvC Try.underlying92 infoMv rfl (by decide) (by decide) mvC_len mvC_one rfl (.tmp 66) (.tmp 70) rfl (Z.heap.size) (.slice (some ⟨g7, 0, none⟩) 1 c7) [(t', t1)] rfl HO9.out (x, t2) 1 (Lib.hid rfl) hz0 hbs9 rfl ?_; intro ga ca wa hoa hga hgra; have HOA : Hid (OwnMv wa (Z.heap.size) (.slice (some ⟨ga, 0, none⟩) (1 + 1) ca) ([(t', t1)] ++ [(x, t2)])) := hoa; have HGA := Lib.hid hgra; clear hoa hga hgra)
            go_ret
            refine ⟨⟨_, rfl, ?_⟩, HB9.out.grown HGA.out HB9.out.size (fun j hj => Nat.le_trans HBD (World.ownsRow.lt HO9.out j hj).1)⟩
            rw [HNX.out]
            exact own_base HOA.out HBD
          · have HNX : Hid (nx = [(t', t1)]) := by rw [Hid, HNX2.out, oweL, hno2]; simp
            clear hno2 HNX2
            simp only [stV, stA]
            go_wp2_with fail
            go_ret
            refine ⟨⟨_, rfl, ?_⟩, HB8.out.alloc HB8.out.size _⟩
            rw [HNX.out]
            exact own_base (own_below HO8.out (al_below w8 _)) HBD
        · have HL1 : Hid (oweL R b 1 (toF R.fr R.tto x) = []) := by rw [Hid, oweL, hno]
          clear hno
          simp only [stV, stA]
          have HNX2 : Hid (nx = [] ++ oweL R b (-1) x) := by rw [Hid, HNB.out, HL1.out]
          clear HNB HL1 HK3 hkk0
          go_upto_region 11 with (fail)
          generalize hW6 : World.alloc w5 _ = w7
          have hb6 : Below w5.heap.size w5 w7 := by rw [← hW6]; exact al_below _ _
          have HB7 := Lib.hid (bchain HB5.out hb6)
          have HP7 := Lib.hid (HP5.out.below hb6)
          have HBB7 := Lib.hid (HBB5.out.below hb6)
          clear hW6 hb6 HB5 HP5 HBB5
          have HO7 : Hid (OwnMv w7 w7.heap.size (.slice none 0 0) []) := World.ownsRow_nil _ _ _ _
          have HBS : Hid (w7.heap.size ≤ w7.heap.size) := Nat.le_refl _
          have HBD : w.heap.size ≤ w7.heap.size := HB7.out.size
          obtain ⟨z0, z1, z2, z3, z4, z5, z6, z7, z8, z9, z10⟩ := (HP7).out.cells
          have zl := (HP7).out.lt
          obtain ⟨x0, x1, x2, x3, x4, x5⟩ := (HBB7).out.cells
          have xl := (HBB7).out.lt
          go_wp2_with fail
          clear z0 z1 z2 z3 z4 z5 z6 z7 z8 z9 z10 zl x0 x1 x2 x3 x4 x5 xl
          have howe := owe_any m I R b 0 (-1) w7 (HM.out.below (HB7).out) (by omega)
          rw [HBEG.out, HFIN.out] at howe
          refine howe.mono ?_
          clear howe
          rintro e w8 ⟨hq, hb8⟩
          have HB8 := Lib.hid (bchain (HB7).out hb8)
          have HO8 : Hid (OwnMv w8 (w7.heap.size) (.slice none 0 0) []) := own_below HO7.out hb8
          have hbs : w7.heap.size ≤ w8.heap.size := Nat.le_trans HBS.out hb8.size
          clear hb8 HO7 HBS HB7 HP7 HBB7
          rcases hq with ⟨t2, ht2, rfl⟩ | ⟨hno2, t2, rfl⟩
          · have HNX : Hid (nx = [] ++ [(x, t2)]) := by rw [Hid, HNX2.out]; congr 1; rw [oweL, ht2]
            clear ht2 HNX2
            simp only [stV, stA]
            go_upto_region 13 with (fail)
            generalize hW9 : World.alloc w8 _ = w9
            have hb9 : Below w8.heap.size w8 w9 := by rw [← hW9]; exact al_below _ _
            have HT9 : Hid (SBlk w9 w8.heap.size t2) := by rw [← hW9]; exact heap_alloc_new w8 _
            have HB9 := Lib.hid (bchain HB8.out hb9)
            have HO9 : Hid (OwnMv w9 (w7.heap.size) (.slice none 0 0) []) := own_below HO8.out hb9
            have hbs9 : w7.heap.size ≤ w9.heap.size := Nat.le_trans hbs hb9.size
            obtain ⟨x0, x1, x2, x3, x4, x5⟩ := HT9.out.cells
            have xl := HT9.out.lt
            have hz0 : 0 ≤ 1000000 := by decide
            clear hW9 hb9 HB8 HO8 hbs
            go_wp2_with (at_builtin; refine wpList_app_row 92 95 7 24 _ mvC Try.underlying92 infoMv rfl (by decide) (by decide) mvC_len mvC_one rfl (.tmp 66) (.tmp 70) rfl (w7.heap.size) (.slice none 0 0) [] rfl HO9.out (x, t2) 0 (Lib.hid rfl) hz0 hbs9 rfl ?_; intro ga ca wa hoa hga hgra; have HOA : Hid (OwnMv wa (w7.heap.size) (.slice (some ⟨ga, 0, none⟩) (0 + 1) ca) ([] ++ [(x, t2)])) := hoa; have HGA := Lib.hid hgra; clear hoa hga hgra)
            go_ret
            refine ⟨⟨_, rfl, ?_⟩, HB9.out.grown HGA.out HB9.out.size (fun j hj => Nat.le_trans HBD (World.ownsRow.lt HO9.out j hj).1)⟩
            rw [HNX.out]
            exact own_base HOA.out HBD
          · have HNX : Hid (nx = []) := by rw [Hid, HNX2.out, oweL, hno2]; simp
            clear hno2 HNX2
            simp only [stV, stA]
            go_wp2_with fail
            go_ret
            refine ⟨⟨_, rfl, ?_⟩, HB8.out.alloc HB8.out.size _⟩
            rw [HNX.out]
            exact own_base (own_below HO8.out (al_below w8 _)) HBD
  · have HNX : Hid (nx = []) := by rw [Hid, ← HNX0.out, nextM, hno]
    clear hno
    simp only [stV, stA]
    go_wp2_with fail
    go_ret
    exact ⟨⟨_, rfl, by rw [HNX.out]; exact World.ownsRow_nil _ _ _ _⟩, HB1.out.alloc HB1.out.size _⟩
end Go.Proofs.Ytdijlakeonionaa
