/-
  The way of an entry: the iterator.
-/
import Derived.Test.YtnjniganlielcaaV2
import Derived.Test.YtnjniganlielcaaRB
namespace Go.Proofs.Ytnjniganlielcaa
open Go.ChangeShapes Go.WideShapes Go.ChangeAt Go.RowKit Go.Shelf
attribute [local go_sem] Oper.semAt_some
/-- the way of an entry, at most k entries long -/
def wayL (L : List EV) : Nat → Int → List EV
  | 0, _ => []
  | k + 1, id => match getE L id with
    | none => []
    | some e => e :: if e.main = 0 then [] else wayL L k e.main
abbrev VE (L : List EV) := { e : EV // e ∈ L }
/-- what a round keeps for the iterator -/
def KW (n₀ Bl Bi m : Nat) (W W' : World) : Prop := Below n₀ W W' ∧ ∀ k, k < W.heap.size → (k = Bl ∨ k = Bi ∨ m ≤ k) → W'.heap[k]? = W.heap[k]?
theorem KW.refl (n₀ Bl Bi m : Nat) (W : World) : KW n₀ Bl Bi m W W := ⟨Below.refl _ _, fun _ _ _ => rfl⟩
theorem KW.tr {n₀ Bl Bi m : Nat} {A B C : World} (h : KW n₀ Bl Bi m A B) (k : KW n₀ Bl Bi m B C) : KW n₀ Bl Bi m A C :=
  ⟨h.1.trans k.1, fun i hl hi => (k.2 i (Nat.lt_of_lt_of_le hl h.1.size) hi).trans (h.2 i hl hi)⟩
theorem KW.alloc {n₀ Bl Bi m : Nat} {A W : World} (h : KW n₀ Bl Bi m A W) (hn : n₀ ≤ A.heap.size) (o : Obj) : KW n₀ Bl Bi m A (W.alloc o) :=
  ⟨h.1.alloc (Nat.le_trans hn h.1.size) o, fun k hl hk => (Below.heap_alloc W o k (Nat.lt_of_lt_of_le hl h.1.size)).trans (h.2 k hl hk)⟩
theorem KW.call {n₀ Bl Bi m : Nat} {A W W' : World} (h : KW n₀ Bl Bi m A W) (hn : n₀ ≤ A.heap.size) (hb : Below W.heap.size W W') : KW n₀ Bl Bi m A W' :=
  ⟨h.1.trans (hb.mono (Nat.le_trans hn h.1.size)), fun k hl hk => (hb.block k (Nat.lt_of_lt_of_le hl h.1.size)).trans (h.2 k hl hk)⟩
theorem KW.set {n₀ Bl Bi m : Nat} {A W : World} (h : KW n₀ Bl Bi m A W) (B : Nat) (hB : n₀ ≤ B) (h1 : B ≠ Bl) (h2 : B ≠ Bi) (h3 : B < m) (j : Nat) (u : Value) : KW n₀ Bl Bi m A (W.setCell ⟨B, j, none⟩ u) :=
  ⟨h.1.setCell (p := ⟨B, j, none⟩) hB u, fun k hl hk => (Below.heap_setCell W ⟨B, j, none⟩ u k (by show k ≠ B; omega)).trans (h.2 k hl hk)⟩
theorem KW.put {n₀ Bl Bi m : Nat} {W : World} (L : Nat) (hB : n₀ ≤ L) (h1 : L ≠ Bl) (h2 : L ≠ Bi) (h3 : L < m) (r r' : Loop) (_ : W.heap[L]? = some (.loop r)) : KW n₀ Bl Bi m W (W.putObj L (.loop r')) :=
  ⟨(Below.refl n₀ W).grown (grownBy_putObj' W L _) (by have := (Array.getElem?_eq_some_iff.1 ‹W.heap[L]? = _›).1; omega) (fun k e => by cases e; exact hB), fun k _ hk => World.putObj_heap_other (by omega)⟩
theorem way_any (A : Option Addr) (n c : Nat) (id : Int) (w : World) :
    Calls Try.prog 39 #[.slice A n c, .int .i64 id] w fun e w' => e = .returned (.func (.func 49) #[] #[.pointer (some ⟨w.heap.size, 0, none⟩), .pointer (some ⟨w.heap.size + 1, 0, none⟩)]) ∧
      w' = (w.alloc (.cells #[.slice A n c] 22)).alloc (.cells #[.int .i64 id] 3) := by
  go_enter Try.func39, Try.ntmps39
  go_wp2_with fail
  go_ret
  exact ⟨rfl, rfl⟩
set_option maxHeartbeats 2000000 in
set_option maxRecDepth 100000 in
theorem way1_in (n : Nat) (hn : 1 ≤ n) (l Bl Bi n₀ m : Nat) (L : List EV) (A : Option Addr) (nn c : Nat) (id0 : Int) (J Jx : List (VE L) → World → Prop) (w0 W : World)
    (hJ : Stays (fun k => k = Bi) J)
    (hY : ∀ pre x W1, J pre W1 → pre.length < L.length + 1 → YieldAt Fence.wide (n - 1) Try.prog l #[.agg #[.int .i64 x.1.id, .slice x.1.f.A x.1.f.n x.1.f.c, .int .i64 x.1.cls, .slice x.1.a.A x.1.a.n x.1.a.c, .int .i64 x.1.main, .slice x.1.s.A x.1.s.n x.1.s.c, .slice x.1.l.A x.1.l.n x.1.l.c, .slice x.1.r.A x.1.r.n x.1.r.c]] W1 fun e W' =>
      (e = .returned (.bool true) ∧ J (pre ++ [x]) W' ∧ KW n₀ Bl Bi m W1 W') ∨ (e = .returned (.bool false) ∧ Jx (pre ++ [x]) W'))
    (hw0 : w0.heap.size ≤ n₀) (hWw : Below w0.heap.size w0 W) (hl1 : n₀ ≤ Bl) (hi1 : n₀ ≤ Bi) (hne : Bl ≠ Bi) (hl2 : Boxed W Bl 22 (.slice A nn c)) (hi2 : Boxed W Bi 3 (.int .i64 id0)) (hm : W.heap.size = m) (hv : RdV w0 (.slice A nn c) L) (hlen : nn ≤ 1000000) (h0 : J [] W) :
    CallsIn Fence.wide n Try.prog 49 #[.func (.yield l) #[] #[], .pointer (some ⟨Bl, 0, none⟩), .pointer (some ⟨Bi, 0, none⟩)] W fun e W' => (∃ v, e = .returned v) ∧
      ((∃ ys, ys.map Subtype.val = wayL L (L.length + 1) id0 ∧ J ys W') ∨ (∃ pre, pre.map Subtype.val <+: wayL L (L.length + 1) id0 ∧ Jx pre W')) := by
  obtain ⟨A', k', c', he, h1, h2, HN, HR⟩ := hv.op
  cases he
  have HV := Lib.hid hv
  clear hv HR
  refine callsIn_of_wp Try.func49 rfl trivial ?_ rfl
  simp only [Try.ntmps49, List.size_toArray, List.length_cons, List.length_nil, Nat.reduceAdd, Nat.reduceSub, Array.replicate_succ, Array.replicate_zero, List.push_toArray, List.append_toArray, List.nil_append, List.cons_append]
  have cl := hl2.cell
  have ll := hl2.lt
  have HL2 := Lib.hid hl2
  have HI2 := Lib.hid hi2
  have HM := Lib.hid hm
  clear hl2 hi2 hm
  gi_wp2
  gi_loopw [9] (fun i wr => ∃ (j : Nat) (pre : List (VE L)) (id : Int), j ≤ nn + 1 ∧ i = .int .i64 j ∧ Hid (wayL L (L.length + 1) id0 = pre.map Subtype.val ++ wayL L (nn + 1 - j) id) ∧ Hid (pre.length = j) ∧ J pre wr ∧ Hid (Below n₀ W wr) ∧ Hid (Boxed wr Bl 22 (.slice A nn c)) ∧ Hid (Boxed wr Bi 3 (.int .i64 id))) (fun i _ => nn + 1 - (intOf i).toNat)
  case atStart => exact ⟨0, [], id0, Nat.zero_le _, rfl, by rw [Hid, HN.out]; rfl, rfl, h0, Below.refl _ _, HL2.out, HI2.out⟩
  case round =>
    obtain ⟨j, pre, id, hj, rfl, HPRE, HLEN, hJs, HB, HBL, HBI⟩ := hrel
    have HJ := Lib.hid hJs
    clear hJs cl ll
    have cl := HBL.out.cell
    have ci := HBI.out.cell
    have ll := HBL.out.lt
    have li := HBI.out.lt
    by_cases hlt : j < nn + 1
    · rcases hg : getE L id with _ | e
      · have HG : Hid (getV L id = .tuple #[.agg #[.int .i64 evz.id, .slice evz.f.A evz.f.n evz.f.c, .int .i64 evz.cls, .slice evz.a.A evz.a.n evz.a.c, .int .i64 evz.main, .slice evz.s.A evz.s.n evz.s.c, .slice evz.l.A evz.l.n evz.l.c, .slice evz.r.A evz.r.n evz.r.c], .bool false]) := by rw [Hid, getV, hg]; rfl
        have HW : Hid (wayL L (L.length + 1) id0 = pre.map Subtype.val) := by
          rw [Hid, HPRE.out, show nn + 1 - j = (nn - j) + 1 by omega, wayL, hg]; simp
        clear hg
        gi_wp2_with fail
        refine ⟨trivial, ?_⟩
        refine (callsIn_wide.2 (get_any _ L id _ (HV.out.below (hWw.trans (HB.out.mono hw0))))).mono ?_
        rintro e w2 ⟨rfl, hb⟩
        rw [HG.out]
        gi_wp2_with fail
        refine ⟨fun _ h => (by cases h), ?_⟩
        gi_wp2
        refine bodyPost_ret (results_none rfl _ _ _) rfl ?_
        exact ⟨⟨_, rfl⟩, .inl ⟨pre, HW.out.symm, hJ.new (hJ.call HJ.out hb) _⟩⟩
      · have HG : Hid (getV L id = .tuple #[.agg #[.int .i64 e.id, .slice e.f.A e.f.n e.f.c, .int .i64 e.cls, .slice e.a.A e.a.n e.a.c, .int .i64 e.main, .slice e.s.A e.s.n e.s.c, .slice e.l.A e.l.n e.l.c, .slice e.r.A e.r.n e.r.c], .bool true]) := by rw [Hid, getV, hg]; rfl
        have HMEM := Lib.hid (getE_mem hg)
        have HW : Hid (wayL L (L.length + 1) id0 = pre.map Subtype.val ++ e :: if e.main = 0 then [] else wayL L (nn + 1 - (j + 1)) e.main) := by
          rw [Hid, HPRE.out, show nn + 1 - j = (nn + 1 - (j + 1)) + 1 by omega, wayL, hg]
        clear hg
        gi_wp2_with fail
        refine ⟨trivial, ?_⟩
        refine (callsIn_wide.2 (get_any _ L id _ (HV.out.below (hWw.trans (HB.out.mono hw0))))).mono ?_
        rintro e' w2 ⟨rfl, hb⟩
        rw [HG.out]
        have HB2 := Lib.hid hb
        clear hb
        obtain ⟨fn, tmps, assign, body, hy, hR⟩ := hY pre ⟨e, HMEM.out⟩ (w2.alloc (.cells #[.int .i64 e.id, .slice e.f.A e.f.n e.f.c, .int .i64 e.cls, .slice e.a.A e.a.n e.a.c, .int .i64 e.main, .slice e.s.A e.s.n e.s.c, .slice e.l.A e.l.n e.l.c, .slice e.r.A e.r.n e.r.c] 34)) (hJ.new (hJ.call HJ.out HB2.out) _) (by rw [HLEN.out, HN.out]; exact hlt)
        dsimp only at hy
        gi_wp2_with fail
        refine hR.mono ?_
        rintro e' W3 (⟨rfl, hJ3, hk3⟩ | ⟨rfl, hJx3⟩)
        · have HJ3 := Lib.hid hJ3
          have HK3 := Lib.hid hk3
          clear hJ3 hk3 cl ci ll li
          have hwm : m ≤ w2.heap.size := by have := HB.out.size; have := HB2.out.size; have := HM.out; omega
          have HBLK : Hid (EBlk W3 w2.heap.size e) := (HK3.out.2 _ (by simp) (.inr (.inr hwm))).trans (heap_alloc_new w2 _)
          have HBL3 : Hid (Boxed W3 Bl 22 (.slice A nn c)) := by
            have h1 : Boxed w2 Bl _ _ := (HB2.out.block _ HBL.out.lt).trans HBL.out
            exact (HK3.out.2 _ (by have := h1.lt; simp; omega) (.inl rfl)).trans (h1.alloc _)
          have HBI3 : Hid (Boxed W3 Bi 3 (.int .i64 id)) := by
            have h1 : Boxed w2 Bi _ _ := (HB2.out.block _ HBI.out.lt).trans HBI.out
            exact (HK3.out.2 _ (by have := h1.lt; simp; omega) (.inr (.inl rfl))).trans (h1.alloc _)
          have hnw : n₀ ≤ wr.heap.size := by have := HBL.out.lt; omega
          have HB3 : Hid (Below n₀ W W3) := ((HB.out.trans (HB2.out.mono hnw)).alloc (by have := HB2.out.size; omega) _).trans HK3.out.1
          obtain ⟨z0, z1, z2, z3, z4, z5, z6, z7, zl⟩ := HBLK.out.facts
          have ci := HBI3.out.cell
          have fi := HBI3.out.frozen
          have li := HBI3.out.lt
          clear hnw hwm
          by_cases hz : e.main = 0
          · have hb0 : (e.main == 0) = true := by simpa using hz
            have HW2 : Hid (wayL L (L.length + 1) id0 = (pre ++ [(⟨e, HMEM.out⟩ : VE L)]).map Subtype.val) := by rw [Hid, HW.out, if_pos hz]; simp
            clear hz
            gi_wp2
            refine bodyPost_ret (results_none rfl _ _ _) rfl ?_
            exact ⟨⟨_, rfl⟩, .inl ⟨_, HW2.out.symm, HJ3.out⟩⟩
          · have hb0 : (e.main == 0) = false := by simpa using hz
            have HW2 : Hid (wayL L (L.length + 1) id0 = (pre ++ [(⟨e, HMEM.out⟩ : VE L)]).map Subtype.val ++ wayL L (nn + 1 - (j + 1)) e.main) := by rw [Hid, HW.out, if_neg hz]; simp
            clear hz
            gi_wp2
            go_roundw
            case rel => exact ⟨j + 1, pre ++ [(⟨e, HMEM.out⟩ : VE L)], e.main, by omega, by go_num, HW2, by rw [Hid]; simp [HLEN.out], hJ.set HJ3.out rfl _, HB3.out.setCell (p := ⟨Bi, 0, none⟩) hi1 _, HBL3.out.other hne _, HBI3.out.set _⟩
            case measure => simp [intOf]; omega
        · have HJX := Lib.hid hJx3
          clear hJx3
          gi_wp2
          refine bodyPost_ret (results_none rfl _ _ _) rfl ?_
          refine ⟨⟨_, rfl⟩, .inr ⟨pre ++ [⟨e, HMEM.out⟩], ?_, HJX.out⟩⟩
          rw [List.map_append, HW.out]
          exact ⟨_, by rw [List.append_assoc]; rfl⟩
    · gi_wp2
      go_end0
      refine ⟨⟨_, rfl⟩, .inl ⟨pre, ?_, HJ.out⟩⟩
      rw [HPRE.out, show nn + 1 - j = 0 by omega]
      simp [wayL]
theorem way_stops (n : Nat) (hn : 1 ≤ n) (Bl Bi n₀ : Nat) (L : List EV) (A : Option Addr) (nn c : Nat) (id0 : Int) (w0 w : World) (hw0 : w0.heap.size ≤ n₀) (hWw : Below w0.heap.size w0 w) (hl1 : n₀ ≤ Bl) (hi1 : n₀ ≤ Bi) (hne : Bl ≠ Bi)
    (hl2 : Boxed w Bl 22 (.slice A nn c)) (hi2 : Boxed w Bi 3 (.int .i64 id0)) (hv : RdV w0 (.slice A nn c) L) (hlen : nn ≤ 1000000) :
    SeqBox Fence.wide n Try.prog 49 #[.pointer (some ⟨Bl, 0, none⟩), .pointer (some ⟨Bi, 0, none⟩)] (fun x : VE L => #[.agg #[.int .i64 x.1.id, .slice x.1.f.A x.1.f.n x.1.f.c, .int .i64 x.1.cls, .slice x.1.a.A x.1.a.n x.1.a.c, .int .i64 x.1.main, .slice x.1.s.A x.1.s.n x.1.s.c, .slice x.1.l.A x.1.l.n x.1.l.c, .slice x.1.r.A x.1.r.n x.1.r.c]]) Bi (KW n₀ Bl Bi (w.heap.size + 2))
      (fun ys => ys.map Subtype.val = wayL L (L.length + 1) id0) (fun pre => pre.map Subtype.val <+: wayL L (L.length + 1) id0) (L.length + 1) w :=
  fun l J Jx W hW hz hJ hY h0 => way1_in n hn l Bl Bi n₀ (w.heap.size + 2) L A nn c id0 J Jx w0 W hJ hY hw0 (hWw.trans (hW.mono hWw.size)) hl1 hi1 hne ((hW.block _ hl2.lt).trans hl2) ((hW.block _ hi2.lt).trans hi2) hz hv hlen h0
end Go.Proofs.Ytnjniganlielcaa
