/-
  newMachine; what Compile holds while it runs.
-/
import Derived.Test.YtdijlakeonionaaQ22
import Derived.Test.YtdijlakeonionaaQ18
import Derived.Test.YtdijlakeonionaaQ19
import Derived.Test.YtdijlakeonionaaRegS
namespace Go.Proofs.Ytdijlakeonionaa
open Go.ChangeShapes Go.WideShapes Go.ChangeAt Go.RowKit
/-- a move in a box of its own -/
def MvBlk (w : World) (B : Nat) (p : Int × St) : Prop := w.heap[B]? = some (.cells #[.int .i64 p.1, .int .i64 p.2.cnt, .int .u8 p.2.near, .int .u8 p.2.far, .int .i8 p.2.o0, .int .i8 p.2.o1, .int .i8 p.2.o2] 95 (0, 0))
theorem MvBlk.lt {w : World} {B : Nat} {p : Int × St} (h : MvBlk w B p) : B < w.heap.size := (Array.getElem?_eq_some_iff.1 h).1
theorem MvBlk.below {w w' : World} {B : Nat} {p : Int × St} (h : MvBlk w B p) (hb : Below w.heap.size w w') : MvBlk w' B p := (hb.block B h.lt).trans h
theorem MvBlk.cells {w : World} {B : Nat} {p : Int × St} (h : MvBlk w B p) : w.cell? ⟨B, 0, none⟩ = some (.int .i64 p.1) ∧ w.cell? ⟨B, 1, none⟩ = some (.int .i64 p.2.cnt) ∧ w.cell? ⟨B, 2, none⟩ = some (.int .u8 p.2.near) ∧ w.cell? ⟨B, 3, none⟩ = some (.int .u8 p.2.far) ∧ w.cell? ⟨B, 4, none⟩ = some (.int .i8 p.2.o0) ∧ w.cell? ⟨B, 5, none⟩ = some (.int .i8 p.2.o1) ∧ w.cell? ⟨B, 6, none⟩ = some (.int .i8 p.2.o2) := by
  refine ⟨?_, ?_, ?_, ?_, ?_, ?_, ?_⟩ <;> rw [cell_of_row w B _ _ _ (0, 0) h] <;> rfl
theorem good_fin {F : PFst} (h : Good F) : FinOk F :=
  ⟨h.right, ⟨fun a ha => ⟨(h.arc a ha).1.1, (h.arc a ha).1.2, (h.arc a ha).2.1.1, (h.arc a ha).2.1.2, (h.arc a ha).2.2.2.1⟩⟩, h.ord, h.s2, h.len, fun a ha => (h.arc a ha).2.2.2.2⟩
/-- the arcs of the states below i, of the segments below g at i, of the first k moves of the next one -/
def Tk (I : List PPh) (R : PRule) (L : List St) (i g : Nat) (ms : List (Int × St)) (k : Nat) : List Trip := tripT I R L i ++ rowT I R L i g ++ (ms.take k).map fun x => (i, (g : Int) + 1, x)
theorem Tk_app (I : List PPh) (R : PRule) {L : List St} (r : List St) {i : Nat} (h : i < L.length) (g : Nat) (ms : List (Int × St)) (k : Nat) : Tk I R (L ++ r) i g ms k = Tk I R L i g ms k := by
  rw [Tk, Tk, tripT_app I R r (Nat.le_of_lt h), rowT_app I R r h]
theorem Tk_succ (I : List PPh) (R : PRule) (L : List St) (i g : Nat) {ms : List (Int × St)} {k : Nat} {p : Int × St} (h : ms.drop k = p :: ms.drop (k + 1)) : Tk I R L i g ms (k + 1) = Tk I R L i g ms k ++ [(i, (g : Int) + 1, p)] := by
  have hk : k < ms.length := by
    rcases Nat.lt_or_ge k ms.length with h1 | h1
    · exact h1
    · rw [List.drop_of_length_le h1] at h; cases h
  rw [List.drop_eq_getElem_cons hk] at h
  rw [Tk, Tk, List.take_succ_eq_append_getElem hk, (List.cons.inj h).1]
  simp
theorem Tk_zero (I : List PPh) (R : PRule) (L : List St) (i g : Nat) (ms : List (Int × St)) : Tk I R L i g ms 0 = tripT I R L i ++ rowT I R L i g := by simp [Tk]
theorem Tk_full (I : List PPh) (R : PRule) (L : List St) (i g : Nat) {ms : List (Int × St)} (h : nextM I R (L.getD i St.zero) ((g : Int) + 1) = ms) : Tk I R L i g ms ms.length = tripT I R L i ++ rowT I R L i (g + 1) := by
  rw [Tk, List.take_length, rowT_succ, mvsT, h, List.append_assoc]
theorem Tk_len {I : List PPh} (R : PRule) {L : List St} {i g : Nat} {ms : List (Int × St)} (k : Nat) (hI : I.length ≤ 60) (hi : i ≤ 864) (hg : g ≤ 60) (hm : ms.length ≤ 2) : (Tk I R L i g ms k).length ≤ 200000 := by
  have h1 := tripT_len I R L i
  have h2 := rowT_len I R L i g
  have h3 : i * (I.length * 2) ≤ 864 * 120 := Nat.mul_le_mul hi (by omega)
  rw [Tk, List.length_append, List.length_append, List.length_map, List.length_take]
  omega
theorem CI.grow {L : List St} {T : List Trip} (h : CI L T) {s : St} (hs : s ∉ L) (ho : StOk s) : CI (L ++ [s]) T := by
  have := (h.new (t := (0, 0, 0, s)) hs ho)
  exact ⟨this.nd, this.z, this.ok, fun t ht => List.mem_append_left _ (h.tin t ht)⟩
/-- what Compile holds: the list of states, their numbers, the transducer -/
structure CW (w4 w : World) (bm bt : Nat) (v8 va vf : Value) (L : List St) (T : List Trip) (E : List Int) : Prop where
  l : OwnSt w w4.heap.size v8 L
  m : OwnM NS w bm allSt (fnum L)
  f : FBlk w bt (.int .i64 0) va vf
  a : OwnA w w4.heap.size va (T.map (arcT L))
  e : OwnI w w4.heap.size vf E
  b : Below w4.heap.size w4 w
  s : w4.heap.size ≤ bm ∧ w4.heap.size ≤ bt
  c : CI L T
section
variable {w4 w w1 w2 : World} {bm bt : Nat} {v8 va vf v' : Value} {L : List St} {T : List Trip} {E : List Int}
theorem CW.below (h : CW w4 w bm bt v8 va vf L T E) (hb : Below w.heap.size w w1) : CW w4 w1 bm bt v8 va vf L T E :=
  ⟨own_below h.l hb, h.m.below hb, h.f.below hb, own_below h.a hb, own_below h.e hb, h.b.trans (hb.mono h.b.size), h.s, h.c⟩
theorem CW.put (h : CW w4 w bm bt v8 va vf L T E) {s : St} (hs : s ∉ L) (ho : StOk s) (hm : OwnM NS w1 bm allSt (put (fnum L) s (L.length : Int))) (hg : w.grownBy w1 (some bm)) (hl : OwnSt w2 w4.heap.size v' (L ++ [s])) (hg2 : w1.grownBy w2 v8.ownBlock) :
    CW w4 w2 bm bt v' va vf (L ++ [s]) T E := by
  rw [fnum_add hs] at hm
  have hl1 : OwnSt w1 w4.heap.size v8 L := own_of_map h.l h.m hg
  refine ⟨hl, map_apart hm hl1 hg2, blk_apart (blk_of_map h.f h.m hg) hl1 (by decide) hg2, ?_, own_apart (own_of_map h.e h.m hg) hl1 (by decide) hg2, ?_, h.s, h.c.grow hs ho⟩
  · rw [arcs_app h.c]
    exact own_apart (own_of_map h.a h.m hg) hl1 (by decide) hg2
  · have hb1 : Below w4.heap.size w4 w1 := h.b.grown hg h.b.size fun j hj => by cases hj; exact h.s.1
    exact hb1.grown hg2 hb1.size fun j hj => (World.ownsRow.lt hl1 j hj).1
theorem CW.fblk (h : CW w4 w bm bt v8 va vf L T E) {base size n : Nat} {e : TypeId} {v : Value} {xs : List Value} (ho : w.ownsRow base e size v n xs) (he : 48 ≠ e) (hg : w.grownBy w1 v.ownBlock) : FBlk w1 bt (.int .i64 0) va vf := blk_apart h.f ho he hg
theorem CW.arc (h : CW w4 w bm bt v8 va vf L T E) {t : Trip} (ht : t.2.2.2 ∈ L) (ho : OwnA w1 w4.heap.size v' (T.map (arcT L) ++ [arcT L t])) (hg : w.grownBy w1 va.ownBlock) :
    CW w4 (w1.setCell ⟨bt, 1, none⟩ v') bm bt v8 v' vf L (T ++ [t]) E := by
  have hf : FBlk w1 bt (.int .i64 0) va vf := blk_apart h.f h.a (by decide) hg
  have hl : OwnSt w1 w4.heap.size v8 L := own_apart h.l h.a (by decide) hg
  have he : OwnI w1 w4.heap.size vf E := own_apart h.e h.a (by decide) hg
  have hb : Below w4.heap.size w4 w1 := h.b.grown hg h.b.size fun j hj => (World.ownsRow.lt h.a j hj).1
  refine ⟨own_setCell hl (row_ne_fblk hl hf (by decide)) _ _, (map_apart h.m h.a hg).same (Below.heap_setCell w1 ⟨bt, 1, none⟩ _ bm ?_), hf.set1 _, ?_, own_setCell he (row_ne_fblk he hf (by decide)) _ _, hb.setCell h.s.2 _, h.s, h.c.old ht⟩
  · exact fun e => h.m.ne h.f e.symm
  · rw [arcs_old]
    exact own_setCell ho (row_ne_fblk ho hf (by decide)) _ _
theorem CW.fin (h : CW w4 w bm bt v8 va vf L T E) {x : Int} (ho : OwnI w1 w4.heap.size v' (E ++ [x])) (hg : w.grownBy w1 vf.ownBlock) :
    CW w4 (w1.setCell ⟨bt, 2, none⟩ v') bm bt v8 va v' L T (E ++ [x]) := by
  have hf : FBlk w1 bt (.int .i64 0) va vf := blk_apart h.f h.e (by decide) hg
  have hl : OwnSt w1 w4.heap.size v8 L := own_apart h.l h.e (by decide) hg
  have ha : OwnA w1 w4.heap.size va (T.map (arcT L)) := own_apart h.a h.e (by decide) hg
  have hb : Below w4.heap.size w4 w1 := h.b.grown hg h.b.size fun j hj => (World.ownsRow.lt h.e j hj).1
  refine ⟨own_setCell hl (row_ne_fblk hl hf (by decide)) _ _, (map_apart h.m h.e hg).same (Below.heap_setCell w1 ⟨bt, 2, none⟩ _ bm ?_), hf.set2 _, own_setCell ha (row_ne_fblk ha hf (by decide)) _ _, own_setCell ho (row_ne_fblk ho hf (by decide)) _ _, hb.setCell h.s.2 _, h.s, h.c⟩
  exact fun e => h.m.ne h.f e.symm
end
set_option maxHeartbeats 2000000 in
set_option maxRecDepth 100000 in
theorem mach_any (v vr : Value) (I : List PPh) (R : PRule) (w : World) (hv : RdV w v I) (hr : RdR w vr R) :
    Calls Try.prog 47 #[v, vr] w fun e w' => (∃ m, e = .returned (mchV m R.beg R.fin) ∧ MmOk w' m I R) ∧ Below w.heap.size w w' := by
  obtain ⟨u, rfl, hp⟩ := id hv
  obtain ⟨A0, n0, c0, rfl, _, _, _, _⟩ := hp.op
  obtain ⟨vf, vt, vl, vg, rfl, hf, ht, hl, hg⟩ := id hr
  obtain ⟨A1, n1, c1, rfl, _, _, HN1, HR1⟩ := hf.op
  obtain ⟨A2, n2, c2, rfl, _, _, HN2, HR2⟩ := ht.op
  obtain ⟨A3, n3, c3, rfl, _, _, HN3, _⟩ := hl.op
  obtain ⟨A4, n4, c4, rfl, _, _, HN4, _⟩ := hg.op
  have HV := Lib.hid hv
  have HRR := Lib.hid hr
  have HF := Lib.hid hf
  have HT := Lib.hid ht
  clear hp hf ht hl hg hv hr
  obtain ⟨beg, hbeg⟩ : ∃ x, R.beg = x := ⟨_, rfl⟩
  obtain ⟨fin, hfin⟩ : ∃ x, R.fin = x := ⟨_, rfl⟩
  rw [hbeg, hfin] at HRR ⊢
  clear hbeg hfin
  obtain ⟨vf, vt, vl, vg, he, hf, ht, hl, hg⟩ := id HRR.out
  injection he with he
  simp only [Array.mk.injEq, List.cons.injEq] at he
  obtain ⟨rfl, rfl, rfl, rfl, -⟩ := he
  have HPH : Hid (RdPh w (.slice A0 n0 c0) I) := by
    obtain ⟨u, he, hp⟩ := HV.out
    injection he with he
    simp only [Array.mk.injEq, List.cons.injEq] at he
    obtain ⟨rfl, _⟩ := he
    exact hp
  have HL := Lib.hid hl
  have HG := Lib.hid hg
  clear hf ht hl hg
  go_enter Try.func47, Try.ntmps47
  go_wp2_with fail
  have hB : Below w.heap.size w (((w.alloc (.cells #[.slice A0 n0 c0] 24)).alloc (.cells #[.slice A1 n1 c1, .slice A2 n2 c2, .slice A3 n3 c3, .slice A4 n4 c4, .bool beg, .bool fin] 28)).alloc (.cells (mchC ⟨⟨A0, n0, c0⟩, ⟨A1, n1, c1⟩, ⟨A2, n2, c2⟩, ⟨A3, n3, c3⟩, ⟨A4, n4, c4⟩⟩ beg fin) 76)) := bchain (bchain (al_below _ _) (al_below _ _)) (al_below _ _)
  refine bodyPost_ret (results_cell_row rfl _ _ (w.heap.size + 1 + 1) 76 (mchC ⟨⟨A0, n0, c0⟩, ⟨A1, n1, c1⟩, ⟨A2, n2, c2⟩, ⟨A3, n3, c3⟩, ⟨A4, n4, c4⟩⟩ beg fin) (0, 0) _ rfl ?_ Try.underlying76 rfl (by kernel_rfl)) rfl ?_
  · have h := heap_alloc_new ((w.alloc (.cells #[.slice A0 n0 c0] 24)).alloc (.cells #[.slice A1 n1 c1, .slice A2 n2 c2, .slice A3 n3 c3, .slice A4 n4 c4, .bool beg, .bool fin] 28)) (.cells (mchC ⟨⟨A0, n0, c0⟩, ⟨A1, n1, c1⟩, ⟨A2, n2, c2⟩, ⟨A3, n3, c3⟩, ⟨A4, n4, c4⟩⟩ beg fin) 76)
    rw [World.size_alloc, World.size_alloc] at h
    exact h
  · have hm : MmOk w ⟨⟨A0, n0, c0⟩, ⟨A1, n1, c1⟩, ⟨A2, n2, c2⟩, ⟨A3, n3, c3⟩, ⟨A4, n4, c4⟩⟩ I R := ⟨HPH.out, HF.out, HT.out, HL.out, HG.out⟩
    exact ⟨⟨_, rfl, hm.below hB⟩, hB⟩
end Go.Proofs.Ytdijlakeonionaa
