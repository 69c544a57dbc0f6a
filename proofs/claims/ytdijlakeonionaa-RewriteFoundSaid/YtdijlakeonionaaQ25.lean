/-
  The finder in memory; done and step.
-/
import Derived.Test.YtdijlakeonionaaQ24
namespace Go.Proofs.Ytdijlakeonionaa
open Go.ChangeShapes Go.WideShapes Go.ChangeAt Go.RowKit
def PBlk (w : World) (B : Nat) (p : Pl) : Prop := w.heap[B]? = some (.cells (plA p) 87 (0, 0))
theorem PBlk.lt {w : World} {B : Nat} {p : Pl} (h : PBlk w B p) : B < w.heap.size := (Array.getElem?_eq_some_iff.1 h).1
theorem PBlk.below {w w' : World} {B : Nat} {p : Pl} (h : PBlk w B p) (hb : Below w.heap.size w w') : PBlk w' B p := (hb.block B h.lt).trans h
theorem PBlk.cells {w : World} {B : Nat} {p : Pl} (h : PBlk w B p) : w.cell? ⟨B, 0, none⟩ = some (.int .i64 p.s.cnt) ∧ w.cell? ⟨B, 1, none⟩ = some (.int .u8 p.s.near) ∧ w.cell? ⟨B, 2, none⟩ = some (.int .u8 p.s.far) ∧ w.cell? ⟨B, 3, none⟩ = some (.int .i8 p.s.o0) ∧ w.cell? ⟨B, 4, none⟩ = some (.int .i8 p.s.o1) ∧ w.cell? ⟨B, 5, none⟩ = some (.int .i8 p.s.o2) ∧ w.cell? ⟨B, 6, none⟩ = some (.int .i64 (p.at_ : Int)) ∧ w.cell? ⟨B, 7, none⟩ = some (.int .i64 (p.left : Int)) := by
  refine ⟨?_, ?_, ?_, ?_, ?_, ?_, ?_, ?_⟩ <;> rw [cell_of_row w B _ _ _ (0, 0) h] <;> rfl
def fndC (m : Mch) (beg fin : Bool) (Aw : Option Addr) (nw cw bm : Nat) (vf : Value) : Array Value := #[.slice m.i.A m.i.n m.i.c, .slice m.f.A m.f.n m.f.c, .slice m.t.A m.t.n m.t.c, .slice m.l.A m.l.n m.l.c, .slice m.r.A m.r.n m.r.c, .bool beg, .bool fin, .slice m.i.A m.i.n m.i.c, .slice m.l.A m.l.n m.l.c, .slice m.i.A m.i.n m.i.c, .slice m.r.A m.r.n m.r.c, .slice Aw nw cw, .map (some bm), vf]
def FndBlk (w : World) (B : Nat) (m : Mch) (beg fin : Bool) (Aw : Option Addr) (nw cw bm : Nat) (vf : Value) : Prop := w.heap[B]? = some (.cells (fndC m beg fin Aw nw cw bm vf) 80 (0, 0))
section
variable {w w' : World} {B : Nat} {m : Mch} {beg fin : Bool} {Aw : Option Addr} {nw cw bm : Nat} {vf : Value}
theorem FndBlk.lt (h : FndBlk w B m beg fin Aw nw cw bm vf) : B < w.heap.size := (Array.getElem?_eq_some_iff.1 h).1
theorem FndBlk.below (h : FndBlk w B m beg fin Aw nw cw bm vf) (hb : Below w.heap.size w w') : FndBlk w' B m beg fin Aw nw cw bm vf := (hb.block B h.lt).trans h
theorem FndBlk.cells (h : FndBlk w B m beg fin Aw nw cw bm vf) : (w.cell? ⟨B, 0, none⟩ = some (.slice m.i.A m.i.n m.i.c) ∧ w.cell? ⟨B, 1, none⟩ = some (.slice m.f.A m.f.n m.f.c) ∧ w.cell? ⟨B, 2, none⟩ = some (.slice m.t.A m.t.n m.t.c) ∧ w.cell? ⟨B, 3, none⟩ = some (.slice m.l.A m.l.n m.l.c) ∧ w.cell? ⟨B, 4, none⟩ = some (.slice m.r.A m.r.n m.r.c) ∧ w.cell? ⟨B, 5, none⟩ = some (.bool beg) ∧ w.cell? ⟨B, 6, none⟩ = some (.bool fin) ∧ w.cell? ⟨B, 7, none⟩ = some (.slice m.i.A m.i.n m.i.c) ∧ w.cell? ⟨B, 8, none⟩ = some (.slice m.l.A m.l.n m.l.c) ∧ w.cell? ⟨B, 9, none⟩ = some (.slice m.i.A m.i.n m.i.c) ∧ w.cell? ⟨B, 10, none⟩ = some (.slice m.r.A m.r.n m.r.c)) ∧
    w.cell? ⟨B, 11, none⟩ = some (.slice Aw nw cw) ∧ w.cell? ⟨B, 12, none⟩ = some (.map (some bm)) ∧ w.cell? ⟨B, 13, none⟩ = some vf := by
  refine ⟨⟨?_, ?_, ?_, ?_, ?_, ?_, ?_, ?_, ?_, ?_, ?_⟩, ?_, ?_, ?_⟩ <;> rw [cell_of_row w B _ _ _ (0, 0) h] <;> rfl
theorem FndBlk.free (h : FndBlk w B m beg fin Aw nw cw bm vf) (j : Nat) : w.frozen? ⟨B, j, none⟩ = false := by
  unfold FndBlk at h
  simp [World.frozen?, h]
theorem FndBlk.set (h : FndBlk w B m beg fin Aw nw cw bm vf) (u : Value) : FndBlk (w.setCell ⟨B, 13, none⟩ u) B m beg fin Aw nw cw bm u := by
  unfold FndBlk at h ⊢
  simp [World.setCell, Array.getElem?_modify, h, fndC]
end
/-- what the finder was made for -/
structure FE (w₀ : World) (I : List PPh) (R : PRule) (wl : List Int) (m : Mch) (beg fin : Bool) (Aw : Option Addr) (nw cw B bm : Nat) : Prop where
  mm : MmOk w₀ m I R
  ww : RdI w₀ (.slice Aw nw cw) wl
  good : RGood I R
  bf : R.beg = beg ∧ R.fin = fin
  nl : wl.length = nw
  lw : nw ≤ 24
  il : I.length ≤ 60
  ib : I.length = m.i.n
  bb : w₀.heap.size ≤ B ∧ w₀.heap.size ≤ bm
section
variable {w₀ : World} {I : List PPh} {R : PRule} {wl : List Int} {m : Mch} {beg fin : Bool} {Aw : Option Addr} {nw cw B bm : Nat}
set_option maxHeartbeats 4000000 in
set_option maxRecDepth 100000 in
theorem done_any (HE : Hid (FE w₀ I R wl m beg fin Aw nw cw B bm)) (p : Pl) (vf : Value) (w : World) (h0 : Below w₀.heap.size w₀ w) (hf : FndBlk w B m beg fin Aw nw cw bm vf) :
    Calls Try.prog 68 #[.pointer (some ⟨B, 0, none⟩), plV p] w fun e w' => e = .returned (.bool (doneP R wl p)) ∧ Below w.heap.size w w' := by
  have HB0 := Lib.hid h0
  have HF := Lib.hid hf
  obtain ⟨dn, hdn⟩ : ∃ dn, doneP R wl p = dn := ⟨_, rfl⟩
  rw [hdn]
  rw [doneP, HE.out.nl] at hdn
  have HDN := Lib.hid hdn
  have HEND := Lib.hid (fun w' h => end_any m I R p.s w' h)
  rw [HE.out.bf.1, HE.out.bf.2] at HEND
  clear hdn h0 hf
  simp only [plV, plA, mchV, mchC, stV, stA] at HEND ⊢
  go_enter Try.func68, Try.ntmps68
  go_upto_region 1 with (fail)
  generalize hW : World.alloc w _ = W
  have HBW : Hid (Below w.heap.size w W) := by rw [← hW]; exact al_below _ _
  have HP : Hid (PBlk W w.heap.size p) := by rw [← hW]; exact heap_alloc_new w _
  clear hW
  have HFW := Lib.hid (HF.out.below HBW.out)
  refine wp_region_mix 15 [0, 1, 2, 3, 4, 5, 6, 7, 8, 9, 10, 11, 12, 13, 14] [] [(true, 0), (true, 1), (true, 2), (true, 3), (true, 4), (true, 5), (true, 6), (true, 7), (true, 8), (true, 9), (true, 10), (true, 11), (true, 12), (true, 13), (true, 14), (false, 15), (false, 16), (false, 17)] (fun w' => Below W.heap.size W w') (by kernel_rfl) (by kernel_rfl) ?_
  rintro D hD
  have HSD : Hid (Below W.heap.size W D) := by rw [hD]; exact (Below.refl _ _).drew
  clear hD
  refine ⟨HSD.out, ?_⟩
  have HS := Lib.hid (fun (w' : World) (h : Below W.heap.size W w') => And.intro (HFW.out.below h).cells (HP.out.below h).cells)
  by_cases ha : p.at_ = nw
  · have d1 : ((p.at_ : Int) == (nw : Int)) = true := by simp [ha]
    have d1' : (p.at_ == nw) = true := by simp [ha]
    rw [decide_eq_true ha, Bool.true_and] at HDN
    clear ha
    iterate 15 (refine wpMix_q (v := ?_) rfl rfl (fun w' hS => ?_) ?_; rotate_left; (focus ((try obtain ⟨⟨⟨s0, s1, s2, s3, s4, s5, s6, s7, s8, s9, s10⟩, t0, t1, t2⟩, u0, u1, u2, u3, u4, u5, u6, u7⟩ := HS.out _ (hS rfl)); clear hS; go_simp; try with_reducible rfl; done)); (try simp only [Act.put, List.setIfInBounds_toArray, List.set_cons_zero, List.set_cons_succ]))
    refine wpMix_e rfl rfl (fun K hK => ?_)
    go_simp
    refine (HEND.out _ (HE.out.mm.below (bchain (show Below w₀.heap.size w₀ W from HB0.out.trans (HBW.out.mono HB0.out.size)) HSD.out))).mono ?_
    rintro e Y1 ⟨rfl, hb⟩
    refine hK.out _ _ (fun _ => bchain HSD.out hb) ?_
    clear hK K
    (try simp only [Act.put, List.setIfInBounds_toArray, List.set_cons_zero, List.set_cons_succ])
    have HSY1 := Lib.hid (bchain HSD.out hb)
    clear hb
    rw [HDN.out]
    iterate 2 (refine wpMix_e rfl rfl (fun K hK => ?_); go_simp; refine hK.out _ _ (fun h => absurd h (by decide)) ?_; clear hK K; (try simp only [Act.put, List.setIfInBounds_toArray, List.set_cons_zero, List.set_cons_succ]))
    refine wpMix_nil ?_
    refine NoPanic.normal ?_
    go_wp2_with fail
    go_ret
    exact ⟨rfl, bchain HBW.out HSY1.out⟩
  · have d1 : ((p.at_ : Int) == (nw : Int)) = false := by simp; omega
    have d1' : (p.at_ == nw) = false := by simp [ha]
    rw [decide_eq_false ha, Bool.false_and] at HDN
    have hdn := HDN.out
    subst hdn
    clear ha
    iterate 9 (refine wpMix_q (v := ?_) rfl rfl (fun w' hS => ?_) ?_; rotate_left; (focus ((try obtain ⟨⟨⟨s0, s1, s2, s3, s4, s5, s6, s7, s8, s9, s10⟩, t0, t1, t2⟩, u0, u1, u2, u3, u4, u5, u6, u7⟩ := HS.out _ (hS rfl)); clear hS; go_simp; try with_reducible rfl; done)); (try simp only [Act.put, List.setIfInBounds_toArray, List.set_cons_zero, List.set_cons_succ]))
    iterate 6 (refine wpMix_qskip rfl rfl ?_; (try simp only [Act.put, List.setIfInBounds_toArray, List.set_cons_zero, List.set_cons_succ]))
    iterate 1 (refine wpMix_eskip rfl rfl (HSD).out ?_; (try simp only [Act.put, List.setIfInBounds_toArray, List.set_cons_zero, List.set_cons_succ]))
    iterate 2 (refine wpMix_e rfl rfl (fun K hK => ?_); go_simp; refine hK.out _ _ (fun h => absurd h (by decide)) ?_; clear hK K; (try simp only [Act.put, List.setIfInBounds_toArray, List.set_cons_zero, List.set_cons_succ]))
    refine wpMix_nil ?_
    refine NoPanic.normal ?_
    go_wp2_with fail
    go_ret
    exact ⟨rfl, bchain HBW.out HSD.out⟩
theorem pstep_ok {p q : Pl} {g : Int} (hp : PlOk p) (ha : p.at_ ≤ wl.length) (hw : wl.length ≤ 24) (hl : R.lft.length ≤ 2) (h : q ∈ stepP I R wl p g) : PlOk q ∧ q.at_ ≤ wl.length := by
  have h1 := stepP_at ha h
  have h2 := stepP_left h
  obtain ⟨x, hx, hq⟩ := List.mem_filterMap.1 h
  have h3 := next_ok hp.s hl hx
  unfold stepO at hq
  cases hs : stepAt wl p.at_ x.1 with
  | none => rw [hs] at hq; cases hq
  | some a =>
    rw [hs] at hq
    injection hq with hq
    refine ⟨⟨by rw [← hq]; exact h3, by omega, by have := hp.l; omega⟩, h1⟩
theorem stepP_len (I : List PPh) (R : PRule) (wl : List Int) (p : Pl) (g : Int) : (stepP I R wl p g).length ≤ 2 := Nat.le_trans (List.length_filterMap_le _ _) (next_len _ _ _ _)
theorem fm_succ {α β : Type} {f : α → Option β} {ms : List α} {k : Nat} {x : α} (h : ms.drop k = x :: ms.drop (k + 1)) : (ms.take (k + 1)).filterMap f = (ms.take k).filterMap f ++ (match f x with | some q => [q] | none => []) := by
  have hk : k < ms.length := by
    rcases Nat.lt_or_ge k ms.length with h1 | h1
    · exact h1
    · rw [List.drop_of_length_le h1] at h; cases h
  rw [List.drop_eq_getElem_cons hk] at h
  rw [List.take_succ_eq_append_getElem hk, (List.cons.inj h).1, List.filterMap_append]
  congr 1
  cases hf : f x <;> simp [hf]
set_option maxHeartbeats 8000000 in
set_option maxRecDepth 100000 in
theorem fstep_any (HE : Hid (FE w₀ I R wl m beg fin Aw nw cw B bm)) (p : Pl) (g : Int) (vf : Value) (w : World) (h0 : Below w₀.heap.size w₀ w) (hf : FndBlk w B m beg fin Aw nw cw bm vf) (hp : PlOk p) (hl : 0 < p.left) :
    Calls Try.prog 70 #[.pointer (some ⟨B, 0, none⟩), plV p, .int .i64 g] w fun e w' => (∃ v, e = .returned v ∧ OwnPl w' w.heap.size v (stepP I R wl p g)) ∧ Below w.heap.size w w' := by
  have HB0 := Lib.hid h0
  have HF := Lib.hid hf
  have HPO := Lib.hid hp
  obtain ⟨lf, hlf⟩ : ∃ lf, p.left = lf + 1 := ⟨p.left - 1, by omega⟩
  have HLF := Lib.hid hlf
  have hlf24 : lf ≤ 24 := by have := hp.l; omega
  have hpa24 : p.at_ ≤ 24 := hp.a
  obtain ⟨st, hst⟩ : ∃ st, stepP I R wl p g = st := ⟨_, rfl⟩
  have HST := Lib.hid hst
  rw [hst]
  have HNX := Lib.hid (fun w' h => next_any m I R p.s g w' h hp.s HE.out.good.l1 HE.out.good.l2 HE.out.good.tl)
  rw [HE.out.bf.1, HE.out.bf.2] at HNX
  clear hst h0 hf hp hl hlf
  simp only [plV, plA, mchV, mchC, stV, stA] at HNX ⊢
  go_enter Try.func70, Try.ntmps70
  go_upto_region 1 with (fail)
  generalize hW : World.alloc w _ = W
  have HBW : Hid (Below w.heap.size w W) := by rw [← hW]; exact al_below _ _
  have HP : Hid (PBlk W w.heap.size p) := by rw [← hW]; exact heap_alloc_new w _
  clear hW
  have HFW := Lib.hid (HF.out.below HBW.out)
  go_upto_region 2 with (fail)
  refine wp_region_all 10 (fun w' => Below W.heap.size W w') (by kernel_rfl) (by kernel_rfl) ?_
  rintro D hD
  have HSD : Hid (Below W.heap.size W D) := by rw [hD]; exact (Below.refl _ _).drew
  clear hD
  have HS := Lib.hid (fun (w' : World) (h : Below W.heap.size W w') => And.intro (HFW.out.below h).cells (HP.out.below h).cells)
  (refine wpS_take 0 (v := ?_) (by kernel_rfl) rfl rfl (by exact HSD.out) (fun w' hS => ?_) ?_; rotate_left; (focus ((try obtain ⟨⟨⟨s0, s1, s2, s3, s4, s5, s6, s7, s8, s9, s10⟩, t0, t1, t2⟩, u0, u1, u2, u3, u4, u5, u6, u7⟩ := HS.out _ hS); clear hS; go_simp; try with_reducible rfl; done)); (try simp only [Act.put, List.setIfInBounds_toArray, List.set_cons_zero, List.set_cons_succ]))
  (refine wpS_take 1 (v := ?_) (by kernel_rfl) rfl rfl (by exact HSD.out) (fun w' hS => ?_) ?_; rotate_left; (focus ((try obtain ⟨⟨⟨s0, s1, s2, s3, s4, s5, s6, s7, s8, s9, s10⟩, t0, t1, t2⟩, u0, u1, u2, u3, u4, u5, u6, u7⟩ := HS.out _ hS); clear hS; go_simp; try with_reducible rfl; done)); (try simp only [Act.put, List.setIfInBounds_toArray, List.set_cons_zero, List.set_cons_succ]))
  (refine wpS_take 2 (v := ?_) (by kernel_rfl) rfl rfl (by exact HSD.out) (fun w' hS => ?_) ?_; rotate_left; (focus ((try obtain ⟨⟨⟨s0, s1, s2, s3, s4, s5, s6, s7, s8, s9, s10⟩, t0, t1, t2⟩, u0, u1, u2, u3, u4, u5, u6, u7⟩ := HS.out _ hS); clear hS; go_simp; try with_reducible rfl; done)); (try simp only [Act.put, List.setIfInBounds_toArray, List.set_cons_zero, List.set_cons_succ]))
  (refine wpS_take 3 (v := ?_) (by kernel_rfl) rfl rfl (by exact HSD.out) (fun w' hS => ?_) ?_; rotate_left; (focus ((try obtain ⟨⟨⟨s0, s1, s2, s3, s4, s5, s6, s7, s8, s9, s10⟩, t0, t1, t2⟩, u0, u1, u2, u3, u4, u5, u6, u7⟩ := HS.out _ hS); clear hS; go_simp; try with_reducible rfl; done)); (try simp only [Act.put, List.setIfInBounds_toArray, List.set_cons_zero, List.set_cons_succ]))
  (refine wpS_take 4 (v := ?_) (by kernel_rfl) rfl rfl (by exact HSD.out) (fun w' hS => ?_) ?_; rotate_left; (focus ((try obtain ⟨⟨⟨s0, s1, s2, s3, s4, s5, s6, s7, s8, s9, s10⟩, t0, t1, t2⟩, u0, u1, u2, u3, u4, u5, u6, u7⟩ := HS.out _ hS); clear hS; go_simp; try with_reducible rfl; done)); (try simp only [Act.put, List.setIfInBounds_toArray, List.set_cons_zero, List.set_cons_succ]))
  (refine wpS_take 5 (v := ?_) (by kernel_rfl) rfl rfl (by exact HSD.out) (fun w' hS => ?_) ?_; rotate_left; (focus ((try obtain ⟨⟨⟨s0, s1, s2, s3, s4, s5, s6, s7, s8, s9, s10⟩, t0, t1, t2⟩, u0, u1, u2, u3, u4, u5, u6, u7⟩ := HS.out _ hS); clear hS; go_simp; try with_reducible rfl; done)); (try simp only [Act.put, List.setIfInBounds_toArray, List.set_cons_zero, List.set_cons_succ]))
  (refine wpS_take 6 (v := ?_) (by kernel_rfl) rfl rfl (by exact HSD.out) (fun w' hS => ?_) ?_; rotate_left; (focus ((try obtain ⟨⟨⟨s0, s1, s2, s3, s4, s5, s6, s7, s8, s9, s10⟩, t0, t1, t2⟩, u0, u1, u2, u3, u4, u5, u6, u7⟩ := HS.out _ hS); clear hS; go_simp; try with_reducible rfl; done)); (try simp only [Act.put, List.setIfInBounds_toArray, List.set_cons_zero, List.set_cons_succ]))
  (refine wpS_take 9 (v := ?_) (by kernel_rfl) rfl rfl (by exact HSD.out) (fun w' hS => ?_) ?_; rotate_left; (focus ((try obtain ⟨⟨⟨s0, s1, s2, s3, s4, s5, s6, s7, s8, s9, s10⟩, t0, t1, t2⟩, u0, u1, u2, u3, u4, u5, u6, u7⟩ := HS.out _ hS); clear hS; go_simp; try with_reducible rfl; done)); (try simp only [Act.put, List.setIfInBounds_toArray, List.set_cons_zero, List.set_cons_succ]))
  (refine wpS_br [7] (by kernel_rfl) ?_; refine AllS.cons rfl rfl (fun K hK => ?_) AllS.nil)
  go_simp
  refine (HNX.out _ (HE.out.mm.below (bchain (show Below w₀.heap.size w₀ W from HB0.out.trans (HBW.out.mono HB0.out.size)) HSD.out))).mono ?_
  rintro e w1 ⟨⟨v17, rfl, ho1⟩, hb1⟩
  have HSW1 := Lib.hid (bchain HSD.out hb1)
  refine hK.out _ _ HSW1.out ?_
  clear hK K HS
  (try simp only [Act.put, List.setIfInBounds_toArray, List.set_cons_zero, List.set_cons_succ])
  obtain ⟨Am, nm, cm, rfl⟩ := own_sliceN ho1
  have HO1 : Hid (OwnMv w1 W.heap.size (.slice Am nm cm) (nextM I R p.s g)) := own_base ho1 HSD.out.size
  clear ho1 hb1 HNX
  (refine wpS_take 8 (v := ?_) (by kernel_rfl) rfl rfl (by exact HSW1.out) (fun w' hS => ?_) ?_; rotate_left; (focus (clear hS; go_simp; try with_reducible rfl; done)); (try simp only [Act.put, List.setIfInBounds_toArray, List.set_cons_zero, List.set_cons_succ]))
  refine wpS_nil (by kernel_rfl) ?_
  refine NoPanic.normal ?_
  have HST2 : Hid ((nextM I R p.s g).filterMap (stepO wl p) = st) := HST.out
  have HML : Hid ((nextM I R p.s g).length ≤ 2) := next_len _ _ _ _
  obtain ⟨ms, hms⟩ : ∃ ms, nextM I R p.s g = ms := ⟨_, rfl⟩
  rw [hms] at HO1 HST2 HML
  have HMN : Hid (ms.length = nm) := (own_n HO1.out).symm
  have hnm : nm ≤ 2 := by rw [← HMN.out]; exact HML.out
  clear hms HST HSD
  go_wp2_with fail
  go_loopw [7, 19] (fun v7 v19 wx => ∃ (k : Nat) (A7 : Option Addr) (n7 c7 : Nat), k ≤ nm ∧ v19 = .int .i64 (k : Int) ∧ v7 = .slice A7 n7 c7 ∧ Hid (OwnPl wx W.heap.size (.slice A7 n7 c7) ((ms.take k).filterMap (stepO wl p))) ∧ Hid (OwnMv wx W.heap.size (.slice Am nm cm) ms) ∧ Hid (Below W.heap.size W wx)) (fun _ v19 _ => nm - (intOf v19).toNat)
  case atStart => exact ⟨0, _, _, _, Nat.zero_le _, rfl, rfl, World.ownsRow_nil _ _ _ _, HO1.out, HSW1.out⟩
  case round =>
    obtain ⟨k, A7, n7, c7, hk, rfl, rfl, HO, HM, HBR⟩ := hrel
    have hk0 : (0 : Int) ≤ (k : Int) := by omega
    by_cases hlt : k < nm
    rotate_left
    · obtain rfl : nm = k := by omega
      have HOF : Hid (OwnPl wr w.heap.size (.slice A7 n7 c7) st) := by
        have h := HO.out
        rw [List.take_of_length_le (by rw [HMN.out]; omega), HST2.out] at h
        exact own_base h HBW.out.size
      go_wp2_with fail
      go_ret
      exact ⟨⟨_, rfl, HOF.out⟩, bchain HBW.out HBR.out⟩
    · have HN7 : Hid (((ms.take k).filterMap (stepO wl p)).length = n7) := (own_n HO.out).symm
      have hn7 : n7 ≤ 1000000 := by
        have h1 := List.length_filterMap_le (stepO wl p) (ms.take k)
        rw [HN7.out, List.length_take] at h1
        omega
      obtain ⟨bb, oo, x, rfl, hbb, hpd, e0, e1, e2, e3, e4, e5, e6⟩ := HM.out.rd.at_ hlt
      have HFM0 := Lib.hid (fm_succ (f := stepO wl p) hpd.out)
      go_upto_region 5 with (fail)
      clear e0 e1 e2 e3 e4 e5 e6 hbb hpd
      obtain ⟨bx, hbx⟩ : ∃ bx, wr.heap.size = bx := ⟨_, rfl⟩
      generalize hX : World.alloc wr _ = X
      have hbX : Below wr.heap.size wr X := by rw [← hX]; exact al_below _ _
      have HVX : Hid (MvBlk X bx x) := by rw [← hX, ← hbx]; exact heap_alloc_new wr _
      have HOX : Hid (OwnPl X W.heap.size (.slice A7 n7 c7) ((ms.take k).filterMap (stepO wl p))) := own_below HO.out hbX
      have HMX : Hid (OwnMv X W.heap.size (.slice (some ⟨bb, oo, none⟩) nm cm) ms) := own_below HM.out hbX
      have HBX : Hid (Below W.heap.size W X) := bchain HBR.out hbX
      rw [hbx]
      clear hX hbx hbX HO HM HBR
      obtain ⟨e0, e1, e2, e3, e4, e5, e6⟩ := HVX.out.cells
      have hel := HVX.out.lt
      obtain ⟨u0, u1, u2, u3, u4, u5, u6, u7⟩ := (HP.out.below HBX.out).cells
      have hul := (HP.out.below HBX.out).lt
      by_cases hz : x.1 = 0
      · have d1 : (x.1 == 0) = true := by simpa using hz
        have HFM : Hid ((ms.take (k + 1)).filterMap (stepO wl p) = (ms.take k).filterMap (stepO wl p) ++ [⟨x.2, p.at_, lf⟩]) := by
          rw [Hid, HFM0.out, stepO, stepAt, if_pos hz, HLF.out]; rfl
        rw [HLF.out] at u7
        clear hz
        have hbs := (HBX).out.size
        go_wp2_with (at_builtin; refine wpList_app_row 88 87 8 32 _ plC Try.underlying88 infoPl rfl (by decide) (by decide) plC_len plC_one rfl (.tmp 27) (.tmp 36) rfl W.heap.size (.slice A7 n7 c7) ((ms.take k).filterMap (stepO wl p)) rfl (HOX).out ⟨x.2, p.at_, lf⟩ n7 HN7 hn7 hbs rfl ?_; intro g8 c8 w8 ho8 hga hg8; have HO8 := Lib.hid ho8; have HG8 := Lib.hid hg8; clear ho8 hga hg8)
        have HB8 : Hid (Below W.heap.size W w8) := (HBX).out.grown HG8.out hbs (fun j hj => (World.ownsRow.lt (HOX).out j hj).1)
        have HM8 : Hid (OwnMv w8 W.heap.size (.slice (some ⟨bb, oo, none⟩) nm cm) ms) := own_apart (HMX).out (HOX).out (by decide) HG8.out
        go_roundw
        case rel => exact ⟨k + 1, _, _, _, by omega, by go_num, rfl, by rw [Hid, HFM.out]; exact HO8.out, HM8.out, HB8.out⟩
        case measure => simp [intOf]; omega
      · have d1 : (x.1 == 0) = false := by simpa using hz
        have HZ := Lib.hid hz
        clear hz
        go_upto_region 7 with (fail)
        clear e0 e1 e2 e3 e4 e5 e6 hel u0 u1 u2 u3 u4 u5 u6 u7 hul d1
        have HFX := Lib.hid (HFW.out.below HBX.out)
        refine wp_region_mix 19 [0, 1, 2, 3, 4, 5, 6, 7, 8, 9, 10, 11, 12, 13, 14, 15, 16, 17, 18] [] [(true, 0), (true, 1), (true, 2), (true, 3), (true, 4), (true, 5), (true, 6), (true, 7), (true, 8), (true, 9), (true, 10), (true, 11), (true, 12), (true, 13), (true, 14), (true, 15), (true, 16), (true, 17), (true, 18), (false, 19), (false, 20), (false, 21)] (fun w' => Below X.heap.size X w') (by kernel_rfl) (by kernel_rfl) ?_
        rintro D2 hD
        have HSD : Hid (Below X.heap.size X D2) := by rw [hD]; exact (Below.refl _ _).drew
        clear hD
        refine ⟨HSD.out, ?_⟩
        have HBD : Hid (Below W.heap.size W D2) := bchain HBX.out HSD.out
        have HOD : Hid (OwnPl D2 W.heap.size (.slice A7 n7 c7) ((ms.take k).filterMap (stepO wl p))) := own_below HOX.out HSD.out
        have HMD : Hid (OwnMv D2 W.heap.size (.slice (some ⟨bb, oo, none⟩) nm cm) ms) := own_below HMX.out HSD.out
        have HVD := Lib.hid (HVX.out.below HSD.out)
        have HPD := Lib.hid (HP.out.below HBD.out)
        by_cases hat : p.at_ < nw
        · have d2 : decide ((p.at_ : Int) < (nw : Int)) = true := by simp; exact hat
          have d2' : decide (p.at_ < nw) = true := by simp; exact hat
          have hwx := HE.out.ww.below (show Below w₀.heap.size w₀ X from HB0.out.trans ((bchain HBW.out HBX.out).mono HB0.out.size))
          obtain ⟨A', n', c', he, _, _, _, hr⟩ := hwx.op
          cases he
          obtain ⟨wb, wo, y, rfl, hwb, hwd, hwc⟩ := hr.out _ hat
          have HY : Hid (wl[p.at_]? = some y) := by rw [Hid, ← List.head?_drop, hwd.out]; rfl
          have HS := Lib.hid (fun (w' : World) (h : Below X.heap.size X w') => And.intro (HFX.out.below h).cells (And.intro (HPD.out.below (Below.refl _ _)).cells (And.intro (HVX.out.below h).cells (And.intro (HP.out.below (bchain HBX.out h)).cells ((h.cell (p := ⟨wb, wo + p.at_, none⟩) hwb).trans hwc)))))
          have hp0 : (0 : Int) ≤ (p.at_ : Int) := by omega
          clear hwx hr hwc hwd hwb
          iterate 19 (refine wpMix_q (v := ?_) rfl rfl (fun w' hS => ?_) ?_; rotate_left; (focus ((try obtain ⟨⟨_, t0, t1, t2⟩, _, ⟨e0, e1, e2, e3, e4, e5, e6⟩, ⟨u0, u1, u2, u3, u4, u5, u6, u7⟩, y0⟩ := HS.out _ (hS rfl)); clear hS; go_simp; try with_reducible rfl; done)); (try simp only [Act.put, List.setIfInBounds_toArray, List.set_cons_zero, List.set_cons_succ]))
          by_cases hy : y = x.1
          · have d3 : (y == x.1) = true := by simpa using hy
            have HFM : Hid ((ms.take (k + 1)).filterMap (stepO wl p) = (ms.take k).filterMap (stepO wl p) ++ [⟨x.2, p.at_ + 1, lf⟩]) := by
              rw [Hid, HFM0.out, stepO, stepAt, if_neg HZ.out, if_pos (by rw [HY.out, hy]), HLF.out]; rfl
            clear hy
            iterate 3 (refine wpMix_e rfl rfl (fun K hK => ?_); go_simp; refine hK.out _ _ (fun h => absurd h (by decide)) ?_; clear hK K; (try simp only [Act.put, List.setIfInBounds_toArray, List.set_cons_zero, List.set_cons_succ]))
            refine wpMix_nil ?_
            refine NoPanic.normal ?_
            clear HS d2 d2' hp0 d3
            obtain ⟨e0, e1, e2, e3, e4, e5, e6⟩ := HVD.out.cells
            have hel := HVD.out.lt
            obtain ⟨u0, u1, u2, u3, u4, u5, u6, u7⟩ := HPD.out.cells
            have hul := HPD.out.lt
            rw [HLF.out] at u7
            have hbs := (HBD).out.size
            go_wp2_with (at_builtin; refine wpList_app_row 88 87 8 32 _ plC Try.underlying88 infoPl rfl (by decide) (by decide) plC_len plC_one rfl (.tmp 60) (.tmp 70) rfl W.heap.size (.slice A7 n7 c7) ((ms.take k).filterMap (stepO wl p)) rfl (HOD).out ⟨x.2, p.at_ + 1, lf⟩ n7 HN7 hn7 hbs rfl ?_; intro g8 c8 w8 ho8 hga hg8; have HO8 := Lib.hid ho8; have HG8 := Lib.hid hg8; clear ho8 hga hg8)
            have HB8 : Hid (Below W.heap.size W w8) := (HBD).out.grown HG8.out hbs (fun j hj => (World.ownsRow.lt (HOD).out j hj).1)
            have HM8 : Hid (OwnMv w8 W.heap.size (.slice (some ⟨bb, oo, none⟩) nm cm) ms) := own_apart (HMD).out (HOD).out (by decide) HG8.out
            go_roundw
            case rel => exact ⟨k + 1, _, _, _, by omega, by go_num, rfl, by rw [Hid, HFM.out]; exact HO8.out, HM8.out, HB8.out⟩
            case measure => simp [intOf]; omega
          · have d3 : (y == x.1) = false := by simpa using hy
            have HFM : Hid ((ms.take (k + 1)).filterMap (stepO wl p) = (ms.take k).filterMap (stepO wl p)) := by
              rw [Hid, HFM0.out, stepO, stepAt, if_neg HZ.out, if_neg (by rw [HY.out]; intro h; exact hy (Option.some.inj h))]; simp
            clear hy
            iterate 3 (refine wpMix_e rfl rfl (fun K hK => ?_); go_simp; refine hK.out _ _ (fun h => absurd h (by decide)) ?_; clear hK K; (try simp only [Act.put, List.setIfInBounds_toArray, List.set_cons_zero, List.set_cons_succ]))
            refine wpMix_nil ?_
            refine NoPanic.normal ?_
            clear HS d2 d2' hp0 d3
            go_wp2_with fail
            go_roundw
            case rel => exact ⟨k + 1, _, _, _, by omega, by go_num, rfl, by rw [Hid, HFM.out]; exact (HOD).out, (HMD).out, (HBD).out⟩
            case measure => simp [intOf]; omega
        · have d2 : decide ((p.at_ : Int) < (nw : Int)) = false := by simp; omega
          have d2' : decide (p.at_ < nw) = false := by simp; omega
          have HFM : Hid ((ms.take (k + 1)).filterMap (stepO wl p) = (ms.take k).filterMap (stepO wl p)) := by
            rw [Hid, HFM0.out, stepO, stepAt, if_neg HZ.out, if_neg (by rw [List.getElem?_eq_none (by rw [HE.out.nl]; omega)]; intro h; cases h)]; simp
          have HS := Lib.hid (fun (w' : World) (h : Below X.heap.size X w') => And.intro (HFX.out.below h).cells (HP.out.below (bchain HBX.out h)).cells)
          iterate 9 (refine wpMix_q (v := ?_) rfl rfl (fun w' hS => ?_) ?_; rotate_left; (focus ((try obtain ⟨⟨_, t0, t1, t2⟩, u0, u1, u2, u3, u4, u5, u6, u7⟩ := HS.out _ (hS rfl)); clear hS; go_simp; try with_reducible rfl; done)); (try simp only [Act.put, List.setIfInBounds_toArray, List.set_cons_zero, List.set_cons_succ]))
          iterate 10 (refine wpMix_qskip rfl rfl ?_; (try simp only [Act.put, List.setIfInBounds_toArray, List.set_cons_zero, List.set_cons_succ]))
          iterate 1 (refine wpMix_eskip rfl rfl (HSD).out ?_; (try simp only [Act.put, List.setIfInBounds_toArray, List.set_cons_zero, List.set_cons_succ]))
          iterate 2 (refine wpMix_e rfl rfl (fun K hK => ?_); go_simp; refine hK.out _ _ (fun h => absurd h (by decide)) ?_; clear hK K; (try simp only [Act.put, List.setIfInBounds_toArray, List.set_cons_zero, List.set_cons_succ]))
          refine wpMix_nil ?_
          refine NoPanic.normal ?_
          clear HS d2 d2'
          go_wp2_with fail
          go_roundw
          case rel => exact ⟨k + 1, _, _, _, by omega, by go_num, rfl, by rw [Hid, HFM.out]; exact (HOD).out, (HMD).out, (HBD).out⟩
          case measure => simp [intOf]; omega
end
end Go.Proofs.Ytdijlakeonionaa
