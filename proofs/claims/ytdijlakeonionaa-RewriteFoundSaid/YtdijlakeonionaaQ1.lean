/-
  Classes and rules in memory; Is and In of both sides.
-/
import Derived.Test.YtdijlakeonionaaZ8
import Derived.Laws.StructEq
namespace Go.Proofs.Ytdijlakeonionaa
open Go.ChangeShapes Go.WideShapes Go.ChangeAt Go.RowKit
theorem al_below (w : World) (o : Obj) : Below w.heap.size w (w.alloc o) := (Below.refl _ _).alloc (Nat.le_refl _) _
structure PCls where
  mask : Int
  val : Int
  deriving DecidableEq
def isB (I : List PPh) (s : Int) : Bool := decide (1 ≤ s) && decide (s ≤ (I.length : Int))
def featB (I : List PPh) (s : Int) : Int := (I.getD (s - 1).toNat ⟨⟨#[]⟩, 0⟩).feat
def inB (I : List PPh) (s : Int) (c : PCls) : Bool := isB I s && (bits .and .i64 (featB I s) c.mask == c.val)
def RdV (w : World) (v : Value) (I : List PPh) : Prop := ∃ u, v = .agg #[u] ∧ RdPh w u I
theorem RdV.below {w w' : World} {v : Value} {I : List PPh} (h : RdV w v I) (hb : Below w.heap.size w w') : RdV w' v I := by
  obtain ⟨u, rfl, h1⟩ := h
  exact ⟨u, rfl, h1.below hb⟩
def clsCells (c : PCls) : List Value := [.int .i64 c.mask, .int .i64 c.val]
def RdC (w : World) (v : Value) (l : List PCls) : Prop := Rd w 2 v l.length (l.flatMap clsCells)
theorem RdC.below {w w' : World} {v : Value} {l : List PCls} (h : RdC w v l) (hb : Below w.heap.size w w') : RdC w' v l := Rd.below h hb
def ClsAt (w : World) (A : Option Addr) (l : List PCls) (k : Nat) : Prop :=
  ∃ b off c, A = some ⟨b, off, none⟩ ∧ b < w.heap.size ∧ Hid (l.drop k = c :: l.drop (k + 1)) ∧ w.cell? ⟨b, off + k * 2, none⟩ = some (.int .i64 c.mask) ∧ w.cell? ⟨b, off + k * 2 + 1, none⟩ = some (.int .i64 c.val)
theorem RdC.op {w : World} {v : Value} {l : List PCls} (h : RdC w v l) : ∃ (A : Option Addr) (n c : Nat), v = .slice A n c ∧ n ≤ c ∧ c ≤ 9223372036854775807 ∧ Hid (l.length = n) ∧ Hid (∀ k, k < n → ClsAt w A l k) := by
  obtain ⟨A, c, rfl, h1, h2, h3, h4⟩ := h
  refine ⟨A, _, c, rfl, h1, h2, rfl, fun k hk => ?_⟩
  obtain ⟨b, off, rfl, hb, hc⟩ := h4 (by omega)
  exact ⟨b, off, l[k], rfl, hb, List.drop_eq_getElem_cons hk, hc (k * 2 + 0) _ (flat2_at clsCells (fun _ => rfl) l k hk 0 (by omega)), hc (k * 2 + 1) _ (flat2_at clsCells (fun _ => rfl) l k hk 1 (by omega))⟩
theorem ClsAt.below {w w' : World} {A : Option Addr} {l : List PCls} {k : Nat} (h : ClsAt w A l k) (hb : Below w.heap.size w w') : ClsAt w' A l k := by
  obtain ⟨b, off, c, rfl, h1, h2, h3, h4⟩ := h
  exact ⟨b, off, c, rfl, by have := hb.size; omega, h2, (hb.cell h1).trans h3, (hb.cell h1).trans h4⟩
/-- a rule -/
structure PRule where
  fr : List Int
  tto : List Int
  lft : List PCls
  rgt : List PCls
  beg : Bool
  fin : Bool
def RdR (w : World) (v : Value) (R : PRule) : Prop := ∃ vf vt vl vr, v = .agg #[vf, vt, vl, vr, .bool R.beg, .bool R.fin] ∧ RdI w vf R.fr ∧ RdI w vt R.tto ∧ RdC w vl R.lft ∧ RdC w vr R.rgt
theorem RdR.below {w w' : World} {v : Value} {R : PRule} (h : RdR w v R) (hb : Below w.heap.size w w') : RdR w' v R := by
  obtain ⟨vf, vt, vl, vr, rfl, h1, h2, h3, h4⟩ := h
  exact ⟨vf, vt, vl, vr, rfl, h1.below hb, h2.below hb, h3.below hb, h4.below hb⟩
set_option maxHeartbeats 1000000 in
theorem ris_any (v : Value) (I : List PPh) (s : Int) (w : World) (hv : RdV w v I) :
    Calls Try.prog 42 #[v, .int .i64 s] w fun e w' => e = .returned (.bool (isB I s)) ∧ Below w.heap.size w w' := by
  obtain ⟨u, rfl, hp⟩ := hv
  obtain ⟨A, n, c, rfl, _, _, HN, _⟩ := hp.op
  clear hp
  obtain ⟨b, hb⟩ : ∃ b, isB I s = b := ⟨_, rfl⟩
  rw [hb]
  rw [isB, HN.out] at hb
  have HBW : Hid (Below w.heap.size w (w.alloc (.cells #[.slice A n c] 24))) := al_below _ _
  cases h1 : decide (1 ≤ s)
  · rw [h1, Bool.false_and] at hb
    subst hb
    go_enter Try.func42, Try.ntmps42
    go_wp2_with fail
    go_ret
    exact ⟨rfl, HBW.out⟩
  · rw [h1, Bool.true_and] at hb
    go_enter Try.func42, Try.ntmps42
    go_wp2_with fail
    go_ret
    exact ⟨rfl, HBW.out⟩
set_option maxHeartbeats 1000000 in
theorem seg_any (v : Value) (I : List PPh) (s : Int) (w : World) (hv : RdV w v I) :
    Calls Try.prog 92 #[v, .int .i64 s] w fun e w' => e = .returned (.bool (isB I s)) ∧ Below w.heap.size w w' := by
  obtain ⟨u, rfl, hp⟩ := hv
  obtain ⟨A, n, c, rfl, _, _, HN, _⟩ := hp.op
  clear hp
  obtain ⟨b, hb⟩ : ∃ b, isB I s = b := ⟨_, rfl⟩
  rw [hb]
  rw [isB, HN.out] at hb
  have HBW : Hid (Below w.heap.size w (w.alloc (.cells #[.slice A n c] 24))) := al_below _ _
  cases h1 : decide (1 ≤ s)
  · rw [h1, Bool.false_and] at hb
    subst hb
    go_enter Try.func92, Try.ntmps92
    go_wp2_with fail
    go_ret
    exact ⟨rfl, HBW.out⟩
  · rw [h1, Bool.true_and] at hb
    go_enter Try.func92, Try.ntmps92
    go_wp2_with fail
    go_ret
    exact ⟨rfl, HBW.out⟩
def CBlk (w : World) (R : Nat) (c : PCls) : Prop := w.heap[R]? = some (.cells #[.int .i64 c.mask, .int .i64 c.val] 66 (0, 0))
theorem CBlk.lt {w : World} {R : Nat} {c : PCls} (h : CBlk w R c) : R < w.heap.size := (Array.getElem?_eq_some_iff.1 h).1
theorem CBlk.below {w w' : World} {R : Nat} {c : PCls} (h : CBlk w R c) (hb : Below w.heap.size w w') : CBlk w' R c := (hb.block R h.lt).trans h
theorem CBlk.facts {w : World} {R : Nat} {c : PCls} (h : CBlk w R c) : w.cell? ⟨R, 0, none⟩ = some (.int .i64 c.mask) ∧ w.cell? ⟨R, 1, none⟩ = some (.int .i64 c.val) := by
  refine ⟨?_, ?_⟩ <;> rw [cell_of_row w R _ _ _ (0, 0) h] <;> rfl
def VBlk (w : World) (R : Nat) (u : Value) : Prop := w.heap[R]? = some (.cells #[u] 24 (0, 0))
theorem VBlk.lt {w : World} {R : Nat} {u : Value} (h : VBlk w R u) : R < w.heap.size := (Array.getElem?_eq_some_iff.1 h).1
theorem VBlk.below {w w' : World} {R : Nat} {u : Value} (h : VBlk w R u) (hb : Below w.heap.size w w') : VBlk w' R u := (hb.block R h.lt).trans h
theorem VBlk.cell {w : World} {R : Nat} {u : Value} (h : VBlk w R u) : w.cell? ⟨R, 0, none⟩ = some u := by
  rw [cell_of_row w R _ _ _ (0, 0) h]; rfl
set_option maxHeartbeats 2000000 in
set_option maxRecDepth 100000 in
theorem rin_any (v : Value) (I : List PPh) (s : Int) (c : PCls) (w : World) (hv : RdV w v I) :
    Calls Try.prog 66 #[v, .int .i64 s, .agg #[.int .i64 c.mask, .int .i64 c.val]] w fun e w' => e = .returned (.bool (inB I s c)) ∧ Below w.heap.size w w' := by
  have HV := Lib.hid hv
  obtain ⟨u, rfl, hp⟩ := hv
  obtain ⟨A, n, cc, rfl, _, _, HN, HR⟩ := hp.op
  clear hp
  obtain ⟨b, hb⟩ : ∃ b, inB I s c = b := ⟨_, rfl⟩
  rw [hb]
  rw [inB] at hb
  have HIB := Lib.hid hb
  clear hb
  obtain ⟨m, x⟩ := c
  simp only at HIB ⊢
  go_enter Try.func66, Try.ntmps66
  go_upto_region 1 with (fail)
  generalize hW : World.alloc (World.alloc w _) _ = W
  have HBW : Hid (Below w.heap.size w W) := by rw [← hW]; exact bchain (al_below _ _) (al_below _ _)
  have HP : Hid (VBlk W w.heap.size (.slice A n cc)) := by rw [← hW]; exact VBlk.below (heap_alloc_new w _) (al_below _ _)
  have HC : Hid (CBlk W (w.heap.size + 1) ⟨m, x⟩) := by
    have h := heap_alloc_new (w.alloc (.cells #[.slice A n cc] 24)) (.cells #[.int .i64 m, .int .i64 x] 66)
    rw [World.size_alloc] at h
    rw [← hW]; exact h
  clear hW
  refine wp_region_mix 16 [0, 1, 2, 3, 4, 5, 6, 7, 8, 9, 10, 11, 12, 13, 14, 15] [] [(true, 0), (true, 1), (false, 2), (true, 3), (true, 4), (true, 5), (true, 6), (true, 7), (true, 8), (true, 9), (true, 10), (true, 11), (true, 12), (true, 13), (true, 14), (true, 15), (false, 16), (false, 17), (false, 18)] (fun w' => Below W.heap.size W w') (by kernel_rfl) (by kernel_rfl) ?_
  rintro D hD
  have HSD : Hid (Below W.heap.size W D) := by rw [hD]; exact (Below.refl _ _).drew
  clear hD
  refine ⟨HSD.out, ?_⟩
  by_cases h1 : isB I s = true
  · have h2 : 1 ≤ s ∧ s ≤ (n : Int) := by rw [isB, HN.out] at h1; simpa using h1
    obtain ⟨k, hk⟩ : ∃ k : Nat, s = (k : Int) + 1 := ⟨(s - 1).toNat, by omega⟩
    subst hk
    have hkn : k < n := by omega
    obtain ⟨bb, off, p, rfl, hbb, hdr, e0, e1⟩ := (HR.out k hkn).below HBW.out
    have HF : Hid (featB I ((k : Int) + 1) = p.feat) := by
      rw [Hid, featB, show ((k : Int) + 1 - 1).toNat = k by omega, List.getD_eq_getElem?_getD, show I[k]? = some p from by
        rw [← List.head?_drop, hdr.out]; rfl]
      rfl
    have HS : Hid (∀ w' : World, Below W.heap.size W w' → w'.cell? ⟨w.heap.size, 0, none⟩ = some (.slice (some ⟨bb, off, none⟩) n cc) ∧ (w'.cell? ⟨w.heap.size + 1, 0, none⟩ = some (.int .i64 m) ∧ w'.cell? ⟨w.heap.size + 1, 1, none⟩ = some (.int .i64 x)) ∧ w'.cell? ⟨bb, off + k * 2 + 1, none⟩ = some (.int .i64 p.feat)) := by
      intro w' h
      exact ⟨(HP.out.below h).cell, (HC.out.below h).facts, (h.cell hbb).trans e1⟩
    rw [h1, HF.out, Bool.true_and] at HIB
    have hwr : IntKind.i64.wrap ((k : Int) + 1 - 1) = (k : Int) := by rw [show (k : Int) + 1 - 1 = (k : Int) by omega]; exact IntWalk.i64_in _ (by omega)
    have hwr2 : IntKind.i64.wrap (k : Int) = (k : Int) := IntWalk.i64_in _ (by omega)
    have hk0 : (0 : Int) ≤ (k : Int) := by omega
    clear e0 e1 h2
    have HI1 := Lib.hid h1
    clear h1
    iterate 2 (refine wpMix_q (v := ?_) rfl rfl (fun w' hS => ?_) ?_; rotate_left; (focus ((try obtain ⟨s0, ⟨t0, t1⟩, u0⟩ := HS.out _ (hS rfl)); clear hS; go_simp; try with_reducible rfl; done)); (try simp only [Act.put, List.setIfInBounds_toArray, List.set_cons_zero, List.set_cons_succ]))
    refine wpMix_e rfl rfl (fun K hK => ?_)
    go_simp
    refine (ris_any _ I ((k : Int) + 1) _ (HV.out.below (bchain HBW.out HSD.out))).mono ?_
    rintro e Y1 ⟨rfl, hb⟩
    refine hK.out _ _ (fun _ => bchain HSD.out hb) ?_
    clear hK K
    (try simp only [Act.put, List.setIfInBounds_toArray, List.set_cons_zero, List.set_cons_succ])
    have HSY1 := Lib.hid (bchain HSD.out hb)
    clear hb
    rw [HI1.out]
    iterate 13 (refine wpMix_q (v := ?_) rfl rfl (fun w' hS => ?_) ?_; rotate_left; (focus ((try obtain ⟨s0, ⟨t0, t1⟩, u0⟩ := HS.out _ (hS rfl)); clear hS; go_simp; try with_reducible rfl; done)); (try simp only [Act.put, List.setIfInBounds_toArray, List.set_cons_zero, List.set_cons_succ]))
    have hib := HIB.out
    iterate 3 (refine wpMix_e rfl rfl (fun K hK => ?_); go_simp; refine hK.out _ _ (fun h => absurd h (by decide)) ?_; clear hK K; (try simp only [Act.put, List.setIfInBounds_toArray, List.set_cons_zero, List.set_cons_succ]))
    refine wpMix_nil ?_
    refine NoPanic.normal ?_
    go_wp2_with fail
    go_ret
    exact ⟨rfl, bchain HBW.out HSY1.out⟩
  · simp only [Bool.not_eq_true] at h1
    rw [h1, Bool.false_and] at HIB
    have HI1 := Lib.hid h1
    clear h1
    have HS : Hid (∀ w' : World, Below W.heap.size W w' → w'.cell? ⟨w.heap.size, 0, none⟩ = some (.slice A n cc)) := by
      intro w' h
      exact (HP.out.below h).cell
    iterate 2 (refine wpMix_q (v := ?_) rfl rfl (fun w' hS => ?_) ?_; rotate_left; (focus ((try obtain s0 := HS.out _ (hS rfl)); clear hS; go_simp; try with_reducible rfl; done)); (try simp only [Act.put, List.setIfInBounds_toArray, List.set_cons_zero, List.set_cons_succ]))
    refine wpMix_e rfl rfl (fun K hK => ?_)
    go_simp
    refine (ris_any _ I s _ (HV.out.below (bchain HBW.out HSD.out))).mono ?_
    rintro e Y1 ⟨rfl, hb⟩
    refine hK.out _ _ (fun _ => bchain HSD.out hb) ?_
    clear hK K
    (try simp only [Act.put, List.setIfInBounds_toArray, List.set_cons_zero, List.set_cons_succ])
    have HSY1 := Lib.hid (bchain HSD.out hb)
    clear hb
    rw [HI1.out]
    have hib := HIB.out
    subst hib
    iterate 1 (refine wpMix_q (v := ?_) rfl rfl (fun w' hS => ?_) ?_; rotate_left; (focus ((try obtain s0 := HS.out _ (hS rfl)); clear hS; go_simp; try with_reducible rfl; done)); (try simp only [Act.put, List.setIfInBounds_toArray, List.set_cons_zero, List.set_cons_succ]))
    iterate 12 (refine wpMix_qskip rfl rfl ?_; (try simp only [Act.put, List.setIfInBounds_toArray, List.set_cons_zero, List.set_cons_succ]))
    iterate 1 (refine wpMix_eskip rfl rfl (HSY1).out ?_; (try simp only [Act.put, List.setIfInBounds_toArray, List.set_cons_zero, List.set_cons_succ]))
    iterate 2 (refine wpMix_e rfl rfl (fun K hK => ?_); go_simp; refine hK.out _ _ (fun h => absurd h (by decide)) ?_; clear hK K; (try simp only [Act.put, List.setIfInBounds_toArray, List.set_cons_zero, List.set_cons_succ]))
    refine wpMix_nil ?_
    refine NoPanic.normal ?_
    go_wp2_with fail
    go_ret
    exact ⟨rfl, bchain HBW.out HSY1.out⟩
end Go.Proofs.Ytdijlakeonionaa
