/-
  site of the program.
-/
import Derived.Test.YtdijlakeonionaaQ4
namespace Go.Proofs.Ytdijlakeonionaa
open Go.ChangeShapes Go.WideShapes Go.ChangeAt Go.RowKit
def siteB (I : List PPh) (R : PRule) (l : List Int) (i : Nat) : Bool :=
  hasB R.fr (l.getD i 0) && (decide (R.lft.length ≤ i) && (decide (i + 1 + R.rgt.length ≤ l.length) && ((!R.beg || decide (i ≤ R.lft.length)) && ((!R.fin || decide (l.length ≤ i + 1 + R.rgt.length)) && (fitsB I R.lft (l.drop (i - R.lft.length)) && fitsB I R.rgt (l.drop (i + 1)))))))
def RBlk (w : World) (B : Nat) (a b c d : Value) (x y : Bool) : Prop := w.heap[B]? = some (.cells #[a, b, c, d, .bool x, .bool y] 28 (0, 0))
theorem RBlk.lt {w : World} {B : Nat} {a b c d : Value} {x y : Bool} (h : RBlk w B a b c d x y) : B < w.heap.size := (Array.getElem?_eq_some_iff.1 h).1
theorem RBlk.below {w w' : World} {B : Nat} {a b c d : Value} {x y : Bool} (h : RBlk w B a b c d x y) (hb : Below w.heap.size w w') : RBlk w' B a b c d x y := (hb.block B h.lt).trans h
theorem RBlk.cells {w : World} {B : Nat} {a b c d : Value} {x y : Bool} (h : RBlk w B a b c d x y) : w.cell? ⟨B, 0, none⟩ = some a ∧ w.cell? ⟨B, 1, none⟩ = some b ∧ w.cell? ⟨B, 2, none⟩ = some c ∧ w.cell? ⟨B, 3, none⟩ = some d ∧ w.cell? ⟨B, 4, none⟩ = some (.bool x) ∧ w.cell? ⟨B, 5, none⟩ = some (.bool y) := by
  refine ⟨?_, ?_, ?_, ?_, ?_, ?_⟩ <;> rw [cell_of_row w B _ _ _ (0, 0) h] <;> rfl
theorem RdI.cut {w : World} {A : Option Addr} {n c : Nat} {xs : List Int} (h : RdI w (.slice A n c) xs) {lo hi : Nat} (h1 : lo ≤ hi) (h2 : hi ≤ n) : RdI w (.slice (if c = lo then A else A.map (·.add lo)) (hi - lo) (c - lo)) ((xs.drop lo).take (hi - lo)) := by
  obtain ⟨A', c', he, h3, h4, h5, h6⟩ := h
  cases he
  have hl : ((xs.drop lo).take (hi - lo)).length = hi - lo := by simp; omega
  refine ⟨_, c - lo, by rw [hl], by rw [hl]; omega, by omega, by simp, fun hn => ?_⟩
  rw [hl] at hn
  obtain ⟨b, off, rfl, hb, hc⟩ := h6 (by omega)
  rw [if_neg (by omega)]
  refine ⟨b, off + lo, by simp [add_none], hb, fun j u hu => ?_⟩
  simp only [List.getElem?_map, Option.map_eq_some_iff] at hu
  obtain ⟨y, hy, rfl⟩ := hu
  rw [List.getElem?_take] at hy
  split at hy
  · rw [List.getElem?_drop] at hy
    have := hc (lo + j) (.int .i64 y) (by simp [hy])
    rwa [show off + lo + j = off + (lo + j) by omega]
  · cases hy
theorem slice_two (A : Option Addr) (n c lo hi : Nat) (h1 : lo ≤ hi) (h2 : hi ≤ c) (W : World) : (Instr.slice 25 (.slice A n c) (some (.int .i64 (lo : Int))) (some (.int .i64 (hi : Int))) none).run Try.prog W = .ok (.slice (if c = lo then A else A.map (·.add lo)) (hi - lo) (c - lo)) W := by
  obtain ⟨i0, hi0, hz0, hz1, hz2⟩ := info_parts infoI0
  have he : Try.prog.elem 25 = 3 := by kernel_rfl
  have hs : (Go.sizeOf (Try.prog.elem 25)).run Try.prog W = .ok 1 W := by rw [he]; simp [Go.sizeOf, typeInfo, hi0, hz1]
  rw [run_slice_lh W _ _ _ _ (by kernel_rfl) .i64 .i64 _ _ (by omega) (by omega) (by omega), hs]
  simp [Result.andThen, sliced]
theorem slice_at_two (A : Option Addr) (n c lo hi : Nat) (h1 : lo ≤ hi) (h2 : hi ≤ c) (W : World) : (Instr.sliceAt 25 (.slice A n c) (some (.int .i64 (lo : Int))) (some (.int .i64 (hi : Int))) none).run Try.prog W = .ok (.slice (if c = lo then A else A.map (·.add lo)) (hi - lo) (c - lo)) W := by
  rw [run_sliceAt_slice W _ _ _ _ _ (by kernel_rfl), slice_two A n c lo hi h1 h2]
/-- a part of a list: its value, how it comes to be, and what it reads as -/
theorem cut_of {w : World} {A : Option Addr} {n c : Nat} {xs : List Int} (h : RdI w (.slice A n c) xs) (lo hi : Nat) (h1 : lo ≤ hi) (h2 : hi ≤ n) (h3 : n ≤ c) : ∃ (B : Option Addr) (m k : Nat), RdI w (.slice B m k) ((xs.drop lo).take (hi - lo)) ∧
    (∀ W, (Instr.slice 25 (.slice A n c) (some (.int .i64 (lo : Int))) (some (.int .i64 (hi : Int))) none).run Try.prog W = .ok (.slice B m k) W) ∧
    (∀ W, (Instr.sliceAt 25 (.slice A n c) (some (.int .i64 (lo : Int))) (some (.int .i64 (hi : Int))) none).run Try.prog W = .ok (.slice B m k) W) :=
  ⟨_, _, _, h.cut h1 h2, fun W => slice_two A n c lo hi h1 (by omega) W, fun W => slice_at_two A n c lo hi h1 (by omega) W⟩
theorem fitsB_take (I : List PPh) : ∀ (l : List PCls) (s : List Int) (k : Nat), l.length ≤ k → fitsB I l (s.take k) = fitsB I l s
  | [], _, _, _ => by cases ‹List Int› <;> simp [fitsB]
  | c :: l, [], k, _ => by simp
  | c :: l, x :: s, 0, h => by simp at h
  | c :: l, x :: s, k + 1, h => by
    simp only [List.take_succ_cons, fitsB]
    rw [fitsB_take I l s k (by simpa using h)]
set_option maxHeartbeats 4000000 in
set_option maxRecDepth 100000 in
theorem psite_any (v vr vw : Value) (I : List PPh) (R : PRule) (l : List Int) (i : Nat) (w : World) (hv : RdV w v I) (hr : RdR w vr R) (hw : RdI w vw l) (hi : i < l.length) (h1 : R.lft.length ≤ 1000000) (h2 : R.rgt.length ≤ 1000000) (h3 : l.length ≤ 1000000) :
    Calls Try.prog 44 #[v, vr, vw, .int .i64 (i : Int)] w fun e w' => e = .returned (.bool (siteB I R l i)) ∧ Below w.heap.size w w' := by
  obtain ⟨u, rfl, hp⟩ := hv
  obtain ⟨A0, n0, c0, rfl, _, _, _, _⟩ := hp.op
  have HV := Lib.hid hp
  obtain ⟨vf, vt, vl, vg, rfl, hf, ht, hl, hg⟩ := hr
  obtain ⟨A1, n1, c1, rfl, _, _, _, _⟩ := hf.op
  obtain ⟨A2, n2, c2, rfl, _, _, _, _⟩ := ht.op
  obtain ⟨A3, n3, c3, rfl, _, _, HN3, _⟩ := hl.op
  obtain ⟨A4, n4, c4, rfl, _, _, HN4, _⟩ := hg.op
  obtain ⟨A, n, c, rfl, hnc, _, HN, HR⟩ := hw.op
  have HF := Lib.hid hf
  have HL := Lib.hid hl
  have HG := Lib.hid hg
  have HW := Lib.hid hw
  rw [HN3.out] at h1
  rw [HN4.out] at h2
  rw [HN.out] at h3 hi
  clear hp hf ht hl hg hw
  obtain ⟨beg, hbeg⟩ : ∃ x, R.beg = x := ⟨_, rfl⟩
  obtain ⟨fin, hfin⟩ : ∃ x, R.fin = x := ⟨_, rfl⟩
  obtain ⟨x, hx⟩ : ∃ x, l.getD i 0 = x := ⟨_, rfl⟩
  obtain ⟨hb, hhb⟩ : ∃ h, hasB R.fr x = h := ⟨_, rfl⟩
  obtain ⟨sb, hsb⟩ : ∃ s, siteB I R l i = s := ⟨_, rfl⟩
  rw [hsb, hbeg, hfin]
  rw [siteB, hx, hhb, hbeg, hfin, HN3.out, HN4.out, HN.out] at hsb
  have HSB := Lib.hid hsb
  have HHB := Lib.hid hhb
  have HXX := Lib.hid hx
  clear hsb hbeg hfin hx hhb
  obtain ⟨b, off, y, rfl, hbb, hdr, hc0⟩ := HR.out i hi
  have hxy : y = x := by
    rw [← HXX.out, List.getD_eq_getElem?_getD, show l[i]? = some y from by rw [← List.head?_drop, hdr.out]; rfl]; rfl
  subst hxy
  have hi0 : (0 : Int) ≤ (i : Int) := by omega
  have HC0 := Lib.hid hc0
  clear hc0
  go_enter Try.func44, Try.ntmps44
  go_upto_region 1 with (fail)
  generalize hW : World.alloc (World.alloc w _) _ = W
  have HBW : Hid (Below w.heap.size w W) := by rw [← hW]; exact bchain (al_below _ _) (al_below _ _)
  have HP : Hid (VBlk W w.heap.size (.slice A0 n0 c0)) := by rw [← hW]; exact VBlk.below (heap_alloc_new w _) (al_below _ _)
  have HQ : Hid (RBlk W (w.heap.size + 1) (.slice A1 n1 c1) (.slice A2 n2 c2) (.slice A3 n3 c3) (.slice A4 n4 c4) beg fin) := by
    have h := heap_alloc_new (w.alloc (.cells #[.slice A0 n0 c0] 24)) (.cells #[.slice A1 n1 c1, .slice A2 n2 c2, .slice A3 n3 c3, .slice A4 n4 c4, .bool beg, .bool fin] 28)
    rw [World.size_alloc] at h
    rw [← hW]; exact h
  clear hW
  have HS : Hid (∀ w' : World, Below W.heap.size W w' → w'.cell? ⟨w.heap.size, 0, none⟩ = some (.slice A0 n0 c0) ∧ (w'.cell? ⟨w.heap.size + 1, 0, none⟩ = some (.slice A1 n1 c1) ∧ w'.cell? ⟨w.heap.size + 1, 1, none⟩ = some (.slice A2 n2 c2) ∧ w'.cell? ⟨w.heap.size + 1, 2, none⟩ = some (.slice A3 n3 c3) ∧ w'.cell? ⟨w.heap.size + 1, 3, none⟩ = some (.slice A4 n4 c4) ∧ w'.cell? ⟨w.heap.size + 1, 4, none⟩ = some (.bool beg) ∧ w'.cell? ⟨w.heap.size + 1, 5, none⟩ = some (.bool fin)) ∧ w'.cell? ⟨b, off + i, none⟩ = some (.int .i64 y)) := by
    intro w' h
    have hb := (bchain HBW.out h).cell (p := ⟨b, off + i, none⟩) hbb
    exact ⟨(HP.out.below h).cell, (HQ.out.below h).cells, hb.trans HC0.out⟩
  refine wp_region_ord 12 [0, 1, 2, 3, 4, 5, 6, 7, 8, 9, 10, 11] [] [0, 1, 2, 3, 4, 5, 6, 7, 8, 9, 10, 11] [12] (fun w' => Below W.heap.size W w') (by kernel_rfl) (by kernel_rfl) ?_
  rintro Z hZ
  have HBZ : Hid (Below W.heap.size W Z) := by rw [hZ]; exact (Below.refl _ _).drew
  clear hZ
  refine ⟨HBZ.out, ?_⟩
  iterate 12 (refine wpHead_cons (v := ?_) rfl rfl (fun w' hS => ?_) ?_; rotate_left; (focus ((try obtain ⟨s0, ⟨t0, t1, t2, t3, t4, t5⟩, u0⟩ := HS.out _ (hS rfl)); clear hS; go_simp; try with_reducible rfl; done)); (try simp only [Act.put, List.setIfInBounds_toArray, List.set_cons_zero, List.set_cons_succ]))
  refine wpHead_nil ?_
  refine wpTail_rest 12 rfl ?_
  simp only [List.drop_succ_cons, List.drop_zero]
  go_wp2_with fail
  refine NoPanic.normal ?_
  clear HS
  obtain ⟨z, hz⟩ : ∃ z : Int, (i : Int) - (n3 : Int) = z := ⟨_, rfl⟩
  obtain ⟨t, htn⟩ : ∃ t : Nat, i + 1 + n4 = t := ⟨_, rfl⟩
  have hw1 : IntKind.i64.wrap ((i : Int) - (n3 : Int)) = z := by rw [hz]; exact IntWalk.i64_in _ (by omega)
  have hw2 : IntKind.i64.wrap ((i : Int) + 1) = (i : Int) + 1 := IntWalk.i64_in _ (by omega)
  have hw3 : IntKind.i64.wrap ((i : Int) + 1 + (n4 : Int)) = (t : Int) := by rw [show (i : Int) + 1 + (n4 : Int) = (t : Int) by omega]; exact IntWalk.i64_in _ (by omega)
  rw [hw1, hw2, hw3]
  clear hw1 hw2 hw3
  have HZ := Lib.hid hz
  have HT := Lib.hid htn
  rw [htn] at HSB
  clear hz htn
  have HBX : Hid (Below w.heap.size w Z) := bchain HBW.out HBZ.out
  have HS : Hid (∀ w' : World, Below Z.heap.size Z w' → w'.cell? ⟨w.heap.size, 0, none⟩ = some (.slice A0 n0 c0) ∧ (w'.cell? ⟨w.heap.size + 1, 0, none⟩ = some (.slice A1 n1 c1) ∧ w'.cell? ⟨w.heap.size + 1, 1, none⟩ = some (.slice A2 n2 c2) ∧ w'.cell? ⟨w.heap.size + 1, 2, none⟩ = some (.slice A3 n3 c3) ∧ w'.cell? ⟨w.heap.size + 1, 3, none⟩ = some (.slice A4 n4 c4) ∧ w'.cell? ⟨w.heap.size + 1, 4, none⟩ = some (.bool beg) ∧ w'.cell? ⟨w.heap.size + 1, 5, none⟩ = some (.bool fin)) ∧ w'.cell? ⟨b, off + i, none⟩ = some (.int .i64 y)) := by
    intro w' h
    have hb := (bchain HBX.out h).cell (p := ⟨b, off + i, none⟩) hbb
    exact ⟨(HP.out.below (bchain HBZ.out h)).cell, (HQ.out.below (bchain HBZ.out h)).cells, hb.trans HC0.out⟩
  go_upto_region 2 with (fail)
  refine wp_region_mix 31 [0, 1, 2, 3, 4, 5, 6, 7, 8, 9, 10, 11, 12, 13, 14, 15, 16, 17, 18, 19, 20, 21, 22, 23, 24, 25, 26, 27, 28, 29] [30] [(true, 0), (true, 1), (true, 2), (true, 3), (true, 4), (true, 5), (false, 6), (true, 7), (true, 8), (true, 9), (true, 10), (true, 11), (true, 12), (true, 13), (true, 14), (true, 15), (true, 16), (true, 17), (true, 18), (true, 19), (true, 20), (true, 21), (true, 22), (true, 23), (true, 24), (true, 25), (true, 26), (true, 27), (true, 28), (true, 29), (true, 30), (false, 31), (false, 32), (false, 33), (false, 34), (false, 35)] (fun w' => Below Z.heap.size Z w') (by kernel_rfl) (by kernel_rfl) ?_
  rintro D hD
  have HSD : Hid (Below Z.heap.size Z D) := by rw [hD]; exact (Below.refl _ _).drew
  clear hD
  refine ⟨HSD.out, ?_⟩
  iterate 6 (refine wpMix_q (v := ?_) rfl rfl (fun w' hS => ?_) ?_; rotate_left; (focus ((try obtain ⟨s0, ⟨t0, t1, t2, t3, t4, t5⟩, u0⟩ := HS.out _ (hS rfl)); clear hS; go_simp; try with_reducible rfl; done)); (try simp only [Act.put, List.setIfInBounds_toArray, List.set_cons_zero, List.set_cons_succ]))
  refine wpMix_e rfl rfl (fun K hK => ?_)
  go_simp
  refine (has_any _ R.fr y _ (HF.out.below (bchain HBX.out HSD.out))).mono ?_
  rintro e w1 ⟨rfl, rfl⟩
  rw [HHB.out]
  refine hK.out _ _ (fun _ => HSD.out) ?_
  clear hK K
  (try dsimp only); (try simp only [Act.put]); (try simp only [List.setIfInBounds_toArray, List.set_cons_zero, List.set_cons_succ])
  cases hb
  · rw [Bool.false_and] at HSB
    have hsb := HSB.out
    subst hsb
    iterate 29 (first | (refine wpMix_q (v := ?_) rfl rfl (fun w' hS => ?_) ?_; rotate_left; (focus ((try obtain ⟨s0, ⟨t0, t1, t2, t3, t4, t5⟩, u0⟩ := HS.out _ (hS rfl)); clear hS; go_simp; try with_reducible rfl; done)); (try simp only [Act.put, List.setIfInBounds_toArray, List.set_cons_zero, List.set_cons_succ])) | (refine wpMix_qskip rfl rfl ?_; (try simp only [Act.put, List.setIfInBounds_toArray, List.set_cons_zero, List.set_cons_succ])) | (refine wpMix_eskip rfl rfl ( HSD).out ?_; (try simp only [Act.put, List.setIfInBounds_toArray, List.set_cons_zero, List.set_cons_succ])) | (refine wpMix_e rfl rfl (fun K hK => ?_); go_simp; refine hK.out _ _ (fun h => absurd h (by decide)) ?_; clear hK K; (try simp only [Act.put, List.setIfInBounds_toArray, List.set_cons_zero, List.set_cons_succ])))
    refine wpMix_nil ?_
    refine NoPanic.normal ?_
    go_wp2_with fail
    go_ret
    exact ⟨rfl, bchain HBX.out HSD.out⟩
  · rw [Bool.true_and] at HSB
    have HZ2 : Hid (decide (n3 ≤ i) = !decide (z < 0)) := by
      have := HZ.out
      rw [Hid]
      by_cases h : n3 ≤ i
      · rw [decide_eq_true h, decide_eq_false (by omega)]; rfl
      · rw [decide_eq_false h, decide_eq_true (by omega)]; rfl
    by_cases hz0 : z < 0
    · have d1 : decide (z < 0) = true := by simpa using hz0
      rw [HZ2.out, d1, Bool.not_true, Bool.false_and] at HSB
      have hsb := HSB.out
      subst hsb
      clear hz0
      iterate 29 (first | (refine wpMix_q (v := ?_) rfl rfl (fun w' hS => ?_) ?_; rotate_left; (focus ((try obtain ⟨s0, ⟨t0, t1, t2, t3, t4, t5⟩, u0⟩ := HS.out _ (hS rfl)); clear hS; go_simp; try with_reducible rfl; done)); (try simp only [Act.put, List.setIfInBounds_toArray, List.set_cons_zero, List.set_cons_succ])) | (refine wpMix_qskip rfl rfl ?_; (try simp only [Act.put, List.setIfInBounds_toArray, List.set_cons_zero, List.set_cons_succ])) | (refine wpMix_eskip rfl rfl ( HSD).out ?_; (try simp only [Act.put, List.setIfInBounds_toArray, List.set_cons_zero, List.set_cons_succ])) | (refine wpMix_e rfl rfl (fun K hK => ?_); go_simp; refine hK.out _ _ (fun h => absurd h (by decide)) ?_; clear hK K; (try simp only [Act.put, List.setIfInBounds_toArray, List.set_cons_zero, List.set_cons_succ])))
      refine wpMix_nil ?_
      refine NoPanic.normal ?_
      go_wp2_with fail
      go_ret
      exact ⟨rfl, bchain HBX.out HSD.out⟩
    · have d1 : decide (z < 0) = false := by simpa using hz0
      rw [HZ2.out, d1, Bool.not_false, Bool.true_and] at HSB
      by_cases htn : t ≤ n
      · have d2 : decide ((n : Int) < (t : Int)) = false := by simp; omega
        have d3 : decide (n < t) = false := by simp; omega
        rw [decide_eq_true htn, Bool.true_and] at HSB
        have HNT := Lib.hid htn
        have HZN := Lib.hid hz0
        clear htn hz0
        cases beg
        · rw [Bool.not_false, Bool.true_or, Bool.true_and] at HSB
          cases fin
          · rw [Bool.not_false, Bool.true_or, Bool.true_and] at HSB
            iterate 29 (first | (refine wpMix_q (v := ?_) rfl rfl (fun w' hS => ?_) ?_; rotate_left; (focus ((try obtain ⟨s0, ⟨t0, t1, t2, t3, t4, t5⟩, u0⟩ := HS.out _ (hS rfl)); clear hS; go_simp; try with_reducible rfl; done)); (try simp only [Act.put, List.setIfInBounds_toArray, List.set_cons_zero, List.set_cons_succ])) | (refine wpMix_qskip rfl rfl ?_; (try simp only [Act.put, List.setIfInBounds_toArray, List.set_cons_zero, List.set_cons_succ])) | (refine wpMix_eskip rfl rfl ( HSD).out ?_; (try simp only [Act.put, List.setIfInBounds_toArray, List.set_cons_zero, List.set_cons_succ])) | (refine wpMix_e rfl rfl (fun K hK => ?_); go_simp; refine hK.out _ _ (fun h => absurd h (by decide)) ?_; clear hK K; (try simp only [Act.put, List.setIfInBounds_toArray, List.set_cons_zero, List.set_cons_succ])))
            refine wpMix_nil ?_
            refine NoPanic.normal ?_
            go_upto_region 4 with (fail)
            have HBE := Lib.hid (bchain HBX.out HSD.out)
            clear HS
            have HSX : Hid (∀ w' : World, Below w1.heap.size w1 w' → w'.cell? ⟨w.heap.size, 0, none⟩ = some (.slice A0 n0 c0) ∧ (w'.cell? ⟨w.heap.size + 1, 2, none⟩ = some (.slice A3 n3 c3) ∧ w'.cell? ⟨w.heap.size + 1, 3, none⟩ = some (.slice A4 n4 c4))) := by
              intro w' h
              have hb := bchain HBZ.out (bchain HSD.out h)
              obtain ⟨_, _, r2, r3, _, _⟩ := (HQ.out.below hb).cells
              exact ⟨(HP.out.below hb).cell, r2, r3⟩
            obtain ⟨f, hf⟩ : ∃ f : Nat, z = (f : Int) := ⟨z.toNat, by have := HZN.out; omega⟩
            subst hf
            have hfi : f ≤ i ∧ i = f + n3 := by have := HZ.out; omega
            have hti : i + 1 ≤ t ∧ t = i + 1 + n4 := by have := HT.out; omega
            obtain ⟨B1, m1, k1, hr1, sl1, sa1⟩ := cut_of HW.out f i hfi.1 (Nat.le_of_lt hi) hnc
            obtain ⟨B2, m2, k2, hr2, sl2, sa2⟩ := cut_of HW.out (i + 1) t hti.1 HNT.out hnc
            rw [Int.natCast_add, Int.natCast_one] at sl2 sa2
            have HR1 := Lib.hid hr1
            have HR2 := Lib.hid hr2
            have HL1 : Hid (((l.drop f).take (i - f)).length ≤ R.lft.length) := by rw [Hid, HN3.out, List.length_take]; omega
            have HL2 : Hid (((l.drop (i + 1)).take (t - (i + 1))).length ≤ R.rgt.length) := by rw [Hid, HN4.out, List.length_take]; omega
            have HF1 : Hid (fitsB I R.lft ((l.drop f).take (i - f)) = fitsB I R.lft (l.drop (i - n3))) := by rw [Hid, fitsB_take _ _ _ _ (by rw [HN3.out]; omega), show i - n3 = f by omega]
            have HF2 : Hid (fitsB I R.rgt ((l.drop (i + 1)).take (t - (i + 1))) = fitsB I R.rgt (l.drop (i + 1))) := fitsB_take _ _ _ _ (by rw [HN4.out]; omega)
            have hwi : IntKind.i64.wrap ((i : Int) + 1) = (i : Int) + 1 := IntWalk.i64_in _ (by omega)
            rw [← HF1.out, ← HF2.out] at HSB
            clear hr1 hr2 hfi hti HF1 HF2
            refine wp_region_mix 19 [0, 1, 2, 3, 4, 5, 6, 7, 8, 9, 10, 11, 12, 13, 14, 15, 16, 17, 18] [] [(true, 0), (true, 1), (true, 2), (true, 3), (true, 4), (true, 5), (true, 6), (true, 7), (false, 8), (true, 9), (true, 10), (true, 11), (true, 12), (true, 13), (true, 14), (true, 15), (true, 16), (true, 17), (true, 18), (false, 19), (false, 20), (false, 21)] (fun w' => Below w1.heap.size w1 w') (by kernel_rfl) (by kernel_rfl) ?_
            rintro V hV
            have HSV : Hid (Below w1.heap.size w1 V) := by rw [hV]; exact (Below.refl _ _).drew
            clear hV
            refine ⟨HSV.out, ?_⟩
            have HS := HSX
            clear HSX
            iterate 8 (refine wpMix_q (v := ?_) rfl rfl (fun w' hS => ?_) ?_; rotate_left; (focus ((try obtain ⟨s0, t2, t3⟩ := HS.out _ (hS rfl)); clear hS; go_simp; try with_reducible rfl; done)); (try simp only [Act.put, List.setIfInBounds_toArray, List.set_cons_zero, List.set_cons_succ]))
            refine wpMix_e rfl rfl (fun K hK => ?_)
            go_simp
            refine (fits_any _ _ _ I R.lft ((l.drop f).take (i - f)) _ (HV.out.below (bchain HBE.out HSV.out)) (HL.out.below (bchain HBE.out HSV.out)) (HR1.out.below (bchain HBE.out HSV.out)) HL1.out).mono ?_
            rintro e Y1 ⟨rfl, hb⟩
            refine hK.out _ _ (fun _ => bchain HSV.out hb) ?_
            clear hK K
            (try dsimp only); (try simp only [Act.put]); (try simp only [List.setIfInBounds_toArray, List.set_cons_zero, List.set_cons_succ])
            have HSY1 := Lib.hid (bchain HSV.out hb)
            clear hb
            cases hff : fitsB I R.lft ((l.drop f).take (i - f))
            · rw [hff, Bool.false_and] at HSB
              have hsb := HSB.out
              subst hsb
              clear hff
              iterate 13 (first | (refine wpMix_q (v := ?_) rfl rfl (fun w' hS => ?_) ?_; rotate_left; (focus ((try obtain ⟨s0, t2, t3⟩ := HS.out _ (hS rfl)); clear hS; go_simp; try with_reducible rfl; done)); (try simp only [Act.put, List.setIfInBounds_toArray, List.set_cons_zero, List.set_cons_succ])) | (refine wpMix_qskip rfl rfl ?_; (try simp only [Act.put, List.setIfInBounds_toArray, List.set_cons_zero, List.set_cons_succ])) | (refine wpMix_eskip rfl rfl ( HSY1).out ?_; (try simp only [Act.put, List.setIfInBounds_toArray, List.set_cons_zero, List.set_cons_succ])) | (refine wpMix_e rfl rfl (fun K hK => ?_); go_simp; refine hK.out _ _ (fun h => absurd h (by decide)) ?_; clear hK K; (try simp only [Act.put, List.setIfInBounds_toArray, List.set_cons_zero, List.set_cons_succ])))
              refine wpMix_nil ?_
              refine NoPanic.normal ?_
              go_wp2_with fail
              go_ret
              exact ⟨rfl, bchain HBE.out HSY1.out⟩
            · rw [hff, Bool.true_and] at HSB
              clear hff
              iterate 10 (refine wpMix_q (v := ?_) rfl rfl (fun w' hS => ?_) ?_; rotate_left; (focus ((try obtain ⟨s0, t2, t3⟩ := HS.out _ (hS rfl)); clear hS; go_simp; try with_reducible rfl; done)); (try simp only [Act.put, List.setIfInBounds_toArray, List.set_cons_zero, List.set_cons_succ]))
              refine wpMix_e rfl rfl (fun K hK => ?_)
              go_simp
              refine (fits_any _ _ _ I R.rgt ((l.drop (i + 1)).take (t - (i + 1))) _ (HV.out.below (bchain HBE.out HSY1.out)) (HG.out.below (bchain HBE.out HSY1.out)) (HR2.out.below (bchain HBE.out HSY1.out)) HL2.out).mono ?_
              rintro e Y2 ⟨rfl, hb⟩
              refine hK.out _ _ (fun h => absurd h (by decide)) ?_
              clear hK K
              (try dsimp only); (try simp only [Act.put]); (try simp only [List.setIfInBounds_toArray, List.set_cons_zero, List.set_cons_succ])
              have HSY2 := Lib.hid (bchain HSY1.out hb)
              clear hb
              rw [HSB.out]
              iterate 2 (refine wpMix_e rfl rfl (fun K hK => ?_); go_simp; refine hK.out _ _ (fun h => absurd h (by decide)) ?_; clear hK K; (try simp only [Act.put, List.setIfInBounds_toArray, List.set_cons_zero, List.set_cons_succ]))
              refine wpMix_nil ?_
              refine NoPanic.normal ?_
              go_wp2_with fail
              go_ret
              exact ⟨rfl, bchain HBE.out HSY2.out⟩
          · rw [Bool.not_true, Bool.false_or] at HSB
            by_cases ht1 : t < n
            · have d5 : decide (t < n) = true := by simpa using ht1
              have d6 : decide ((t : Int) < (n : Int)) = true := by simp; omega
              have hnt : ¬ n ≤ t := by omega
              rw [decide_eq_false hnt, Bool.false_and] at HSB
              have hsb := HSB.out
              subst hsb
              clear ht1 hnt
              iterate 29 (first | (refine wpMix_q (v := ?_) rfl rfl (fun w' hS => ?_) ?_; rotate_left; (focus ((try obtain ⟨s0, ⟨t0, t1, t2, t3, t4, t5⟩, u0⟩ := HS.out _ (hS rfl)); clear hS; go_simp; try with_reducible rfl; done)); (try simp only [Act.put, List.setIfInBounds_toArray, List.set_cons_zero, List.set_cons_succ])) | (refine wpMix_qskip rfl rfl ?_; (try simp only [Act.put, List.setIfInBounds_toArray, List.set_cons_zero, List.set_cons_succ])) | (refine wpMix_eskip rfl rfl ( HSD).out ?_; (try simp only [Act.put, List.setIfInBounds_toArray, List.set_cons_zero, List.set_cons_succ])) | (refine wpMix_e rfl rfl (fun K hK => ?_); go_simp; refine hK.out _ _ (fun h => absurd h (by decide)) ?_; clear hK K; (try simp only [Act.put, List.setIfInBounds_toArray, List.set_cons_zero, List.set_cons_succ])))
              refine wpMix_nil ?_
              refine NoPanic.normal ?_
              go_wp2_with fail
              go_ret
              exact ⟨rfl, bchain HBX.out HSD.out⟩
            · have d5 : decide (t < n) = false := by simpa using ht1
              have d6 : decide ((t : Int) < (n : Int)) = false := by simp; omega
              have hnt : n ≤ t := by omega
              rw [decide_eq_true hnt, Bool.true_and] at HSB
              clear ht1 hnt
              iterate 29 (first | (refine wpMix_q (v := ?_) rfl rfl (fun w' hS => ?_) ?_; rotate_left; (focus ((try obtain ⟨s0, ⟨t0, t1, t2, t3, t4, t5⟩, u0⟩ := HS.out _ (hS rfl)); clear hS; go_simp; try with_reducible rfl; done)); (try simp only [Act.put, List.setIfInBounds_toArray, List.set_cons_zero, List.set_cons_succ])) | (refine wpMix_qskip rfl rfl ?_; (try simp only [Act.put, List.setIfInBounds_toArray, List.set_cons_zero, List.set_cons_succ])) | (refine wpMix_eskip rfl rfl ( HSD).out ?_; (try simp only [Act.put, List.setIfInBounds_toArray, List.set_cons_zero, List.set_cons_succ])) | (refine wpMix_e rfl rfl (fun K hK => ?_); go_simp; refine hK.out _ _ (fun h => absurd h (by decide)) ?_; clear hK K; (try simp only [Act.put, List.setIfInBounds_toArray, List.set_cons_zero, List.set_cons_succ])))
              refine wpMix_nil ?_
              refine NoPanic.normal ?_
              go_upto_region 4 with (fail)
              have HBE := Lib.hid (bchain HBX.out HSD.out)
              clear HS
              have HSX : Hid (∀ w' : World, Below w1.heap.size w1 w' → w'.cell? ⟨w.heap.size, 0, none⟩ = some (.slice A0 n0 c0) ∧ (w'.cell? ⟨w.heap.size + 1, 2, none⟩ = some (.slice A3 n3 c3) ∧ w'.cell? ⟨w.heap.size + 1, 3, none⟩ = some (.slice A4 n4 c4))) := by
                intro w' h
                have hb := bchain HBZ.out (bchain HSD.out h)
                obtain ⟨_, _, r2, r3, _, _⟩ := (HQ.out.below hb).cells
                exact ⟨(HP.out.below hb).cell, r2, r3⟩
              obtain ⟨f, hf⟩ : ∃ f : Nat, z = (f : Int) := ⟨z.toNat, by have := HZN.out; omega⟩
              subst hf
              have hfi : f ≤ i ∧ i = f + n3 := by have := HZ.out; omega
              have hti : i + 1 ≤ t ∧ t = i + 1 + n4 := by have := HT.out; omega
              obtain ⟨B1, m1, k1, hr1, sl1, sa1⟩ := cut_of HW.out f i hfi.1 (Nat.le_of_lt hi) hnc
              obtain ⟨B2, m2, k2, hr2, sl2, sa2⟩ := cut_of HW.out (i + 1) t hti.1 HNT.out hnc
              rw [Int.natCast_add, Int.natCast_one] at sl2 sa2
              have HR1 := Lib.hid hr1
              have HR2 := Lib.hid hr2
              have HL1 : Hid (((l.drop f).take (i - f)).length ≤ R.lft.length) := by rw [Hid, HN3.out, List.length_take]; omega
              have HL2 : Hid (((l.drop (i + 1)).take (t - (i + 1))).length ≤ R.rgt.length) := by rw [Hid, HN4.out, List.length_take]; omega
              have HF1 : Hid (fitsB I R.lft ((l.drop f).take (i - f)) = fitsB I R.lft (l.drop (i - n3))) := by rw [Hid, fitsB_take _ _ _ _ (by rw [HN3.out]; omega), show i - n3 = f by omega]
              have HF2 : Hid (fitsB I R.rgt ((l.drop (i + 1)).take (t - (i + 1))) = fitsB I R.rgt (l.drop (i + 1))) := fitsB_take _ _ _ _ (by rw [HN4.out]; omega)
              have hwi : IntKind.i64.wrap ((i : Int) + 1) = (i : Int) + 1 := IntWalk.i64_in _ (by omega)
              rw [← HF1.out, ← HF2.out] at HSB
              clear hr1 hr2 hfi hti HF1 HF2
              refine wp_region_mix 19 [0, 1, 2, 3, 4, 5, 6, 7, 8, 9, 10, 11, 12, 13, 14, 15, 16, 17, 18] [] [(true, 0), (true, 1), (true, 2), (true, 3), (true, 4), (true, 5), (true, 6), (true, 7), (false, 8), (true, 9), (true, 10), (true, 11), (true, 12), (true, 13), (true, 14), (true, 15), (true, 16), (true, 17), (true, 18), (false, 19), (false, 20), (false, 21)] (fun w' => Below w1.heap.size w1 w') (by kernel_rfl) (by kernel_rfl) ?_
              rintro V hV
              have HSV : Hid (Below w1.heap.size w1 V) := by rw [hV]; exact (Below.refl _ _).drew
              clear hV
              refine ⟨HSV.out, ?_⟩
              have HS := HSX
              clear HSX
              iterate 8 (refine wpMix_q (v := ?_) rfl rfl (fun w' hS => ?_) ?_; rotate_left; (focus ((try obtain ⟨s0, t2, t3⟩ := HS.out _ (hS rfl)); clear hS; go_simp; try with_reducible rfl; done)); (try simp only [Act.put, List.setIfInBounds_toArray, List.set_cons_zero, List.set_cons_succ]))
              refine wpMix_e rfl rfl (fun K hK => ?_)
              go_simp
              refine (fits_any _ _ _ I R.lft ((l.drop f).take (i - f)) _ (HV.out.below (bchain HBE.out HSV.out)) (HL.out.below (bchain HBE.out HSV.out)) (HR1.out.below (bchain HBE.out HSV.out)) HL1.out).mono ?_
              rintro e Y1 ⟨rfl, hb⟩
              refine hK.out _ _ (fun _ => bchain HSV.out hb) ?_
              clear hK K
              (try dsimp only); (try simp only [Act.put]); (try simp only [List.setIfInBounds_toArray, List.set_cons_zero, List.set_cons_succ])
              have HSY1 := Lib.hid (bchain HSV.out hb)
              clear hb
              cases hff : fitsB I R.lft ((l.drop f).take (i - f))
              · rw [hff, Bool.false_and] at HSB
                have hsb := HSB.out
                subst hsb
                clear hff
                iterate 13 (first | (refine wpMix_q (v := ?_) rfl rfl (fun w' hS => ?_) ?_; rotate_left; (focus ((try obtain ⟨s0, t2, t3⟩ := HS.out _ (hS rfl)); clear hS; go_simp; try with_reducible rfl; done)); (try simp only [Act.put, List.setIfInBounds_toArray, List.set_cons_zero, List.set_cons_succ])) | (refine wpMix_qskip rfl rfl ?_; (try simp only [Act.put, List.setIfInBounds_toArray, List.set_cons_zero, List.set_cons_succ])) | (refine wpMix_eskip rfl rfl ( HSY1).out ?_; (try simp only [Act.put, List.setIfInBounds_toArray, List.set_cons_zero, List.set_cons_succ])) | (refine wpMix_e rfl rfl (fun K hK => ?_); go_simp; refine hK.out _ _ (fun h => absurd h (by decide)) ?_; clear hK K; (try simp only [Act.put, List.setIfInBounds_toArray, List.set_cons_zero, List.set_cons_succ])))
                refine wpMix_nil ?_
                refine NoPanic.normal ?_
                go_wp2_with fail
                go_ret
                exact ⟨rfl, bchain HBE.out HSY1.out⟩
              · rw [hff, Bool.true_and] at HSB
                clear hff
                iterate 10 (refine wpMix_q (v := ?_) rfl rfl (fun w' hS => ?_) ?_; rotate_left; (focus ((try obtain ⟨s0, t2, t3⟩ := HS.out _ (hS rfl)); clear hS; go_simp; try with_reducible rfl; done)); (try simp only [Act.put, List.setIfInBounds_toArray, List.set_cons_zero, List.set_cons_succ]))
                refine wpMix_e rfl rfl (fun K hK => ?_)
                go_simp
                refine (fits_any _ _ _ I R.rgt ((l.drop (i + 1)).take (t - (i + 1))) _ (HV.out.below (bchain HBE.out HSY1.out)) (HG.out.below (bchain HBE.out HSY1.out)) (HR2.out.below (bchain HBE.out HSY1.out)) HL2.out).mono ?_
                rintro e Y2 ⟨rfl, hb⟩
                refine hK.out _ _ (fun h => absurd h (by decide)) ?_
                clear hK K
                (try dsimp only); (try simp only [Act.put]); (try simp only [List.setIfInBounds_toArray, List.set_cons_zero, List.set_cons_succ])
                have HSY2 := Lib.hid (bchain HSY1.out hb)
                clear hb
                rw [HSB.out]
                iterate 2 (refine wpMix_e rfl rfl (fun K hK => ?_); go_simp; refine hK.out _ _ (fun h => absurd h (by decide)) ?_; clear hK K; (try simp only [Act.put, List.setIfInBounds_toArray, List.set_cons_zero, List.set_cons_succ]))
                refine wpMix_nil ?_
                refine NoPanic.normal ?_
                go_wp2_with fail
                go_ret
                exact ⟨rfl, bchain HBE.out HSY2.out⟩
        · rw [Bool.not_true, Bool.false_or] at HSB
          by_cases hz1 : 0 < z
          · have d4 : decide (0 < z) = true := by simpa using hz1
            have hni : ¬ i ≤ n3 := by have := HZ.out; omega
            rw [decide_eq_false hni, Bool.false_and] at HSB
            have hsb := HSB.out
            subst hsb
            clear hz1 hni
            iterate 29 (first | (refine wpMix_q (v := ?_) rfl rfl (fun w' hS => ?_) ?_; rotate_left; (focus ((try obtain ⟨s0, ⟨t0, t1, t2, t3, t4, t5⟩, u0⟩ := HS.out _ (hS rfl)); clear hS; go_simp; try with_reducible rfl; done)); (try simp only [Act.put, List.setIfInBounds_toArray, List.set_cons_zero, List.set_cons_succ])) | (refine wpMix_qskip rfl rfl ?_; (try simp only [Act.put, List.setIfInBounds_toArray, List.set_cons_zero, List.set_cons_succ])) | (refine wpMix_eskip rfl rfl ( HSD).out ?_; (try simp only [Act.put, List.setIfInBounds_toArray, List.set_cons_zero, List.set_cons_succ])) | (refine wpMix_e rfl rfl (fun K hK => ?_); go_simp; refine hK.out _ _ (fun h => absurd h (by decide)) ?_; clear hK K; (try simp only [Act.put, List.setIfInBounds_toArray, List.set_cons_zero, List.set_cons_succ])))
            refine wpMix_nil ?_
            refine NoPanic.normal ?_
            go_wp2_with fail
            go_ret
            exact ⟨rfl, bchain HBX.out HSD.out⟩
          · have d4 : decide (0 < z) = false := by simpa using hz1
            have hni : i ≤ n3 := by have := HZ.out; omega
            rw [decide_eq_true hni, Bool.true_and] at HSB
            clear hz1 hni
            cases fin
            · rw [Bool.not_false, Bool.true_or, Bool.true_and] at HSB
              iterate 29 (first | (refine wpMix_q (v := ?_) rfl rfl (fun w' hS => ?_) ?_; rotate_left; (focus ((try obtain ⟨s0, ⟨t0, t1, t2, t3, t4, t5⟩, u0⟩ := HS.out _ (hS rfl)); clear hS; go_simp; try with_reducible rfl; done)); (try simp only [Act.put, List.setIfInBounds_toArray, List.set_cons_zero, List.set_cons_succ])) | (refine wpMix_qskip rfl rfl ?_; (try simp only [Act.put, List.setIfInBounds_toArray, List.set_cons_zero, List.set_cons_succ])) | (refine wpMix_eskip rfl rfl ( HSD).out ?_; (try simp only [Act.put, List.setIfInBounds_toArray, List.set_cons_zero, List.set_cons_succ])) | (refine wpMix_e rfl rfl (fun K hK => ?_); go_simp; refine hK.out _ _ (fun h => absurd h (by decide)) ?_; clear hK K; (try simp only [Act.put, List.setIfInBounds_toArray, List.set_cons_zero, List.set_cons_succ])))
              refine wpMix_nil ?_
              refine NoPanic.normal ?_
              go_upto_region 4 with (fail)
              have HBE := Lib.hid (bchain HBX.out HSD.out)
              clear HS
              have HSX : Hid (∀ w' : World, Below w1.heap.size w1 w' → w'.cell? ⟨w.heap.size, 0, none⟩ = some (.slice A0 n0 c0) ∧ (w'.cell? ⟨w.heap.size + 1, 2, none⟩ = some (.slice A3 n3 c3) ∧ w'.cell? ⟨w.heap.size + 1, 3, none⟩ = some (.slice A4 n4 c4))) := by
                intro w' h
                have hb := bchain HBZ.out (bchain HSD.out h)
                obtain ⟨_, _, r2, r3, _, _⟩ := (HQ.out.below hb).cells
                exact ⟨(HP.out.below hb).cell, r2, r3⟩
              obtain ⟨f, hf⟩ : ∃ f : Nat, z = (f : Int) := ⟨z.toNat, by have := HZN.out; omega⟩
              subst hf
              have hfi : f ≤ i ∧ i = f + n3 := by have := HZ.out; omega
              have hti : i + 1 ≤ t ∧ t = i + 1 + n4 := by have := HT.out; omega
              obtain ⟨B1, m1, k1, hr1, sl1, sa1⟩ := cut_of HW.out f i hfi.1 (Nat.le_of_lt hi) hnc
              obtain ⟨B2, m2, k2, hr2, sl2, sa2⟩ := cut_of HW.out (i + 1) t hti.1 HNT.out hnc
              rw [Int.natCast_add, Int.natCast_one] at sl2 sa2
              have HR1 := Lib.hid hr1
              have HR2 := Lib.hid hr2
              have HL1 : Hid (((l.drop f).take (i - f)).length ≤ R.lft.length) := by rw [Hid, HN3.out, List.length_take]; omega
              have HL2 : Hid (((l.drop (i + 1)).take (t - (i + 1))).length ≤ R.rgt.length) := by rw [Hid, HN4.out, List.length_take]; omega
              have HF1 : Hid (fitsB I R.lft ((l.drop f).take (i - f)) = fitsB I R.lft (l.drop (i - n3))) := by rw [Hid, fitsB_take _ _ _ _ (by rw [HN3.out]; omega), show i - n3 = f by omega]
              have HF2 : Hid (fitsB I R.rgt ((l.drop (i + 1)).take (t - (i + 1))) = fitsB I R.rgt (l.drop (i + 1))) := fitsB_take _ _ _ _ (by rw [HN4.out]; omega)
              have hwi : IntKind.i64.wrap ((i : Int) + 1) = (i : Int) + 1 := IntWalk.i64_in _ (by omega)
              rw [← HF1.out, ← HF2.out] at HSB
              clear hr1 hr2 hfi hti HF1 HF2
              refine wp_region_mix 19 [0, 1, 2, 3, 4, 5, 6, 7, 8, 9, 10, 11, 12, 13, 14, 15, 16, 17, 18] [] [(true, 0), (true, 1), (true, 2), (true, 3), (true, 4), (true, 5), (true, 6), (true, 7), (false, 8), (true, 9), (true, 10), (true, 11), (true, 12), (true, 13), (true, 14), (true, 15), (true, 16), (true, 17), (true, 18), (false, 19), (false, 20), (false, 21)] (fun w' => Below w1.heap.size w1 w') (by kernel_rfl) (by kernel_rfl) ?_
              rintro V hV
              have HSV : Hid (Below w1.heap.size w1 V) := by rw [hV]; exact (Below.refl _ _).drew
              clear hV
              refine ⟨HSV.out, ?_⟩
              have HS := HSX
              clear HSX
              iterate 8 (refine wpMix_q (v := ?_) rfl rfl (fun w' hS => ?_) ?_; rotate_left; (focus ((try obtain ⟨s0, t2, t3⟩ := HS.out _ (hS rfl)); clear hS; go_simp; try with_reducible rfl; done)); (try simp only [Act.put, List.setIfInBounds_toArray, List.set_cons_zero, List.set_cons_succ]))
              refine wpMix_e rfl rfl (fun K hK => ?_)
              go_simp
              refine (fits_any _ _ _ I R.lft ((l.drop f).take (i - f)) _ (HV.out.below (bchain HBE.out HSV.out)) (HL.out.below (bchain HBE.out HSV.out)) (HR1.out.below (bchain HBE.out HSV.out)) HL1.out).mono ?_
              rintro e Y1 ⟨rfl, hb⟩
              refine hK.out _ _ (fun _ => bchain HSV.out hb) ?_
              clear hK K
              (try dsimp only); (try simp only [Act.put]); (try simp only [List.setIfInBounds_toArray, List.set_cons_zero, List.set_cons_succ])
              have HSY1 := Lib.hid (bchain HSV.out hb)
              clear hb
              cases hff : fitsB I R.lft ((l.drop f).take (i - f))
              · rw [hff, Bool.false_and] at HSB
                have hsb := HSB.out
                subst hsb
                clear hff
                iterate 13 (first | (refine wpMix_q (v := ?_) rfl rfl (fun w' hS => ?_) ?_; rotate_left; (focus ((try obtain ⟨s0, t2, t3⟩ := HS.out _ (hS rfl)); clear hS; go_simp; try with_reducible rfl; done)); (try simp only [Act.put, List.setIfInBounds_toArray, List.set_cons_zero, List.set_cons_succ])) | (refine wpMix_qskip rfl rfl ?_; (try simp only [Act.put, List.setIfInBounds_toArray, List.set_cons_zero, List.set_cons_succ])) | (refine wpMix_eskip rfl rfl ( HSY1).out ?_; (try simp only [Act.put, List.setIfInBounds_toArray, List.set_cons_zero, List.set_cons_succ])) | (refine wpMix_e rfl rfl (fun K hK => ?_); go_simp; refine hK.out _ _ (fun h => absurd h (by decide)) ?_; clear hK K; (try simp only [Act.put, List.setIfInBounds_toArray, List.set_cons_zero, List.set_cons_succ])))
                refine wpMix_nil ?_
                refine NoPanic.normal ?_
                go_wp2_with fail
                go_ret
                exact ⟨rfl, bchain HBE.out HSY1.out⟩
              · rw [hff, Bool.true_and] at HSB
                clear hff
                iterate 10 (refine wpMix_q (v := ?_) rfl rfl (fun w' hS => ?_) ?_; rotate_left; (focus ((try obtain ⟨s0, t2, t3⟩ := HS.out _ (hS rfl)); clear hS; go_simp; try with_reducible rfl; done)); (try simp only [Act.put, List.setIfInBounds_toArray, List.set_cons_zero, List.set_cons_succ]))
                refine wpMix_e rfl rfl (fun K hK => ?_)
                go_simp
                refine (fits_any _ _ _ I R.rgt ((l.drop (i + 1)).take (t - (i + 1))) _ (HV.out.below (bchain HBE.out HSY1.out)) (HG.out.below (bchain HBE.out HSY1.out)) (HR2.out.below (bchain HBE.out HSY1.out)) HL2.out).mono ?_
                rintro e Y2 ⟨rfl, hb⟩
                refine hK.out _ _ (fun h => absurd h (by decide)) ?_
                clear hK K
                (try dsimp only); (try simp only [Act.put]); (try simp only [List.setIfInBounds_toArray, List.set_cons_zero, List.set_cons_succ])
                have HSY2 := Lib.hid (bchain HSY1.out hb)
                clear hb
                rw [HSB.out]
                iterate 2 (refine wpMix_e rfl rfl (fun K hK => ?_); go_simp; refine hK.out _ _ (fun h => absurd h (by decide)) ?_; clear hK K; (try simp only [Act.put, List.setIfInBounds_toArray, List.set_cons_zero, List.set_cons_succ]))
                refine wpMix_nil ?_
                refine NoPanic.normal ?_
                go_wp2_with fail
                go_ret
                exact ⟨rfl, bchain HBE.out HSY2.out⟩
            · rw [Bool.not_true, Bool.false_or] at HSB
              by_cases ht1 : t < n
              · have d5 : decide (t < n) = true := by simpa using ht1
                have d6 : decide ((t : Int) < (n : Int)) = true := by simp; omega
                have hnt : ¬ n ≤ t := by omega
                rw [decide_eq_false hnt, Bool.false_and] at HSB
                have hsb := HSB.out
                subst hsb
                clear ht1 hnt
                iterate 29 (first | (refine wpMix_q (v := ?_) rfl rfl (fun w' hS => ?_) ?_; rotate_left; (focus ((try obtain ⟨s0, ⟨t0, t1, t2, t3, t4, t5⟩, u0⟩ := HS.out _ (hS rfl)); clear hS; go_simp; try with_reducible rfl; done)); (try simp only [Act.put, List.setIfInBounds_toArray, List.set_cons_zero, List.set_cons_succ])) | (refine wpMix_qskip rfl rfl ?_; (try simp only [Act.put, List.setIfInBounds_toArray, List.set_cons_zero, List.set_cons_succ])) | (refine wpMix_eskip rfl rfl ( HSD).out ?_; (try simp only [Act.put, List.setIfInBounds_toArray, List.set_cons_zero, List.set_cons_succ])) | (refine wpMix_e rfl rfl (fun K hK => ?_); go_simp; refine hK.out _ _ (fun h => absurd h (by decide)) ?_; clear hK K; (try simp only [Act.put, List.setIfInBounds_toArray, List.set_cons_zero, List.set_cons_succ])))
                refine wpMix_nil ?_
                refine NoPanic.normal ?_
                go_wp2_with fail
                go_ret
                exact ⟨rfl, bchain HBX.out HSD.out⟩
              · have d5 : decide (t < n) = false := by simpa using ht1
                have d6 : decide ((t : Int) < (n : Int)) = false := by simp; omega
                have hnt : n ≤ t := by omega
                rw [decide_eq_true hnt, Bool.true_and] at HSB
                clear ht1 hnt
                iterate 29 (first | (refine wpMix_q (v := ?_) rfl rfl (fun w' hS => ?_) ?_; rotate_left; (focus ((try obtain ⟨s0, ⟨t0, t1, t2, t3, t4, t5⟩, u0⟩ := HS.out _ (hS rfl)); clear hS; go_simp; try with_reducible rfl; done)); (try simp only [Act.put, List.setIfInBounds_toArray, List.set_cons_zero, List.set_cons_succ])) | (refine wpMix_qskip rfl rfl ?_; (try simp only [Act.put, List.setIfInBounds_toArray, List.set_cons_zero, List.set_cons_succ])) | (refine wpMix_eskip rfl rfl ( HSD).out ?_; (try simp only [Act.put, List.setIfInBounds_toArray, List.set_cons_zero, List.set_cons_succ])) | (refine wpMix_e rfl rfl (fun K hK => ?_); go_simp; refine hK.out _ _ (fun h => absurd h (by decide)) ?_; clear hK K; (try simp only [Act.put, List.setIfInBounds_toArray, List.set_cons_zero, List.set_cons_succ])))
                refine wpMix_nil ?_
                refine NoPanic.normal ?_
                go_upto_region 4 with (fail)
                have HBE := Lib.hid (bchain HBX.out HSD.out)
                clear HS
                have HSX : Hid (∀ w' : World, Below w1.heap.size w1 w' → w'.cell? ⟨w.heap.size, 0, none⟩ = some (.slice A0 n0 c0) ∧ (w'.cell? ⟨w.heap.size + 1, 2, none⟩ = some (.slice A3 n3 c3) ∧ w'.cell? ⟨w.heap.size + 1, 3, none⟩ = some (.slice A4 n4 c4))) := by
                  intro w' h
                  have hb := bchain HBZ.out (bchain HSD.out h)
                  obtain ⟨_, _, r2, r3, _, _⟩ := (HQ.out.below hb).cells
                  exact ⟨(HP.out.below hb).cell, r2, r3⟩
                obtain ⟨f, hf⟩ : ∃ f : Nat, z = (f : Int) := ⟨z.toNat, by have := HZN.out; omega⟩
                subst hf
                have hfi : f ≤ i ∧ i = f + n3 := by have := HZ.out; omega
                have hti : i + 1 ≤ t ∧ t = i + 1 + n4 := by have := HT.out; omega
                obtain ⟨B1, m1, k1, hr1, sl1, sa1⟩ := cut_of HW.out f i hfi.1 (Nat.le_of_lt hi) hnc
                obtain ⟨B2, m2, k2, hr2, sl2, sa2⟩ := cut_of HW.out (i + 1) t hti.1 HNT.out hnc
                rw [Int.natCast_add, Int.natCast_one] at sl2 sa2
                have HR1 := Lib.hid hr1
                have HR2 := Lib.hid hr2
                have HL1 : Hid (((l.drop f).take (i - f)).length ≤ R.lft.length) := by rw [Hid, HN3.out, List.length_take]; omega
                have HL2 : Hid (((l.drop (i + 1)).take (t - (i + 1))).length ≤ R.rgt.length) := by rw [Hid, HN4.out, List.length_take]; omega
                have HF1 : Hid (fitsB I R.lft ((l.drop f).take (i - f)) = fitsB I R.lft (l.drop (i - n3))) := by rw [Hid, fitsB_take _ _ _ _ (by rw [HN3.out]; omega), show i - n3 = f by omega]
                have HF2 : Hid (fitsB I R.rgt ((l.drop (i + 1)).take (t - (i + 1))) = fitsB I R.rgt (l.drop (i + 1))) := fitsB_take _ _ _ _ (by rw [HN4.out]; omega)
                have hwi : IntKind.i64.wrap ((i : Int) + 1) = (i : Int) + 1 := IntWalk.i64_in _ (by omega)
                rw [← HF1.out, ← HF2.out] at HSB
                clear hr1 hr2 hfi hti HF1 HF2
                refine wp_region_mix 19 [0, 1, 2, 3, 4, 5, 6, 7, 8, 9, 10, 11, 12, 13, 14, 15, 16, 17, 18] [] [(true, 0), (true, 1), (true, 2), (true, 3), (true, 4), (true, 5), (true, 6), (true, 7), (false, 8), (true, 9), (true, 10), (true, 11), (true, 12), (true, 13), (true, 14), (true, 15), (true, 16), (true, 17), (true, 18), (false, 19), (false, 20), (false, 21)] (fun w' => Below w1.heap.size w1 w') (by kernel_rfl) (by kernel_rfl) ?_
                rintro V hV
                have HSV : Hid (Below w1.heap.size w1 V) := by rw [hV]; exact (Below.refl _ _).drew
                clear hV
                refine ⟨HSV.out, ?_⟩
                have HS := HSX
                clear HSX
                iterate 8 (refine wpMix_q (v := ?_) rfl rfl (fun w' hS => ?_) ?_; rotate_left; (focus ((try obtain ⟨s0, t2, t3⟩ := HS.out _ (hS rfl)); clear hS; go_simp; try with_reducible rfl; done)); (try simp only [Act.put, List.setIfInBounds_toArray, List.set_cons_zero, List.set_cons_succ]))
                refine wpMix_e rfl rfl (fun K hK => ?_)
                go_simp
                refine (fits_any _ _ _ I R.lft ((l.drop f).take (i - f)) _ (HV.out.below (bchain HBE.out HSV.out)) (HL.out.below (bchain HBE.out HSV.out)) (HR1.out.below (bchain HBE.out HSV.out)) HL1.out).mono ?_
                rintro e Y1 ⟨rfl, hb⟩
                refine hK.out _ _ (fun _ => bchain HSV.out hb) ?_
                clear hK K
                (try dsimp only); (try simp only [Act.put]); (try simp only [List.setIfInBounds_toArray, List.set_cons_zero, List.set_cons_succ])
                have HSY1 := Lib.hid (bchain HSV.out hb)
                clear hb
                cases hff : fitsB I R.lft ((l.drop f).take (i - f))
                · rw [hff, Bool.false_and] at HSB
                  have hsb := HSB.out
                  subst hsb
                  clear hff
                  iterate 13 (first | (refine wpMix_q (v := ?_) rfl rfl (fun w' hS => ?_) ?_; rotate_left; (focus ((try obtain ⟨s0, t2, t3⟩ := HS.out _ (hS rfl)); clear hS; go_simp; try with_reducible rfl; done)); (try simp only [Act.put, List.setIfInBounds_toArray, List.set_cons_zero, List.set_cons_succ])) | (refine wpMix_qskip rfl rfl ?_; (try simp only [Act.put, List.setIfInBounds_toArray, List.set_cons_zero, List.set_cons_succ])) | (refine wpMix_eskip rfl rfl ( HSY1).out ?_; (try simp only [Act.put, List.setIfInBounds_toArray, List.set_cons_zero, List.set_cons_succ])) | (refine wpMix_e rfl rfl (fun K hK => ?_); go_simp; refine hK.out _ _ (fun h => absurd h (by decide)) ?_; clear hK K; (try simp only [Act.put, List.setIfInBounds_toArray, List.set_cons_zero, List.set_cons_succ])))
                  refine wpMix_nil ?_
                  refine NoPanic.normal ?_
                  go_wp2_with fail
                  go_ret
                  exact ⟨rfl, bchain HBE.out HSY1.out⟩
                · rw [hff, Bool.true_and] at HSB
                  clear hff
                  iterate 10 (refine wpMix_q (v := ?_) rfl rfl (fun w' hS => ?_) ?_; rotate_left; (focus ((try obtain ⟨s0, t2, t3⟩ := HS.out _ (hS rfl)); clear hS; go_simp; try with_reducible rfl; done)); (try simp only [Act.put, List.setIfInBounds_toArray, List.set_cons_zero, List.set_cons_succ]))
                  refine wpMix_e rfl rfl (fun K hK => ?_)
                  go_simp
                  refine (fits_any _ _ _ I R.rgt ((l.drop (i + 1)).take (t - (i + 1))) _ (HV.out.below (bchain HBE.out HSY1.out)) (HG.out.below (bchain HBE.out HSY1.out)) (HR2.out.below (bchain HBE.out HSY1.out)) HL2.out).mono ?_
                  rintro e Y2 ⟨rfl, hb⟩
                  refine hK.out _ _ (fun h => absurd h (by decide)) ?_
                  clear hK K
                  (try dsimp only); (try simp only [Act.put]); (try simp only [List.setIfInBounds_toArray, List.set_cons_zero, List.set_cons_succ])
                  have HSY2 := Lib.hid (bchain HSY1.out hb)
                  clear hb
                  rw [HSB.out]
                  iterate 2 (refine wpMix_e rfl rfl (fun K hK => ?_); go_simp; refine hK.out _ _ (fun h => absurd h (by decide)) ?_; clear hK K; (try simp only [Act.put, List.setIfInBounds_toArray, List.set_cons_zero, List.set_cons_succ]))
                  refine wpMix_nil ?_
                  refine NoPanic.normal ?_
                  go_wp2_with fail
                  go_ret
                  exact ⟨rfl, bchain HBE.out HSY2.out⟩
      · have d2 : decide ((n : Int) < (t : Int)) = true := by simp; omega
        have d3 : decide (n < t) = true := by simp; omega
        rw [decide_eq_false htn, Bool.false_and] at HSB
        have hsb := HSB.out
        subst hsb
        clear htn
        iterate 29 (first | (refine wpMix_q (v := ?_) rfl rfl (fun w' hS => ?_) ?_; rotate_left; (focus ((try obtain ⟨s0, ⟨t0, t1, t2, t3, t4, t5⟩, u0⟩ := HS.out _ (hS rfl)); clear hS; go_simp; try with_reducible rfl; done)); (try simp only [Act.put, List.setIfInBounds_toArray, List.set_cons_zero, List.set_cons_succ])) | (refine wpMix_qskip rfl rfl ?_; (try simp only [Act.put, List.setIfInBounds_toArray, List.set_cons_zero, List.set_cons_succ])) | (refine wpMix_eskip rfl rfl ( HSD).out ?_; (try simp only [Act.put, List.setIfInBounds_toArray, List.set_cons_zero, List.set_cons_succ])) | (refine wpMix_e rfl rfl (fun K hK => ?_); go_simp; refine hK.out _ _ (fun h => absurd h (by decide)) ?_; clear hK K; (try simp only [Act.put, List.setIfInBounds_toArray, List.set_cons_zero, List.set_cons_succ])))
        refine wpMix_nil ?_
        refine NoPanic.normal ?_
        go_wp2_with fail
        go_ret
        exact ⟨rfl, bchain HBX.out HSD.out⟩
end Go.Proofs.Ytdijlakeonionaa
