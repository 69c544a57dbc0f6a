/-
  site of the reference.
-/
import Derived.Test.YtdijlakeonionaaQ5
namespace Go.Proofs.Ytdijlakeonionaa
open Go.ChangeShapes Go.WideShapes Go.ChangeAt Go.RowKit
theorem fitsB_nil (I : List PPh) (s : List Int) : fitsB I [] s = true := by cases s <;> rfl
def SiteG (g sb : Bool) (z : Int) (t n : Nat) (f : Bool) : Prop := (g = true ∧ sb = false) ∨ (g = false ∧ 0 ≤ z ∧ t ≤ n ∧ f = sb)
theorem SiteG.no {z : Int} {t n : Nat} {f : Bool} : SiteG true false z t n f := .inl ⟨rfl, rfl⟩
theorem SiteG.yes {sb : Bool} {z : Int} {t n : Nat} {f : Bool} (h1 : 0 ≤ z) (h2 : t ≤ n) (h3 : f = sb) : SiteG false sb z t n f := .inr ⟨rfl, h1, h2, h3⟩
set_option maxHeartbeats 4000000 in
set_option maxRecDepth 100000 in
theorem rsite_any (v vr vw : Value) (I : List PPh) (R : PRule) (l : List Int) (i : Nat) (w : World) (hv : RdV w v I) (hr : RdR w vr R) (hw : RdI w vw l) (hi : i < l.length) (h1 : R.lft.length ≤ 1000000) (h2 : R.rgt.length ≤ 1000000) (h3 : l.length ≤ 1000000) :
    Calls Try.prog 45 #[v, vr, vw, .int .i64 (i : Int)] w fun e w' => e = .returned (.bool (siteB I R l i)) ∧ Below w.heap.size w w' := by
  obtain ⟨u, rfl, hp⟩ := hv
  obtain ⟨A0, n0, c0, rfl, _, _, _, _⟩ := hp.op
  have HV := Lib.hid hp
  obtain ⟨vf, vt, vl, vg, rfl, hf, ht, hl, hg⟩ := hr
  obtain ⟨A1, n1, c1, rfl, _, _, _, _⟩ := hf.op
  obtain ⟨A2, n2, c2, rfl, _, _, _, _⟩ := ht.op
  obtain ⟨A3, n3, c3, rfl, _, _, HN3, HLR⟩ := hl.op
  obtain ⟨A4, n4, c4, rfl, _, _, HN4, HGR⟩ := hg.op
  obtain ⟨A, n, c, rfl, hnc, _, HN, HR⟩ := hw.op
  have HF := Lib.hid hf
  have HL := Lib.hid hl
  have HG := Lib.hid hg
  have HW := Lib.hid hw
  rw [HN3.out] at h1
  rw [HN4.out] at h2
  rw [HN.out] at h3 hi
  clear hp hf ht hl hg hw
  obtain ⟨beg, hbeg⟩ : ∃ x, R.beg = x := ⟨_, rfl⟩
  obtain ⟨fin, hfin⟩ : ∃ x, R.fin = x := ⟨_, rfl⟩
  obtain ⟨x, hx⟩ : ∃ x, l.getD i 0 = x := ⟨_, rfl⟩
  obtain ⟨hb, hhb⟩ : ∃ h, hasB R.fr x = h := ⟨_, rfl⟩
  obtain ⟨sb, hsb⟩ : ∃ s, siteB I R l i = s := ⟨_, rfl⟩
  rw [hsb, hbeg, hfin]
  rw [siteB, hx, hhb, hbeg, hfin, HN3.out, HN4.out, HN.out] at hsb
  have HSB := Lib.hid hsb
  have HHB := Lib.hid hhb
  have HXX := Lib.hid hx
  clear hsb hbeg hfin hx hhb
  obtain ⟨b, off, y, rfl, hbb, hdr, hc0⟩ := HR.out i hi
  have hxy : y = x := by
    rw [← HXX.out, List.getD_eq_getElem?_getD, show l[i]? = some y from by rw [← List.head?_drop, hdr.out]; rfl]; rfl
  subst hxy
  have hi0 : (0 : Int) ≤ (i : Int) := by omega
  have HC0 := Lib.hid hc0
  clear hc0
  go_enter Try.func45, Try.ntmps45
  go_upto_region 1 with (fail)
  generalize hW : World.alloc (World.alloc w _) _ = W
  have HBW : Hid (Below w.heap.size w W) := by rw [← hW]; exact bchain (al_below _ _) (al_below _ _)
  have HP : Hid (VBlk W w.heap.size (.slice A0 n0 c0)) := by rw [← hW]; exact VBlk.below (heap_alloc_new w _) (al_below _ _)
  have HQ : Hid (RBlk W (w.heap.size + 1) (.slice A1 n1 c1) (.slice A2 n2 c2) (.slice A3 n3 c3) (.slice A4 n4 c4) beg fin) := by
    have h := heap_alloc_new (w.alloc (.cells #[.slice A0 n0 c0] 24)) (.cells #[.slice A1 n1 c1, .slice A2 n2 c2, .slice A3 n3 c3, .slice A4 n4 c4, .bool beg, .bool fin] 28)
    rw [World.size_alloc] at h
    rw [← hW]; exact h
  clear hW
  have HS : Hid (∀ w' : World, Below W.heap.size W w' → w'.cell? ⟨w.heap.size, 0, none⟩ = some (.slice A0 n0 c0) ∧ (w'.cell? ⟨w.heap.size + 1, 0, none⟩ = some (.slice A1 n1 c1) ∧ w'.cell? ⟨w.heap.size + 1, 1, none⟩ = some (.slice A2 n2 c2) ∧ w'.cell? ⟨w.heap.size + 1, 2, none⟩ = some (.slice A3 n3 c3) ∧ w'.cell? ⟨w.heap.size + 1, 3, none⟩ = some (.slice A4 n4 c4) ∧ w'.cell? ⟨w.heap.size + 1, 4, none⟩ = some (.bool beg) ∧ w'.cell? ⟨w.heap.size + 1, 5, none⟩ = some (.bool fin)) ∧ w'.cell? ⟨b, off + i, none⟩ = some (.int .i64 y)) := by
    intro w' h
    have hb := (bchain HBW.out h).cell (p := ⟨b, off + i, none⟩) hbb
    exact ⟨(HP.out.below h).cell, (HQ.out.below h).cells, hb.trans HC0.out⟩
  refine wp_region_ord 12 [0, 1, 2, 3, 4, 5, 6, 7, 8, 9, 10, 11] [] [0, 1, 2, 3, 4, 5, 6, 7, 8, 9, 10, 11] [12] (fun w' => Below W.heap.size W w') (by kernel_rfl) (by kernel_rfl) ?_
  rintro Z hZ
  have HBZ : Hid (Below W.heap.size W Z) := by rw [hZ]; exact (Below.refl _ _).drew
  clear hZ
  refine ⟨HBZ.out, ?_⟩
  iterate 12 (refine wpHead_cons (v := ?_) rfl rfl (fun w' hS => ?_) ?_; rotate_left; (focus ((try obtain ⟨s0, ⟨t0, t1, t2, t3, t4, t5⟩, u0⟩ := HS.out _ (hS rfl)); clear hS; go_simp; try with_reducible rfl; done)); (try simp only [Act.put, List.setIfInBounds_toArray, List.set_cons_zero, List.set_cons_succ]))
  refine wpHead_nil ?_
  refine wpTail_rest 12 rfl ?_
  simp only [List.drop_succ_cons, List.drop_zero]
  go_wp2_with fail
  refine NoPanic.normal ?_
  clear HS
  obtain ⟨z, hz⟩ : ∃ z : Int, (i : Int) - (n3 : Int) = z := ⟨_, rfl⟩
  obtain ⟨t, htn⟩ : ∃ t : Nat, i + 1 + n4 = t := ⟨_, rfl⟩
  have hw1 : IntKind.i64.wrap ((i : Int) - (n3 : Int)) = z := by rw [hz]; exact IntWalk.i64_in _ (by omega)
  have hw2 : IntKind.i64.wrap ((i : Int) + 1) = (i : Int) + 1 := IntWalk.i64_in _ (by omega)
  have hw3 : IntKind.i64.wrap ((i : Int) + 1 + (n4 : Int)) = (t : Int) := by rw [show (i : Int) + 1 + (n4 : Int) = (t : Int) by omega]; exact IntWalk.i64_in _ (by omega)
  rw [hw1, hw2, hw3]
  clear hw1 hw2 hw3
  have HZ := Lib.hid hz
  have HT := Lib.hid htn
  rw [htn] at HSB
  clear hz htn
  have HBX : Hid (Below w.heap.size w Z) := bchain HBW.out HBZ.out
  have HS : Hid (∀ w' : World, Below Z.heap.size Z w' → w'.cell? ⟨w.heap.size, 0, none⟩ = some (.slice A0 n0 c0) ∧ (w'.cell? ⟨w.heap.size + 1, 0, none⟩ = some (.slice A1 n1 c1) ∧ w'.cell? ⟨w.heap.size + 1, 1, none⟩ = some (.slice A2 n2 c2) ∧ w'.cell? ⟨w.heap.size + 1, 2, none⟩ = some (.slice A3 n3 c3) ∧ w'.cell? ⟨w.heap.size + 1, 3, none⟩ = some (.slice A4 n4 c4) ∧ w'.cell? ⟨w.heap.size + 1, 4, none⟩ = some (.bool beg) ∧ w'.cell? ⟨w.heap.size + 1, 5, none⟩ = some (.bool fin)) ∧ w'.cell? ⟨b, off + i, none⟩ = some (.int .i64 y)) := by
    intro w' h
    have hb := (bchain HBX.out h).cell (p := ⟨b, off + i, none⟩) hbb
    exact ⟨(HP.out.below (bchain HBZ.out h)).cell, (HQ.out.below (bchain HBZ.out h)).cells, hb.trans HC0.out⟩
  go_upto_region 2 with (fail)
  go_cut [59] (fun s59 wx => ∃ g : Bool, s59 = .bool g ∧ SiteG g sb z t n (fitsB I R.lft (l.drop (i - n3)) && fitsB I R.rgt (l.drop (i + 1))) ∧ Below Z.heap.size Z wx)
  case first =>
    refine wp_region_mix 31 [0, 1, 2, 3, 4, 5, 6, 7, 8, 9, 10, 11, 12, 13, 14, 15, 16, 17, 18, 19, 20, 21, 22, 23, 24, 25, 26, 27, 28, 29] [30] [(true, 0), (true, 1), (true, 2), (true, 3), (true, 4), (true, 5), (false, 6), (true, 7), (true, 8), (true, 9), (true, 10), (true, 11), (true, 12), (true, 13), (true, 14), (true, 15), (true, 16), (true, 17), (true, 18), (true, 19), (true, 20), (true, 21), (true, 22), (true, 23), (true, 24), (true, 25), (true, 26), (true, 27), (true, 28), (true, 29), (true, 30), (false, 31), (false, 32), (false, 33), (false, 34), (false, 35)] (fun w' => Below Z.heap.size Z w') (by kernel_rfl) (by kernel_rfl) ?_
    rintro D hD
    have HSD : Hid (Below Z.heap.size Z D) := by rw [hD]; exact (Below.refl _ _).drew
    clear hD
    refine ⟨HSD.out, ?_⟩
    iterate 6 (refine wpMix_q (v := ?_) rfl rfl (fun w' hS => ?_) ?_; rotate_left; (focus ((try obtain ⟨s0, ⟨t0, t1, t2, t3, t4, t5⟩, u0⟩ := HS.out _ (hS rfl)); clear hS; go_simp; try with_reducible rfl; done)); (try simp only [Act.put, List.setIfInBounds_toArray, List.set_cons_zero, List.set_cons_succ]))
    refine wpMix_e rfl rfl (fun K hK => ?_)
    go_simp
    refine (rhas_any _ R.fr y _ (HF.out.below (bchain HBX.out HSD.out))).mono ?_
    rintro e w1 ⟨rfl, rfl⟩
    rw [HHB.out]
    refine hK.out _ _ (fun _ => HSD.out) ?_
    clear hK K
    (try dsimp only); (try simp only [Act.put]); (try simp only [List.setIfInBounds_toArray, List.set_cons_zero, List.set_cons_succ])
    cases hb
    · rw [Bool.false_and] at HSB
      have hsb := HSB.out
      subst hsb
      iterate 29 (first | (refine wpMix_q (v := ?_) rfl rfl (fun w' hS => ?_) ?_; rotate_left; (focus ((try obtain ⟨s0, ⟨t0, t1, t2, t3, t4, t5⟩, u0⟩ := HS.out _ (hS rfl)); clear hS; go_simp; try with_reducible rfl; done)); (try simp only [Act.put, List.setIfInBounds_toArray, List.set_cons_zero, List.set_cons_succ])) | (refine wpMix_qskip rfl rfl ?_; (try simp only [Act.put, List.setIfInBounds_toArray, List.set_cons_zero, List.set_cons_succ])) | (refine wpMix_eskip rfl rfl ( HSD).out ?_; (try simp only [Act.put, List.setIfInBounds_toArray, List.set_cons_zero, List.set_cons_succ])) | (refine wpMix_e rfl rfl (fun K hK => ?_); go_simp; refine hK.out _ _ (fun h => absurd h (by decide)) ?_; clear hK K; (try simp only [Act.put, List.setIfInBounds_toArray, List.set_cons_zero, List.set_cons_succ])))
      refine wpMix_nil ?_
      refine NoPanic.normal ?_
      go_wp2_with fail
      go_meet
      exact ⟨true, rfl, SiteG.no, HSD.out⟩
    · rw [Bool.true_and] at HSB
      have HZ2 : Hid (decide (n3 ≤ i) = !decide (z < 0)) := by
        have := HZ.out
        rw [Hid]
        by_cases h : n3 ≤ i
        · rw [decide_eq_true h, decide_eq_false (by omega)]; rfl
        · rw [decide_eq_false h, decide_eq_true (by omega)]; rfl
      by_cases hz0 : z < 0
      · have d1 : decide (z < 0) = true := by simpa using hz0
        rw [HZ2.out, d1, Bool.not_true, Bool.false_and] at HSB
        have hsb := HSB.out
        subst hsb
        clear hz0
        iterate 29 (first | (refine wpMix_q (v := ?_) rfl rfl (fun w' hS => ?_) ?_; rotate_left; (focus ((try obtain ⟨s0, ⟨t0, t1, t2, t3, t4, t5⟩, u0⟩ := HS.out _ (hS rfl)); clear hS; go_simp; try with_reducible rfl; done)); (try simp only [Act.put, List.setIfInBounds_toArray, List.set_cons_zero, List.set_cons_succ])) | (refine wpMix_qskip rfl rfl ?_; (try simp only [Act.put, List.setIfInBounds_toArray, List.set_cons_zero, List.set_cons_succ])) | (refine wpMix_eskip rfl rfl ( HSD).out ?_; (try simp only [Act.put, List.setIfInBounds_toArray, List.set_cons_zero, List.set_cons_succ])) | (refine wpMix_e rfl rfl (fun K hK => ?_); go_simp; refine hK.out _ _ (fun h => absurd h (by decide)) ?_; clear hK K; (try simp only [Act.put, List.setIfInBounds_toArray, List.set_cons_zero, List.set_cons_succ])))
        refine wpMix_nil ?_
        refine NoPanic.normal ?_
        go_wp2_with fail
        go_meet
        exact ⟨true, rfl, SiteG.no, HSD.out⟩
      · have d1 : decide (z < 0) = false := by simpa using hz0
        rw [HZ2.out, d1, Bool.not_false, Bool.true_and] at HSB
        by_cases htn : t ≤ n
        · have d2 : decide ((n : Int) < (t : Int)) = false := by simp; omega
          have d3 : decide (n < t) = false := by simp; omega
          rw [decide_eq_true htn, Bool.true_and] at HSB
          have HNT := Lib.hid htn
          have HZN := Lib.hid hz0
          clear htn hz0
          cases beg
          · rw [Bool.not_false, Bool.true_or, Bool.true_and] at HSB
            cases fin
            · rw [Bool.not_false, Bool.true_or, Bool.true_and] at HSB
              iterate 29 (first | (refine wpMix_q (v := ?_) rfl rfl (fun w' hS => ?_) ?_; rotate_left; (focus ((try obtain ⟨s0, ⟨t0, t1, t2, t3, t4, t5⟩, u0⟩ := HS.out _ (hS rfl)); clear hS; go_simp; try with_reducible rfl; done)); (try simp only [Act.put, List.setIfInBounds_toArray, List.set_cons_zero, List.set_cons_succ])) | (refine wpMix_qskip rfl rfl ?_; (try simp only [Act.put, List.setIfInBounds_toArray, List.set_cons_zero, List.set_cons_succ])) | (refine wpMix_eskip rfl rfl ( HSD).out ?_; (try simp only [Act.put, List.setIfInBounds_toArray, List.set_cons_zero, List.set_cons_succ])) | (refine wpMix_e rfl rfl (fun K hK => ?_); go_simp; refine hK.out _ _ (fun h => absurd h (by decide)) ?_; clear hK K; (try simp only [Act.put, List.setIfInBounds_toArray, List.set_cons_zero, List.set_cons_succ])))
              refine wpMix_nil ?_
              refine NoPanic.normal ?_
              go_wp2_with fail
              go_meet
              exact ⟨false, rfl, SiteG.yes (by have := HZN.out; omega) HNT.out HSB.out, HSD.out⟩
            · rw [Bool.not_true, Bool.false_or] at HSB
              by_cases ht1 : t < n
              · have d5 : ((t : Int) == (n : Int)) = false := by simp; omega
                have d6 : ((t : Int) != (n : Int)) = true := by simp; omega
                have d7 : (t == n) = false := by simp; omega
                have d8 : (t != n) = true := by simp; omega
                have hnt : ¬ n ≤ t := by omega
                rw [decide_eq_false hnt, Bool.false_and] at HSB
                have hsb := HSB.out
                subst hsb
                clear ht1 hnt
                iterate 29 (first | (refine wpMix_q (v := ?_) rfl rfl (fun w' hS => ?_) ?_; rotate_left; (focus ((try obtain ⟨s0, ⟨t0, t1, t2, t3, t4, t5⟩, u0⟩ := HS.out _ (hS rfl)); clear hS; go_simp; try with_reducible rfl; done)); (try simp only [Act.put, List.setIfInBounds_toArray, List.set_cons_zero, List.set_cons_succ])) | (refine wpMix_qskip rfl rfl ?_; (try simp only [Act.put, List.setIfInBounds_toArray, List.set_cons_zero, List.set_cons_succ])) | (refine wpMix_eskip rfl rfl ( HSD).out ?_; (try simp only [Act.put, List.setIfInBounds_toArray, List.set_cons_zero, List.set_cons_succ])) | (refine wpMix_e rfl rfl (fun K hK => ?_); go_simp; refine hK.out _ _ (fun h => absurd h (by decide)) ?_; clear hK K; (try simp only [Act.put, List.setIfInBounds_toArray, List.set_cons_zero, List.set_cons_succ])))
                refine wpMix_nil ?_
                refine NoPanic.normal ?_
                go_wp2_with fail
                go_meet
                exact ⟨true, rfl, SiteG.no, HSD.out⟩
              · have d5 : ((t : Int) == (n : Int)) = true := by simp; have := HNT.out; omega
                have d6 : ((t : Int) != (n : Int)) = false := by simp; have := HNT.out; omega
                have d7 : (t == n) = true := by simp; have := HNT.out; omega
                have d8 : (t != n) = false := by simp; have := HNT.out; omega
                have hnt : n ≤ t := by omega
                rw [decide_eq_true hnt, Bool.true_and] at HSB
                clear ht1 hnt
                iterate 29 (first | (refine wpMix_q (v := ?_) rfl rfl (fun w' hS => ?_) ?_; rotate_left; (focus ((try obtain ⟨s0, ⟨t0, t1, t2, t3, t4, t5⟩, u0⟩ := HS.out _ (hS rfl)); clear hS; go_simp; try with_reducible rfl; done)); (try simp only [Act.put, List.setIfInBounds_toArray, List.set_cons_zero, List.set_cons_succ])) | (refine wpMix_qskip rfl rfl ?_; (try simp only [Act.put, List.setIfInBounds_toArray, List.set_cons_zero, List.set_cons_succ])) | (refine wpMix_eskip rfl rfl ( HSD).out ?_; (try simp only [Act.put, List.setIfInBounds_toArray, List.set_cons_zero, List.set_cons_succ])) | (refine wpMix_e rfl rfl (fun K hK => ?_); go_simp; refine hK.out _ _ (fun h => absurd h (by decide)) ?_; clear hK K; (try simp only [Act.put, List.setIfInBounds_toArray, List.set_cons_zero, List.set_cons_succ])))
                refine wpMix_nil ?_
                refine NoPanic.normal ?_
                go_wp2_with fail
                go_meet
                exact ⟨false, rfl, SiteG.yes (by have := HZN.out; omega) HNT.out HSB.out, HSD.out⟩
          · rw [Bool.not_true, Bool.false_or] at HSB
            by_cases hz1 : 0 < z
            · have d4 : (z == 0) = false := by simp; omega
              have d4b : (z != 0) = true := by simp; omega
              have hni : ¬ i ≤ n3 := by have := HZ.out; omega
              rw [decide_eq_false hni, Bool.false_and] at HSB
              have hsb := HSB.out
              subst hsb
              clear hz1 hni
              iterate 29 (first | (refine wpMix_q (v := ?_) rfl rfl (fun w' hS => ?_) ?_; rotate_left; (focus ((try obtain ⟨s0, ⟨t0, t1, t2, t3, t4, t5⟩, u0⟩ := HS.out _ (hS rfl)); clear hS; go_simp; try with_reducible rfl; done)); (try simp only [Act.put, List.setIfInBounds_toArray, List.set_cons_zero, List.set_cons_succ])) | (refine wpMix_qskip rfl rfl ?_; (try simp only [Act.put, List.setIfInBounds_toArray, List.set_cons_zero, List.set_cons_succ])) | (refine wpMix_eskip rfl rfl ( HSD).out ?_; (try simp only [Act.put, List.setIfInBounds_toArray, List.set_cons_zero, List.set_cons_succ])) | (refine wpMix_e rfl rfl (fun K hK => ?_); go_simp; refine hK.out _ _ (fun h => absurd h (by decide)) ?_; clear hK K; (try simp only [Act.put, List.setIfInBounds_toArray, List.set_cons_zero, List.set_cons_succ])))
              refine wpMix_nil ?_
              refine NoPanic.normal ?_
              go_wp2_with fail
              go_meet
              exact ⟨true, rfl, SiteG.no, HSD.out⟩
            · have d4 : (z == 0) = true := by simp; have := HZN.out; omega
              have d4b : (z != 0) = false := by simp; have := HZN.out; omega
              have hni : i ≤ n3 := by have := HZ.out; omega
              rw [decide_eq_true hni, Bool.true_and] at HSB
              clear hz1 hni
              cases fin
              · rw [Bool.not_false, Bool.true_or, Bool.true_and] at HSB
                iterate 29 (first | (refine wpMix_q (v := ?_) rfl rfl (fun w' hS => ?_) ?_; rotate_left; (focus ((try obtain ⟨s0, ⟨t0, t1, t2, t3, t4, t5⟩, u0⟩ := HS.out _ (hS rfl)); clear hS; go_simp; try with_reducible rfl; done)); (try simp only [Act.put, List.setIfInBounds_toArray, List.set_cons_zero, List.set_cons_succ])) | (refine wpMix_qskip rfl rfl ?_; (try simp only [Act.put, List.setIfInBounds_toArray, List.set_cons_zero, List.set_cons_succ])) | (refine wpMix_eskip rfl rfl ( HSD).out ?_; (try simp only [Act.put, List.setIfInBounds_toArray, List.set_cons_zero, List.set_cons_succ])) | (refine wpMix_e rfl rfl (fun K hK => ?_); go_simp; refine hK.out _ _ (fun h => absurd h (by decide)) ?_; clear hK K; (try simp only [Act.put, List.setIfInBounds_toArray, List.set_cons_zero, List.set_cons_succ])))
                refine wpMix_nil ?_
                refine NoPanic.normal ?_
                go_wp2_with fail
                go_meet
                exact ⟨false, rfl, SiteG.yes (by have := HZN.out; omega) HNT.out HSB.out, HSD.out⟩
              · rw [Bool.not_true, Bool.false_or] at HSB
                by_cases ht1 : t < n
                · have d5 : ((t : Int) == (n : Int)) = false := by simp; omega
                  have d6 : ((t : Int) != (n : Int)) = true := by simp; omega
                  have d7 : (t == n) = false := by simp; omega
                  have d8 : (t != n) = true := by simp; omega
                  have hnt : ¬ n ≤ t := by omega
                  rw [decide_eq_false hnt, Bool.false_and] at HSB
                  have hsb := HSB.out
                  subst hsb
                  clear ht1 hnt
                  iterate 29 (first | (refine wpMix_q (v := ?_) rfl rfl (fun w' hS => ?_) ?_; rotate_left; (focus ((try obtain ⟨s0, ⟨t0, t1, t2, t3, t4, t5⟩, u0⟩ := HS.out _ (hS rfl)); clear hS; go_simp; try with_reducible rfl; done)); (try simp only [Act.put, List.setIfInBounds_toArray, List.set_cons_zero, List.set_cons_succ])) | (refine wpMix_qskip rfl rfl ?_; (try simp only [Act.put, List.setIfInBounds_toArray, List.set_cons_zero, List.set_cons_succ])) | (refine wpMix_eskip rfl rfl ( HSD).out ?_; (try simp only [Act.put, List.setIfInBounds_toArray, List.set_cons_zero, List.set_cons_succ])) | (refine wpMix_e rfl rfl (fun K hK => ?_); go_simp; refine hK.out _ _ (fun h => absurd h (by decide)) ?_; clear hK K; (try simp only [Act.put, List.setIfInBounds_toArray, List.set_cons_zero, List.set_cons_succ])))
                  refine wpMix_nil ?_
                  refine NoPanic.normal ?_
                  go_wp2_with fail
                  go_meet
                  exact ⟨true, rfl, SiteG.no, HSD.out⟩
                · have d5 : ((t : Int) == (n : Int)) = true := by simp; have := HNT.out; omega
                  have d6 : ((t : Int) != (n : Int)) = false := by simp; have := HNT.out; omega
                  have d7 : (t == n) = true := by simp; have := HNT.out; omega
                  have d8 : (t != n) = false := by simp; have := HNT.out; omega
                  have hnt : n ≤ t := by omega
                  rw [decide_eq_true hnt, Bool.true_and] at HSB
                  clear ht1 hnt
                  iterate 29 (first | (refine wpMix_q (v := ?_) rfl rfl (fun w' hS => ?_) ?_; rotate_left; (focus ((try obtain ⟨s0, ⟨t0, t1, t2, t3, t4, t5⟩, u0⟩ := HS.out _ (hS rfl)); clear hS; go_simp; try with_reducible rfl; done)); (try simp only [Act.put, List.setIfInBounds_toArray, List.set_cons_zero, List.set_cons_succ])) | (refine wpMix_qskip rfl rfl ?_; (try simp only [Act.put, List.setIfInBounds_toArray, List.set_cons_zero, List.set_cons_succ])) | (refine wpMix_eskip rfl rfl ( HSD).out ?_; (try simp only [Act.put, List.setIfInBounds_toArray, List.set_cons_zero, List.set_cons_succ])) | (refine wpMix_e rfl rfl (fun K hK => ?_); go_simp; refine hK.out _ _ (fun h => absurd h (by decide)) ?_; clear hK K; (try simp only [Act.put, List.setIfInBounds_toArray, List.set_cons_zero, List.set_cons_succ])))
                  refine wpMix_nil ?_
                  refine NoPanic.normal ?_
                  go_wp2_with fail
                  go_meet
                  exact ⟨false, rfl, SiteG.yes (by have := HZN.out; omega) HNT.out HSB.out, HSD.out⟩
        · have d2 : decide ((n : Int) < (t : Int)) = true := by simp; omega
          have d3 : decide (n < t) = true := by simp; omega
          rw [decide_eq_false htn, Bool.false_and] at HSB
          have hsb := HSB.out
          subst hsb
          clear htn
          iterate 29 (first | (refine wpMix_q (v := ?_) rfl rfl (fun w' hS => ?_) ?_; rotate_left; (focus ((try obtain ⟨s0, ⟨t0, t1, t2, t3, t4, t5⟩, u0⟩ := HS.out _ (hS rfl)); clear hS; go_simp; try with_reducible rfl; done)); (try simp only [Act.put, List.setIfInBounds_toArray, List.set_cons_zero, List.set_cons_succ])) | (refine wpMix_qskip rfl rfl ?_; (try simp only [Act.put, List.setIfInBounds_toArray, List.set_cons_zero, List.set_cons_succ])) | (refine wpMix_eskip rfl rfl ( HSD).out ?_; (try simp only [Act.put, List.setIfInBounds_toArray, List.set_cons_zero, List.set_cons_succ])) | (refine wpMix_e rfl rfl (fun K hK => ?_); go_simp; refine hK.out _ _ (fun h => absurd h (by decide)) ?_; clear hK K; (try simp only [Act.put, List.setIfInBounds_toArray, List.set_cons_zero, List.set_cons_succ])))
          refine wpMix_nil ?_
          refine NoPanic.normal ?_
          go_wp2_with fail
          go_meet
          exact ⟨true, rfl, SiteG.no, HSD.out⟩
  case rest =>
    obtain ⟨gd, rfl, hgd, hsd⟩ := hcut
    obtain ⟨w1, rfl⟩ : ∃ w1 : World, w1 = wc := ⟨_, rfl⟩
    have HSD := Lib.hid hsd
    have HBE := Lib.hid (bchain HBX.out hsd)
    clear HS hsd HSB
    cases gd
    · have hgd2 : 0 ≤ z ∧ t ≤ n ∧ (fitsB I R.lft (l.drop (i - n3)) && fitsB I R.rgt (l.drop (i + 1))) = sb := by
        rcases hgd with h | h
        · exact absurd h.1 (by decide)
        · exact h.2
      clear hgd
      have HZN : Hid (¬ z < 0) := by have := hgd2.1; unfold Hid; omega
      have HNT := Lib.hid hgd2.2.1
      have HSB := Lib.hid hgd2.2.2
      clear hgd2
      have HBE := Lib.hid (bchain HBX.out HSD.out)
      have HBQ := Lib.hid (bchain HBZ.out HSD.out)
      obtain ⟨f, hf⟩ : ∃ f : Nat, z = (f : Int) := ⟨z.toNat, by have := HZN.out; omega⟩
      subst hf
      have hfi : i = f + n3 := by have := HZ.out; omega
      have hti : t = i + 1 + n4 := by have := HT.out; omega
      have HFI := Lib.hid hfi
      have HTI := Lib.hid hti
      have HSB2 : Hid ((fitsB I R.lft (l.drop f) && fitsB I R.rgt (l.drop (i + 1))) = sb) := by
        have := HSB.out
        rw [show i - n3 = f by omega] at this
        exact this
      obtain ⟨_, _, r2, r3, _, _⟩ := (HQ.out.below HBQ.out).cells
      have hrl := (HQ.out.below HBQ.out).lt
      clear hfi hti HSB
      go_wp2_with fail
      clear r2 r3 hrl
      go_loopw [63] (fun v63 wr => ∃ k : Nat, k ≤ n3 ∧ v63 = .int .i64 k ∧ Hid (fitsB I R.lft (l.drop f) = fitsB I (R.lft.drop k) (l.drop (f + k))) ∧ Hid (Below w1.heap.size w1 wr)) (fun v63 _ => n3 - (intOf v63).toNat)
      case atStart => exact ⟨0, Nat.zero_le _, rfl, rfl, Below.refl _ _⟩
      case round =>
        obtain ⟨k, hk, rfl, HFK, HWR⟩ := hrel
        have HBR := Lib.hid (bchain HBE.out HWR.out)
        have HBRQ := Lib.hid (bchain HBQ.out HWR.out)
        by_cases hlt : k < n3
        · obtain ⟨j, hj⟩ : ∃ j : Nat, f + k = j := ⟨_, rfl⟩
          have HJ := Lib.hid hj
          obtain ⟨b9, off9, x9, he9, hb9, hd9, hc9⟩ := (HR.out j (by have := HFI.out; omega)).below HBR.out
          cases he9
          obtain ⟨bc, oc, cl, rfl, hbc, hdc, c0c, c1c⟩ := (HLR.out k hlt).below HBR.out
          have HFK2 : Hid (fitsB I R.lft (l.drop f) = (inB I x9 cl && fitsB I (R.lft.drop (k + 1)) (l.drop (f + (k + 1))))) := by rw [Hid, HFK.out, hj, hd9.out, hdc.out, show f + (k + 1) = j + 1 by omega]; rfl
          have hwk : IntKind.i64.wrap ((f : Int) + (k : Int)) = (j : Int) := by rw [show (f : Int) + (k : Int) = (j : Int) by omega]; exact IntWalk.i64_in _ (by have := HFI.out; omega)
          have hk0 : (0 : Int) ≤ (k : Int) := by omega
          have hfk0 : (0 : Int) ≤ (j : Int) := by omega
          have hfkn : j < n := by have := HFI.out; omega
          clear hj
          have HS : Hid (∀ w' : World, Below wr.heap.size wr w' → w'.cell? ⟨w.heap.size, 0, none⟩ = some (.slice A0 n0 c0) ∧ w'.cell? ⟨w.heap.size + 1, 2, none⟩ = some (.slice (some ⟨bc, oc, none⟩) n3 c3) ∧ w'.cell? ⟨b, off + j, none⟩ = some (.int .i64 x9) ∧ w'.cell? ⟨bc, oc + k * 2, none⟩ = some (.int .i64 cl.mask) ∧ w'.cell? ⟨bc, oc + k * 2 + 1, none⟩ = some (.int .i64 cl.val)) := by
            intro w' h
            have hb := bchain HBRQ.out h
            obtain ⟨_, _, r2, _, _, _⟩ := (HQ.out.below hb).cells
            exact ⟨(HP.out.below hb).cell, r2, (h.cell hb9).trans hc9, (h.cell (p := ⟨bc, oc + k * 2, none⟩) hbc).trans c0c, (h.cell (p := ⟨bc, oc + k * 2 + 1, none⟩) hbc).trans c1c⟩
          clear hc9 c0c c1c HFK
          go_upto_region 7 with (fail)
          refine wp_region_ord 12 [0, 1, 2, 3, 4, 5, 6, 7, 8, 9, 10, 11] [] [0, 1, 2, 3, 4, 5, 6, 7, 8, 9, 10, 11] [12, 13] (fun w' => Below wr.heap.size wr w') (by kernel_rfl) (by kernel_rfl) ?_
          rintro V hV
          have HSV : Hid (Below wr.heap.size wr V) := by rw [hV]; exact (Below.refl _ _).drew
          clear hV
          refine ⟨HSV.out, ?_⟩
          iterate 12 (refine wpHead_cons (v := ?_) rfl rfl (fun w' hS => ?_) ?_; rotate_left; (focus ((try obtain ⟨s0, r2, x0, m0, v0⟩ := HS.out _ (hS rfl)); clear hS; go_simp; try with_reducible rfl; done)); (try simp only [Act.put, List.setIfInBounds_toArray, List.set_cons_zero, List.set_cons_succ]))
          refine wpHead_nil ?_
          refine wpTail_cons rfl rfl (fun K hK => ?_)
          go_simp
          refine (rin_any _ I x9 cl _ (show RdV V (.agg #[.slice A0 n0 c0]) I from ⟨_, rfl, HV.out.below (bchain HBR.out HSV.out)⟩)).mono ?_
          rintro e w9 ⟨rfl, hb⟩
          refine hK.out _ _ (fun h => absurd h (by decide)) ?_
          clear hK K
          (try simp only [Act.put, List.setIfInBounds_toArray, List.set_cons_zero, List.set_cons_succ])
          have HW9 := Lib.hid (bchain HWR.out (bchain HSV.out hb))
          clear hb HS hwk hfk0 hfkn
          refine wpTail_rest 13 rfl ?_
          simp only [List.drop_succ_cons, List.drop_zero]
          cases hin : inB I x9 cl
          · have hsb := HSB2.out
            rw [HFK2.out, hin, Bool.false_and, Bool.false_and] at hsb
            subst hsb
            clear hin
            go_wp2_with fail
            refine NoPanic.normal ?_
            go_wp2_with fail
            go_ret
            exact ⟨rfl, bchain HBE.out HW9.out⟩
          · have HFK3 : Hid (fitsB I R.lft (l.drop f) = fitsB I (R.lft.drop (k + 1)) (l.drop (f + (k + 1)))) := by rw [Hid, HFK2.out, hin]; rfl
            clear hin
            go_wp2_with fail
            refine NoPanic.normal ?_
            go_wp2_with fail
            go_roundw
            case rel => exact ⟨k + 1, by omega, by go_num, HFK3.out, HW9.out⟩
            case measure => simp [intOf]; omega
        · obtain rfl : n3 = k := by omega
          have HSB3 : Hid (fitsB I R.rgt (l.drop (i + 1)) = sb) := by
            have h := HSB2.out
            rw [HFK.out, List.drop_of_length_le (l := R.lft) (by rw [HN3.out]; exact Nat.le_refl _)] at h
            rw [Hid, ← h]; simp [fitsB]
          obtain ⟨_, _, _, r3, _, _⟩ := (HQ.out.below HBRQ.out).cells
          have hrl := (HQ.out.below HBRQ.out).lt
          clear HFK HSB2
          go_wp2_with fail
          clear r3 hrl
          obtain ⟨wo, rfl⟩ : ∃ wo : World, wo = wr := ⟨_, rfl⟩
          have HWV := Lib.hid HWR.out
          go_loopw [84] (fun v84 wr => ∃ k : Nat, k ≤ n4 ∧ v84 = .int .i64 k ∧ Hid (fitsB I R.rgt (l.drop (i + 1)) = fitsB I (R.rgt.drop k) (l.drop (i + 1 + k))) ∧ Hid (Below w1.heap.size w1 wr)) (fun v84 _ => n4 - (intOf v84).toNat)
          case atStart => exact ⟨0, Nat.zero_le _, rfl, rfl, HWV.out⟩
          case round =>
            obtain ⟨k, hk, rfl, HFK, HWS⟩ := hrel
            have HBS := Lib.hid (bchain HBE.out HWS.out)
            have HBSQ := Lib.hid (bchain HBQ.out HWS.out)
            by_cases hlt2 : k < n4
            · obtain ⟨j, hj⟩ : ∃ j : Nat, i + 1 + k = j := ⟨_, rfl⟩
              obtain ⟨b9, off9, x9, he9, hb9, hd9, hc9⟩ := (HR.out j (by have := HTI.out; have := HNT.out; omega)).below HBS.out
              cases he9
              obtain ⟨bc, oc, cl, rfl, hbc, hdc, c0c, c1c⟩ := (HGR.out k hlt2).below HBS.out
              have HFK2 : Hid (fitsB I R.rgt (l.drop (i + 1)) = (inB I x9 cl && fitsB I (R.rgt.drop (k + 1)) (l.drop (i + 1 + (k + 1))))) := by rw [Hid, HFK.out, hj, hd9.out, hdc.out, show i + 1 + (k + 1) = j + 1 by omega]; rfl
              have hwi : IntKind.i64.wrap ((i : Int) + 1) = (i : Int) + 1 := IntWalk.i64_in _ (by omega)
              have hwk : IntKind.i64.wrap ((i : Int) + 1 + (k : Int)) = (j : Int) := by rw [show (i : Int) + 1 + (k : Int) = (j : Int) by omega]; exact IntWalk.i64_in _ (by have := HTI.out; have := HNT.out; omega)
              have hk0 : (0 : Int) ≤ (k : Int) := by omega
              have hfk0 : (0 : Int) ≤ (j : Int) := by omega
              have hfkn : j < n := by have := HTI.out; have := HNT.out; omega
              clear hj
              have HS : Hid (∀ w' : World, Below wr.heap.size wr w' → w'.cell? ⟨w.heap.size, 0, none⟩ = some (.slice A0 n0 c0) ∧ w'.cell? ⟨w.heap.size + 1, 3, none⟩ = some (.slice (some ⟨bc, oc, none⟩) n4 c4) ∧ w'.cell? ⟨b, off + j, none⟩ = some (.int .i64 x9) ∧ w'.cell? ⟨bc, oc + k * 2, none⟩ = some (.int .i64 cl.mask) ∧ w'.cell? ⟨bc, oc + k * 2 + 1, none⟩ = some (.int .i64 cl.val)) := by
                intro w' h
                have hb := bchain HBSQ.out h
                obtain ⟨_, _, _, r3, _, _⟩ := (HQ.out.below hb).cells
                exact ⟨(HP.out.below hb).cell, r3, (h.cell hb9).trans hc9, (h.cell (p := ⟨bc, oc + k * 2, none⟩) hbc).trans c0c, (h.cell (p := ⟨bc, oc + k * 2 + 1, none⟩) hbc).trans c1c⟩
              clear hc9 c0c c1c HFK
              go_upto_region 13 with (fail)
              refine wp_region_ord 13 [0, 1, 2, 3, 4, 5, 6, 7, 8, 9, 10, 11, 12] [] [0, 1, 2, 3, 4, 5, 6, 7, 8, 9, 10, 11, 12] [13, 14] (fun w' => Below wr.heap.size wr w') (by kernel_rfl) (by kernel_rfl) ?_
              rintro V hV
              have HSV : Hid (Below wr.heap.size wr V) := by rw [hV]; exact (Below.refl _ _).drew
              clear hV
              refine ⟨HSV.out, ?_⟩
              iterate 13 (refine wpHead_cons (v := ?_) rfl rfl (fun w' hS => ?_) ?_; rotate_left; (focus ((try obtain ⟨s0, r3, x0, m0, v0⟩ := HS.out _ (hS rfl)); clear hS; go_simp; try with_reducible rfl; done)); (try simp only [Act.put, List.setIfInBounds_toArray, List.set_cons_zero, List.set_cons_succ]))
              refine wpHead_nil ?_
              refine wpTail_cons rfl rfl (fun K hK => ?_)
              go_simp
              refine (rin_any _ I x9 cl _ (show RdV V (.agg #[.slice A0 n0 c0]) I from ⟨_, rfl, HV.out.below (bchain HBS.out HSV.out)⟩)).mono ?_
              rintro e w9 ⟨rfl, hb⟩
              refine hK.out _ _ (fun h => absurd h (by decide)) ?_
              clear hK K
              (try simp only [Act.put, List.setIfInBounds_toArray, List.set_cons_zero, List.set_cons_succ])
              have HW9 := Lib.hid (bchain HWS.out (bchain HSV.out hb))
              clear hb HS hwk hfk0 hfkn hwi
              refine wpTail_rest 14 rfl ?_
              simp only [List.drop_succ_cons, List.drop_zero]
              cases hin : inB I x9 cl
              · have hsb := HSB3.out
                rw [HFK2.out, hin, Bool.false_and] at hsb
                subst hsb
                clear hin
                go_wp2_with fail
                refine NoPanic.normal ?_
                go_wp2_with fail
                go_ret
                exact ⟨rfl, bchain HBE.out HW9.out⟩
              · have HFK3 : Hid (fitsB I R.rgt (l.drop (i + 1)) = fitsB I (R.rgt.drop (k + 1)) (l.drop (i + 1 + (k + 1)))) := by rw [Hid, HFK2.out, hin]; rfl
                clear hin
                go_wp2_with fail
                refine NoPanic.normal ?_
                go_wp2_with fail
                go_roundw
                case rel => exact ⟨k + 1, by omega, by go_num, HFK3.out, HW9.out⟩
                case measure => simp [intOf]; omega
            · have hsb := HSB3.out
              rw [HFK.out, List.drop_of_length_le (l := R.rgt) (by rw [HN4.out]; omega), fitsB_nil] at hsb
              subst hsb
              go_wp2_with fail
              go_ret
              exact ⟨rfl, HBS.out⟩
    · have hsb : sb = false := by
        rcases hgd with h | h
        · exact h.2
        · exact absurd h.1 (by decide)
      subst hsb
      clear hgd
      go_wp2_with fail
      go_ret
      exact ⟨rfl, HBE.out⟩
end Go.Proofs.Ytdijlakeonionaa
