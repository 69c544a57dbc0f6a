/-
  Sites and Apply of both sides.
-/
import Derived.Test.YtdijlakeonionaaQ6
import Derived.Test.YtdijlakeonionaaQP1
namespace Go.Proofs.Ytdijlakeonionaa
open Go.ChangeShapes Go.WideShapes Go.ChangeAt Go.RowKit
theorem getD_at {l : List Int} {k : Nat} {x : Int} (h : l.drop k = x :: l.drop (k + 1)) : l.getD k 0 = x := by
  rw [List.getD_eq_getElem?_getD, show l[k]? = some x from by rw [← List.head?_drop, h]; rfl]; rfl
theorem sitesK_len (I : List PPh) (R : PRule) (l : List Int) (k : Nat) : (sitesK I R l k).length ≤ k := by
  rw [sitesK, List.length_map]
  exact Nat.le_trans (List.length_filter_le _ _) (by simp)
theorem sym_len (x : Int) : (sym x).length ≤ 1 := by unfold sym; split <;> simp
theorem applyK_len (I : List PPh) (R : PRule) (l : List Int) : ∀ k : Nat, (applyK I R l k).length ≤ k
  | 0 => by simp [applyK]
  | k + 1 => by
    rw [applyK_succ, List.length_append]
    have := applyK_len I R l k
    have := sym_len (outB I R l k)
    omega
/-- what a rule needs, to be read: short sides, as many To as From -/
structure ROk (R : PRule) : Prop where
  l1 : R.lft.length ≤ 1000000
  l2 : R.rgt.length ≤ 1000000
  tl : R.tto.length = R.fr.length
set_option maxHeartbeats 4000000 in
set_option maxRecDepth 100000 in
theorem psites_any (v vr vw : Value) (I : List PPh) (R : PRule) (l : List Int) (w : World) (hv : RdV w v I) (hr : RdR w vr R) (hw : RdI w vw l) (hro : ROk R) (hln : l.length ≤ 1000000) :
    Calls Try.prog 17 #[v, vr, vw] w fun e w' => (∃ v', e = .returned v' ∧ OwnI w' w.heap.size v' (sitesF I R l)) ∧ Below w.heap.size w w' := by
  obtain ⟨u, rfl, hp⟩ := id hv
  obtain ⟨A0, n0, c0, rfl, _, _, _, _⟩ := hp.op
  obtain ⟨vf, vt, vl, vg, rfl, hf, ht, hl, hg⟩ := id hr
  obtain ⟨A1, n1, c1, rfl, _, _, HN1, HR1⟩ := hf.op
  obtain ⟨A2, n2, c2, rfl, _, _, HN2, HR2⟩ := ht.op
  obtain ⟨A3, n3, c3, rfl, _, _, HN3, _⟩ := hl.op
  obtain ⟨A4, n4, c4, rfl, _, _, HN4, _⟩ := hg.op
  have HV := Lib.hid hv
  have HRR := Lib.hid hr
  have HF := Lib.hid hf
  have HT := Lib.hid ht
  clear hp hf ht hl hg hv hr
  obtain ⟨beg, hbeg⟩ : ∃ x, R.beg = x := ⟨_, rfl⟩
  obtain ⟨fin, hfin⟩ : ∃ x, R.fin = x := ⟨_, rfl⟩
  rw [hbeg, hfin] at HRR ⊢
  clear hbeg hfin
  obtain ⟨A, n, c, rfl, hnc, _, HN, HR⟩ := hw.op
  have HW := Lib.hid hw
  have HRO := Lib.hid hro
  have HLN := Lib.hid hln
  rw [HN.out] at hln
  clear hw hro
  go_enter Try.func17, Try.ntmps17
  go_wp2_with fail
  generalize hW : World.alloc (World.alloc w _) _ = W
  have HBW : Hid (Below w.heap.size w W) := by rw [← hW]; exact bchain (al_below _ _) (al_below _ _)
  have HP : Hid (VBlk W w.heap.size (.slice A0 n0 c0)) := by rw [← hW]; exact VBlk.below (heap_alloc_new w _) (al_below _ _)
  have HQ : Hid (RBlk W (w.heap.size + 1) (.slice A1 n1 c1) (.slice A2 n2 c2) (.slice A3 n3 c3) (.slice A4 n4 c4) beg fin) := by
    have h := heap_alloc_new (w.alloc (.cells #[.slice A0 n0 c0] 24)) (.cells #[.slice A1 n1 c1, .slice A2 n2 c2, .slice A3 n3 c3, .slice A4 n4 c4, .bool beg, .bool fin] 28)
    rw [World.size_alloc] at h
    rw [← hW]; exact h
  clear hW
  go_loopw [7, 11] (fun v7 v11 wr => ∃ k : Nat, k ≤ n ∧ v11 = .int .i64 k ∧ Hid (OwnI wr W.heap.size v7 (sitesK I R l k)) ∧ Hid (Below W.heap.size W wr)) (fun _ v11 _ => n - (intOf v11).toNat)
  case atStart => exact ⟨0, Nat.zero_le _, rfl, World.ownsRow_nil _ _ _ _, Below.refl _ _⟩
  case round =>
    obtain ⟨k, hk, rfl, HO, HBR⟩ := hrel
    obtain ⟨_, Ao, co, rfl⟩ := own_slice HO.out
    have HBX := Lib.hid (bchain HBW.out HBR.out)
    by_cases hlt : k < n
    · obtain ⟨z0, z1, z2, z3, z4, z5⟩ := (HQ.out.below HBR.out).cells
      have y0 := (HP.out.below HBR.out).cell
      have z8 := (HQ.out.below HBR.out).lt
      have z9 := (HP.out.below HBR.out).lt
      have hk0 : (0 : Int) ≤ (k : Int) := by omega
      go_wp2_with fail
      clear y0 z0 z1 z2 z3 z4 z5 z8 z9
      refine (psite_any _ _ _ I R l k _ (HV.out.below HBX.out) (HRR.out.below HBX.out) (HW.out.below HBX.out) (by rw [HN.out]; exact hlt) HRO.out.l1 HRO.out.l2 HLN.out).mono ?_
      rintro e w1 ⟨rfl, hb1⟩
      have HB1 := Lib.hid (bchain HBR.out hb1)
      have HO1 : Hid (OwnI w1 W.heap.size (.slice Ao (sitesK I R l k).length co) (sitesK I R l k)) := own_below HO.out hb1
      clear hb1
      cases hs : siteB I R l k
      · have HS : Hid (sitesK I R l (k + 1) = sitesK I R l k) := by rw [Hid, sitesK_succ, hs]; simp
        clear hs
        go_wp2_with fail
        go_roundw
        case rel => exact ⟨k + 1, by omega, by go_num, by rw [Hid, HS.out]; exact HO1.out, HB1.out⟩
        case measure => simp [intOf]; omega
      · have HS : Hid (sitesK I R l (k + 1) = sitesK I R l k ++ [(k : Int)]) := by rw [Hid, sitesK_succ, hs]; simp
        have hl1 : (sitesK I R l k).length ≤ 1000000 := by have := sitesK_len I R l k; omega
        have hsz := HB1.out.size
        clear hs
        go_wp2_with (at_builtin; refine wpList_app_int rfl (.tmp 19) (.tmp 21) rfl W.heap.size (.slice Ao (sitesK I R l k).length co) (sitesK I R l k) rfl HO1.out (k : Int) (sitesK I R l k).length (Lib.hid rfl) hl1 hsz rfl ?_; intro g7 c7 w7 ho7 hgg7 hg7; have HO7 := Lib.hid ho7; have HB7 := Lib.hid (below_grown HB1.out (Nat.le_refl _) HO1.out hg7); clear ho7 hgg7 hg7)
        go_roundw
        case rel => exact ⟨k + 1, by omega, by go_num, by rw [Hid, HS.out]; exact HO7.out, HB7.out⟩
        case measure => simp [intOf]; omega
    · obtain rfl : n = k := by omega
      have HOF : Hid (OwnI wr w.heap.size (.slice Ao (sitesK I R l n).length co) (sitesF I R l)) := by rw [Hid, sitesF, HN.out]; exact own_base HO.out HBW.out.size
      go_wp2_with fail
      go_ret
      exact ⟨⟨_, rfl, HOF.out⟩, HBX.out⟩
set_option maxHeartbeats 4000000 in
set_option maxRecDepth 100000 in
theorem rsites_any (v vr vw : Value) (I : List PPh) (R : PRule) (l : List Int) (w : World) (hv : RdV w v I) (hr : RdR w vr R) (hw : RdI w vw l) (hro : ROk R) (hln : l.length ≤ 1000000) :
    Calls Try.prog 18 #[v, vr, vw] w fun e w' => (∃ v', e = .returned v' ∧ OwnI w' w.heap.size v' (sitesF I R l)) ∧ Below w.heap.size w w' := by
  obtain ⟨u, rfl, hp⟩ := id hv
  obtain ⟨A0, n0, c0, rfl, _, _, _, _⟩ := hp.op
  obtain ⟨vf, vt, vl, vg, rfl, hf, ht, hl, hg⟩ := id hr
  obtain ⟨A1, n1, c1, rfl, _, _, HN1, HR1⟩ := hf.op
  obtain ⟨A2, n2, c2, rfl, _, _, HN2, HR2⟩ := ht.op
  obtain ⟨A3, n3, c3, rfl, _, _, HN3, _⟩ := hl.op
  obtain ⟨A4, n4, c4, rfl, _, _, HN4, _⟩ := hg.op
  have HV := Lib.hid hv
  have HRR := Lib.hid hr
  have HF := Lib.hid hf
  have HT := Lib.hid ht
  clear hp hf ht hl hg hv hr
  obtain ⟨beg, hbeg⟩ : ∃ x, R.beg = x := ⟨_, rfl⟩
  obtain ⟨fin, hfin⟩ : ∃ x, R.fin = x := ⟨_, rfl⟩
  rw [hbeg, hfin] at HRR ⊢
  clear hbeg hfin
  obtain ⟨A, n, c, rfl, hnc, _, HN, HR⟩ := hw.op
  have HW := Lib.hid hw
  have HRO := Lib.hid hro
  have HLN := Lib.hid hln
  rw [HN.out] at hln
  clear hw hro
  go_enter Try.func18, Try.ntmps18
  go_wp2_with fail
  generalize hW : World.alloc (World.alloc w _) _ = W
  have HBW : Hid (Below w.heap.size w W) := by rw [← hW]; exact bchain (al_below _ _) (al_below _ _)
  have HP : Hid (VBlk W w.heap.size (.slice A0 n0 c0)) := by rw [← hW]; exact VBlk.below (heap_alloc_new w _) (al_below _ _)
  have HQ : Hid (RBlk W (w.heap.size + 1) (.slice A1 n1 c1) (.slice A2 n2 c2) (.slice A3 n3 c3) (.slice A4 n4 c4) beg fin) := by
    have h := heap_alloc_new (w.alloc (.cells #[.slice A0 n0 c0] 24)) (.cells #[.slice A1 n1 c1, .slice A2 n2 c2, .slice A3 n3 c3, .slice A4 n4 c4, .bool beg, .bool fin] 28)
    rw [World.size_alloc] at h
    rw [← hW]; exact h
  clear hW
  go_loopw [7, 11] (fun v7 v11 wr => ∃ k : Nat, k ≤ n ∧ v11 = .int .i64 k ∧ Hid (OwnI wr W.heap.size v7 (sitesK I R l k)) ∧ Hid (Below W.heap.size W wr)) (fun _ v11 _ => n - (intOf v11).toNat)
  case atStart => exact ⟨0, Nat.zero_le _, rfl, World.ownsRow_nil _ _ _ _, Below.refl _ _⟩
  case round =>
    obtain ⟨k, hk, rfl, HO, HBR⟩ := hrel
    obtain ⟨_, Ao, co, rfl⟩ := own_slice HO.out
    have HBX := Lib.hid (bchain HBW.out HBR.out)
    by_cases hlt : k < n
    · obtain ⟨z0, z1, z2, z3, z4, z5⟩ := (HQ.out.below HBR.out).cells
      have y0 := (HP.out.below HBR.out).cell
      have z8 := (HQ.out.below HBR.out).lt
      have z9 := (HP.out.below HBR.out).lt
      have hk0 : (0 : Int) ≤ (k : Int) := by omega
      go_wp2_with fail
      clear y0 z0 z1 z2 z3 z4 z5 z8 z9
      refine (rsite_any _ _ _ I R l k _ (HV.out.below HBX.out) (HRR.out.below HBX.out) (HW.out.below HBX.out) (by rw [HN.out]; exact hlt) HRO.out.l1 HRO.out.l2 HLN.out).mono ?_
      rintro e w1 ⟨rfl, hb1⟩
      have HB1 := Lib.hid (bchain HBR.out hb1)
      have HO1 : Hid (OwnI w1 W.heap.size (.slice Ao (sitesK I R l k).length co) (sitesK I R l k)) := own_below HO.out hb1
      clear hb1
      cases hs : siteB I R l k
      · have HS : Hid (sitesK I R l (k + 1) = sitesK I R l k) := by rw [Hid, sitesK_succ, hs]; simp
        clear hs
        go_wp2_with fail
        go_roundw
        case rel => exact ⟨k + 1, by omega, by go_num, by rw [Hid, HS.out]; exact HO1.out, HB1.out⟩
        case measure => simp [intOf]; omega
      · have HS : Hid (sitesK I R l (k + 1) = sitesK I R l k ++ [(k : Int)]) := by rw [Hid, sitesK_succ, hs]; simp
        have hl1 : (sitesK I R l k).length ≤ 1000000 := by have := sitesK_len I R l k; omega
        have hsz := HB1.out.size
        clear hs
        go_wp2_with (at_builtin; refine wpList_app_int rfl (.tmp 19) (.tmp 21) rfl W.heap.size (.slice Ao (sitesK I R l k).length co) (sitesK I R l k) rfl HO1.out (k : Int) (sitesK I R l k).length (Lib.hid rfl) hl1 hsz rfl ?_; intro g7 c7 w7 ho7 hgg7 hg7; have HO7 := Lib.hid ho7; have HB7 := Lib.hid (below_grown HB1.out (Nat.le_refl _) HO1.out hg7); clear ho7 hgg7 hg7)
        go_roundw
        case rel => exact ⟨k + 1, by omega, by go_num, by rw [Hid, HS.out]; exact HO7.out, HB7.out⟩
        case measure => simp [intOf]; omega
    · obtain rfl : n = k := by omega
      have HOF : Hid (OwnI wr w.heap.size (.slice Ao (sitesK I R l n).length co) (sitesF I R l)) := by rw [Hid, sitesF, HN.out]; exact own_base HO.out HBW.out.size
      go_wp2_with fail
      go_ret
      exact ⟨⟨_, rfl, HOF.out⟩, HBX.out⟩
end Go.Proofs.Ytdijlakeonionaa
