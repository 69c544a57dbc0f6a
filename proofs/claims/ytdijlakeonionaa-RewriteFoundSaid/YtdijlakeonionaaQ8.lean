/-
  Apply of both sides.
-/
import Derived.Test.YtdijlakeonionaaQ7
namespace Go.Proofs.Ytdijlakeonionaa
open Go.ChangeShapes Go.WideShapes Go.ChangeAt Go.RowKit
/-- the first place of a number in a list, and what stands there in the other list -/
theorem idxFrom_to (x : Int) : ∀ (fr tto : List Int) (i : Nat), tto.length = fr.length → hasB fr x = true → ∃ k : Nat, Lib.idxFrom fr x i = ((i + k : Nat) : Int) ∧ k < fr.length ∧ tto.getD k 0 = toF fr tto x ∧ fr.getD k 0 = x
  | [], _, _, _, h => by simp [hasB] at h
  | f :: fr, [], _, hl, _ => by simp at hl
  | f :: fr, t :: tto, i, hl, h => by
    by_cases hf : f = x
    · exact ⟨0, by simp [Lib.idxFrom, hf], by simp, by simp [toF, hf], by simpa using hf⟩
    · have h2 : hasB fr x = true := by
        rw [hasB_cons] at h
        have : (x == f) = false := by simp; exact fun e => hf e.symm
        rwa [this, Bool.false_or] at h
      obtain ⟨k, h3, h4, h5, h6⟩ := idxFrom_to x fr tto (i + 1) (by simpa using hl) h2
      refine ⟨k + 1, ?_, by simpa using h4, by simpa [toF, hf] using h5, by simpa using h6⟩
      simp only [Lib.idxFrom, if_neg hf]
      rw [h3]
      congr 1
      omega
theorem idx_to {fr tto : List Int} {x : Int} (hl : tto.length = fr.length) (h : hasB fr x = true) : ∃ k : Nat, Lib.idxOf fr x = (k : Int) ∧ k < fr.length ∧ tto.getD k 0 = toF fr tto x ∧ fr.getD k 0 = x := by
  obtain ⟨k, h1, h2, h3⟩ := idxFrom_to x fr tto 0 hl h
  exact ⟨k, by rw [Lib.idxOf, h1]; simp, h2, h3⟩
theorem site_has {I : List PPh} {R : PRule} {l : List Int} {i : Nat} (h : siteB I R l i = true) : hasB R.fr (l.getD i 0) = true := by
  rw [siteB] at h
  exact (Bool.and_eq_true_iff.1 h).1
/-- the last of the rule's segments that is this one, among the first k -/
def toK (fr tto : List Int) (x : Int) : Nat → Int
  | 0 => x
  | k + 1 => if fr.getD k 0 = x then tto.getD k 0 else toK fr tto x k
theorem toK_none (fr tto : List Int) (x : Int) : ∀ k : Nat, k ≤ fr.length → (∀ j, j < k → fr.getD j 0 ≠ x) → toK fr tto x k = x
  | 0, _, _ => rfl
  | k + 1, h, hn => by
    rw [toK, if_neg (hn k (by omega)), toK_none fr tto x k (by omega) (fun j hj => hn j (by omega))]
theorem toK_all : ∀ (fr tto : List Int) (x : Int), tto.length = fr.length → fr.Nodup → toK fr tto x fr.length = if hasB fr x then toF fr tto x else x := by
  intro fr tto x hl hn
  by_cases hx : hasB fr x = true
  · rw [if_pos hx]
    obtain ⟨k, h1, h2, h3, hk⟩ := idx_to hl hx
    have key : ∀ m, k < m → m ≤ fr.length → toK fr tto x m = tto.getD k 0 := by
      intro m
      induction m with
      | zero => intro h; omega
      | succ m ih =>
        intro hkm hm
        rw [toK]
        by_cases he : m = k
        · subst he; rw [if_pos hk]
        · have hne : fr.getD m 0 ≠ x := by
            intro hm2
            apply he
            rw [← hk] at hm2
            have e1 : fr[m]'(by omega) = fr[k]'h2 := by
              simpa [List.getD, List.getElem?_eq_getElem (show m < fr.length by omega), List.getElem?_eq_getElem h2] using hm2
            exact (List.getElem_inj hn).1 e1
          rw [if_neg hne]
          exact ih (by omega) (by omega)
    rw [key fr.length h2 (Nat.le_refl _), h3]
  · rw [if_neg hx]
    refine toK_none fr tto x _ (Nat.le_refl _) fun j hj he => hx ?_
    rw [hasB_iff]
    rw [← he, List.getD_eq_getElem?_getD, List.getElem?_eq_getElem hj]
    exact List.getElem_mem hj
set_option maxHeartbeats 4000000 in
set_option maxRecDepth 100000 in
theorem papply_any (v vr vw : Value) (I : List PPh) (R : PRule) (l : List Int) (w : World) (hv : RdV w v I) (hr : RdR w vr R) (hw : RdI w vw l) (hro : ROk R) (hln : l.length ≤ 1000000) (hnz : ∀ x ∈ l, x ≠ 0) :
    Calls Try.prog 19 #[v, vr, vw] w fun e w' => (∃ v', e = .returned v' ∧ OwnI w' w.heap.size v' (applyF I R l)) ∧ Below w.heap.size w w' := by
  obtain ⟨u, rfl, hp⟩ := id hv
  obtain ⟨A0, n0, c0, rfl, _, _, _, _⟩ := hp.op
  obtain ⟨vf, vt, vl, vg, rfl, hf, ht, hl, hg⟩ := id hr
  obtain ⟨A1, n1, c1, rfl, _, _, HN1, HR1⟩ := hf.op
  obtain ⟨A2, n2, c2, rfl, _, _, HN2, HR2⟩ := ht.op
  obtain ⟨A3, n3, c3, rfl, _, _, HN3, _⟩ := hl.op
  obtain ⟨A4, n4, c4, rfl, _, _, HN4, _⟩ := hg.op
  have HV := Lib.hid hv
  have HRR := Lib.hid hr
  have HF := Lib.hid hf
  have HT := Lib.hid ht
  clear hp hf ht hl hg hv hr
  obtain ⟨beg, hbeg⟩ : ∃ x, R.beg = x := ⟨_, rfl⟩
  obtain ⟨fin, hfin⟩ : ∃ x, R.fin = x := ⟨_, rfl⟩
  rw [hbeg, hfin] at HRR ⊢
  clear hbeg hfin
  obtain ⟨A, n, c, rfl, hnc, _, HN, HR⟩ := hw.op
  have HW := Lib.hid hw
  have HRO := Lib.hid hro
  have HLN := Lib.hid hln
  have HNZ := Lib.hid hnz
  rw [HN.out] at hln
  clear hw hro hnz
  go_enter Try.func19, Try.ntmps19
  go_wp2_with fail
  generalize hW : World.alloc (World.alloc w _) _ = W
  have HBW : Hid (Below w.heap.size w W) := by rw [← hW]; exact bchain (al_below _ _) (al_below _ _)
  have HP : Hid (VBlk W w.heap.size (.slice A0 n0 c0)) := by rw [← hW]; exact VBlk.below (heap_alloc_new w _) (al_below _ _)
  have HQ : Hid (RBlk W (w.heap.size + 1) (.slice A1 n1 c1) (.slice A2 n2 c2) (.slice A3 n3 c3) (.slice A4 n4 c4) beg fin) := by
    have h := heap_alloc_new (w.alloc (.cells #[.slice A0 n0 c0] 24)) (.cells #[.slice A1 n1 c1, .slice A2 n2 c2, .slice A3 n3 c3, .slice A4 n4 c4, .bool beg, .bool fin] 28)
    rw [World.size_alloc] at h
    rw [← hW]; exact h
  clear hW
  go_loopw [7, 12] (fun v7 v12 wr => ∃ k : Nat, k ≤ n ∧ v12 = .int .i64 k ∧ Hid (OwnI wr W.heap.size v7 (applyK I R l k)) ∧ Hid (Below W.heap.size W wr)) (fun _ v12 _ => n - (intOf v12).toNat)
  case atStart => exact ⟨0, Nat.zero_le _, rfl, World.ownsRow_nil _ _ _ _, Below.refl _ _⟩
  case round =>
    obtain ⟨k, hk, rfl, HO, HBR⟩ := hrel
    obtain ⟨_, Ao, co, rfl⟩ := own_slice HO.out
    have HBX := Lib.hid (bchain HBW.out HBR.out)
    by_cases hlt : k < n
    · skip
      obtain ⟨b, off, x, rfl, hb, hd, hc0⟩ := (HR.out k hlt).below HBX.out
      have HX : Hid (l.getD k 0 = x) := getD_at hd.out
      have HX0 : Hid (x ≠ 0) := HNZ.out x (List.mem_of_mem_drop (by rw [hd.out]; exact List.mem_cons_self))
      obtain ⟨z0, z1, z2, z3, z4, z5⟩ := (HQ.out.below HBR.out).cells
      have y0 := (HP.out.below HBR.out).cell
      have z8 := (HQ.out.below HBR.out).lt
      have z9 := (HP.out.below HBR.out).lt
      have hk0 : (0 : Int) ≤ (k : Int) := by omega
      go_wp2_with fail
      have HC0 := Lib.hid hc0
      have HBB := Lib.hid hb
      clear y0 z0 z1 z2 z3 z4 z5 z8 z9 hc0 hb
      refine (psite_any _ _ _ I R l k _ (HV.out.below HBX.out) (HRR.out.below HBX.out) (HW.out.below HBX.out) (by rw [HN.out]; exact hlt) HRO.out.l1 HRO.out.l2 HLN.out).mono ?_
      rintro e w1 ⟨rfl, hb1⟩
      have HB1 := Lib.hid (bchain HBR.out hb1)
      have HO1 : Hid (OwnI w1 W.heap.size (.slice Ao (applyK I R l k).length co) (applyK I R l k)) := own_below HO.out hb1
      have hl1 : (applyK I R l k).length ≤ 1000000 := by have := applyK_len I R l k; omega
      have hsz := HB1.out.size
      cases hs : siteB I R l k
      · have HS : Hid (applyK I R l (k + 1) = applyK I R l k ++ [x]) := by rw [Hid, applyK_succ, outB, hs, HX.out, if_neg (by decide : ¬ (false = true)), sym, if_neg HX0.out]
        clear hs hb1
        go_wp2_with (at_builtin; refine wpList_app_int rfl (.tmp 32) (.tmp 34) rfl W.heap.size (.slice Ao (applyK I R l k).length co) (applyK I R l k) rfl HO1.out x (applyK I R l k).length (Lib.hid rfl) hl1 hsz rfl ?_; intro g7 c7 w7 ho7 hgg7 hg7; have HO7 := Lib.hid ho7; have HB7 := Lib.hid (below_grown HB1.out (Nat.le_refl _) HO1.out hg7); clear ho7 hgg7 hg7)
        go_roundw
        case rel => exact ⟨k + 1, by omega, by go_num, by rw [Hid, HS.out]; exact HO7.out, HB7.out⟩
        case measure => simp [intOf]; omega
      · have hsh := site_has hs
        rw [HX.out] at hsh
        obtain ⟨kk, hi1, hi2, hi3, _⟩ := idx_to HRO.out.tl hsh
        obtain ⟨b2, o2, t, rfl, hb2, hd2, hc2⟩ := (HR2.out kk (by rw [← HN2.out, HRO.out.tl]; exact hi2)).below (bchain HBX.out hb1)
        have HTT : Hid (toF R.fr R.tto x = t) := by rw [Hid, ← hi3]; exact getD_at hd2.out
        have HIX := Lib.hid hi1
        have HS0 : Hid (applyK I R l (k + 1) = applyK I R l k ++ sym t) := by rw [Hid, applyK_succ, outB, hs, HX.out, HTT.out, if_pos rfl]
        have hkk0 : (0 : Int) ≤ (kk : Int) := by omega
        have hkk1 : kk < n2 := by rw [← HN2.out, HRO.out.tl]; exact hi2
        have HCC : Hid (w1.cell? ⟨b2, o2 + kk, none⟩ = some (.int .i64 t)) := hc2
        have HBC : Hid (b2 < w1.heap.size) := hb2
        clear hs hsh hi1 hi2 hi3 hb2 hc2 hb1
        go_upto_region 6 with (fail)
        refine wp_region_ord 6 [0, 1, 2, 3, 4, 5] [] [0, 1, 2, 3, 4] [5, 6, 7, 8] (fun w' => Below w1.heap.size w1 w') (by kernel_rfl) (by kernel_rfl) ?_
        rintro Z hZ
        have HSZ : Hid (Below w1.heap.size w1 Z) := by rw [hZ]; exact (Below.refl _ _).drew
        clear hZ
        refine ⟨HSZ.out, ?_⟩
        have HS : Hid (∀ w' : World, Below w1.heap.size w1 w' → w'.cell? ⟨w.heap.size + 1, 0, none⟩ = some (.slice A1 n1 c1) ∧ w'.cell? ⟨w.heap.size + 1, 1, none⟩ = some (.slice (some ⟨b2, o2, none⟩) n2 c2)) := by
          intro w' h
          obtain ⟨r0, r1, _, _, _, _⟩ := (HQ.out.below (bchain HB1.out h)).cells
          exact ⟨r0, r1⟩
        iterate 5 (refine wpHead_cons (v := ?_) rfl rfl (fun w' hS => ?_) ?_; rotate_left; (focus ((try obtain ⟨s0, s1⟩ := HS.out _ (hS rfl)); clear hS; go_simp; try with_reducible rfl; done)); (try simp only [Act.put, List.setIfInBounds_toArray, List.set_cons_zero, List.set_cons_succ]))
        refine wpHead_nil ?_
        refine wpTail_cons rfl rfl (fun K hK => ?_)
        go_simp
        refine (index_any _ R.fr x _ (HF.out.below (bchain HBW.out (bchain HB1.out HSZ.out)))).mono ?_
        rintro e w2 ⟨rfl, rfl⟩
        rw [HIX.out]
        refine hK.out _ _ (fun _ => HSZ.out) ?_
        clear hK K HS
        (try simp only [Act.put, List.setIfInBounds_toArray, List.set_cons_zero, List.set_cons_succ])
        have hc3 := (HSZ.out.cell (p := ⟨b2, o2 + kk, none⟩) HBC.out).trans HCC.out
        refine wpTail_rest 6 rfl ?_
        simp only [List.drop_succ_cons, List.drop_zero]
        go_wp2_with fail
        refine NoPanic.normal ?_
        clear hc3 hkk0 hkk1
        have HB2 := Lib.hid (bchain HB1.out HSZ.out)
        have HO2 : Hid (OwnI w2 W.heap.size (.slice Ao (applyK I R l k).length co) (applyK I R l k)) := own_below HO1.out HSZ.out
        clear HB1 HO1 hsz
        have HB1 := Lib.hid HB2.out
        have HO1 := Lib.hid HO2.out
        have hsz := HB1.out.size
        by_cases ht0 : t = 0
        · have ht1 : (t == 0) = true := by simp [ht0]
          have HS : Hid (applyK I R l (k + 1) = applyK I R l k) := by rw [Hid, HS0.out, sym, if_pos ht0, List.append_nil]
          clear ht0 HS0
          go_wp2_with fail
          go_roundw
          case rel => exact ⟨k + 1, by omega, by go_num, by rw [Hid, HS.out]; exact HO1.out, HB1.out⟩
          case measure => simp [intOf]; omega
        · have ht1 : (t == 0) = false := by simp [ht0]
          have HS : Hid (applyK I R l (k + 1) = applyK I R l k ++ [t]) := by rw [Hid, HS0.out, sym, if_neg ht0]
          clear ht0 HS0
          go_wp2_with (at_builtin; refine wpList_app_int rfl (.tmp 32) (.tmp 34) rfl W.heap.size (.slice Ao (applyK I R l k).length co) (applyK I R l k) rfl HO1.out t (applyK I R l k).length (Lib.hid rfl) hl1 hsz rfl ?_; intro g7 c7 w7 ho7 hgg7 hg7; have HO7 := Lib.hid ho7; have HB7 := Lib.hid (below_grown HB1.out (Nat.le_refl _) HO1.out hg7); clear ho7 hgg7 hg7)
          go_roundw
          case rel => exact ⟨k + 1, by omega, by go_num, by rw [Hid, HS.out]; exact HO7.out, HB7.out⟩
          case measure => simp [intOf]; omega
    · obtain rfl : n = k := by omega
      have HOF : Hid (OwnI wr w.heap.size (.slice Ao (applyK I R l n).length co) (applyF I R l)) := by rw [Hid, applyF, HN.out]; exact own_base HO.out HBW.out.size
      go_wp2_with fail
      go_ret
      exact ⟨⟨_, rfl, HOF.out⟩, HBX.out⟩
set_option maxHeartbeats 4000000 in
set_option maxRecDepth 100000 in
theorem rapply_any (v vr vw : Value) (I : List PPh) (R : PRule) (l : List Int) (w : World) (hv : RdV w v I) (hr : RdR w vr R) (hw : RdI w vw l) (hro : ROk R) (hln : l.length ≤ 1000000) (hnz : ∀ x ∈ l, x ≠ 0) (hnd : R.fr.Nodup) :
    Calls Try.prog 20 #[v, vr, vw] w fun e w' => (∃ v', e = .returned v' ∧ OwnI w' w.heap.size v' (applyF I R l)) ∧ Below w.heap.size w w' := by
  obtain ⟨u, rfl, hp⟩ := id hv
  obtain ⟨A0, n0, c0, rfl, _, _, _, _⟩ := hp.op
  obtain ⟨vf, vt, vl, vg, rfl, hf, ht, hl, hg⟩ := id hr
  obtain ⟨A1, n1, c1, rfl, _, _, HN1, HR1⟩ := hf.op
  obtain ⟨A2, n2, c2, rfl, _, _, HN2, HR2⟩ := ht.op
  obtain ⟨A3, n3, c3, rfl, _, _, HN3, _⟩ := hl.op
  obtain ⟨A4, n4, c4, rfl, _, _, HN4, _⟩ := hg.op
  have HV := Lib.hid hv
  have HRR := Lib.hid hr
  have HF := Lib.hid hf
  have HT := Lib.hid ht
  clear hp hf ht hl hg hv hr
  obtain ⟨beg, hbeg⟩ : ∃ x, R.beg = x := ⟨_, rfl⟩
  obtain ⟨fin, hfin⟩ : ∃ x, R.fin = x := ⟨_, rfl⟩
  rw [hbeg, hfin] at HRR ⊢
  clear hbeg hfin
  obtain ⟨A, n, c, rfl, hnc, _, HN, HR⟩ := hw.op
  have HW := Lib.hid hw
  have HRO := Lib.hid hro
  have HLN := Lib.hid hln
  have HNZ := Lib.hid hnz
  rw [HN.out] at hln
  clear hw hro hnz
  have HND := Lib.hid hnd
  clear hnd
  go_enter Try.func20, Try.ntmps20
  go_wp2_with fail
  generalize hW : World.alloc (World.alloc w _) _ = W
  have HBW : Hid (Below w.heap.size w W) := by rw [← hW]; exact bchain (al_below _ _) (al_below _ _)
  have HP : Hid (VBlk W w.heap.size (.slice A0 n0 c0)) := by rw [← hW]; exact VBlk.below (heap_alloc_new w _) (al_below _ _)
  have HQ : Hid (RBlk W (w.heap.size + 1) (.slice A1 n1 c1) (.slice A2 n2 c2) (.slice A3 n3 c3) (.slice A4 n4 c4) beg fin) := by
    have h := heap_alloc_new (w.alloc (.cells #[.slice A0 n0 c0] 24)) (.cells #[.slice A1 n1 c1, .slice A2 n2 c2, .slice A3 n3 c3, .slice A4 n4 c4, .bool beg, .bool fin] 28)
    rw [World.size_alloc] at h
    rw [← hW]; exact h
  clear hW
  go_loopw [7, 13] (fun v7 v13 wr => ∃ k : Nat, k ≤ n ∧ v13 = .int .i64 k ∧ Hid (OwnI wr W.heap.size v7 (applyK I R l k)) ∧ Hid (Below W.heap.size W wr)) (fun _ v13 _ => n - (intOf v13).toNat)
  case atStart => exact ⟨0, Nat.zero_le _, rfl, World.ownsRow_nil _ _ _ _, Below.refl _ _⟩
  case round =>
    obtain ⟨k, hk, rfl, HO, HBR⟩ := hrel
    obtain ⟨_, Ao, co, rfl⟩ := own_slice HO.out
    have HBX := Lib.hid (bchain HBW.out HBR.out)
    by_cases hlt : k < n
    · skip
      obtain ⟨b, off, x, rfl, hb, hd, hc0⟩ := (HR.out k hlt).below HBX.out
      have HX : Hid (l.getD k 0 = x) := getD_at hd.out
      have HX0 : Hid (x ≠ 0) := HNZ.out x (List.mem_of_mem_drop (by rw [hd.out]; exact List.mem_cons_self))
      obtain ⟨z0, z1, z2, z3, z4, z5⟩ := (HQ.out.below HBR.out).cells
      have y0 := (HP.out.below HBR.out).cell
      have z8 := (HQ.out.below HBR.out).lt
      have z9 := (HP.out.below HBR.out).lt
      have hk0 : (0 : Int) ≤ (k : Int) := by omega
      go_wp2_with fail
      have HC0 := Lib.hid hc0
      have HBB := Lib.hid hb
      clear y0 z0 z1 z2 z3 z4 z5 z8 z9 hc0 hb
      refine (rsite_any _ _ _ I R l k _ (HV.out.below HBX.out) (HRR.out.below HBX.out) (HW.out.below HBX.out) (by rw [HN.out]; exact hlt) HRO.out.l1 HRO.out.l2 HLN.out).mono ?_
      rintro e w1 ⟨rfl, hb1⟩
      have HB1 := Lib.hid (bchain HBR.out hb1)
      have HO1 : Hid (OwnI w1 W.heap.size (.slice Ao (applyK I R l k).length co) (applyK I R l k)) := own_below HO.out hb1
      have hl1 : (applyK I R l k).length ≤ 1000000 := by have := applyK_len I R l k; omega
      have hsz := HB1.out.size
      have HX1 : Hid ((x == 0) = false ∧ (x != 0) = true) := ⟨by simpa using HX0.out, by simpa using HX0.out⟩
      cases hs : siteB I R l k
      · have HS : Hid (applyK I R l (k + 1) = applyK I R l k ++ [x]) := by rw [Hid, applyK_succ, outB, hs, HX.out, if_neg (by decide : ¬ (false = true)), sym, if_neg HX0.out]
        clear hs hb1
        obtain ⟨hx1, hx2⟩ := HX1.out
        go_wp2_with (at_builtin; refine wpList_app_int rfl (.tmp 49) (.tmp 51) rfl W.heap.size (.slice Ao (applyK I R l k).length co) (applyK I R l k) rfl HO1.out x (applyK I R l k).length (Lib.hid rfl) hl1 hsz rfl ?_; intro g7 c7 w7 ho7 hgg7 hg7; have HO7 := Lib.hid ho7; have HB7 := Lib.hid (below_grown HB1.out (Nat.le_refl _) HO1.out hg7); clear ho7 hgg7 hg7)
        go_roundw
        case rel => exact ⟨k + 1, by omega, by go_num, by rw [Hid, HS.out]; exact HO7.out, HB7.out⟩
        case measure => simp [intOf]; omega
      · have HS0 : Hid (applyK I R l (k + 1) = applyK I R l k ++ sym (toK R.fr R.tto x n1)) := by
          have hsh := site_has hs
          rw [HX.out] at hsh
          rw [Hid, applyK_succ, outB, hs, HX.out, ← HN1.out, toK_all R.fr R.tto x HRO.out.tl HND.out, hsh, if_pos rfl]
        have HC1 : Hid (w1.cell? ⟨b, off + k, none⟩ = some (.int .i64 x) ∧ b < w1.heap.size) := by
          have h := HBB.out
          exact ⟨(hb1.cell (p := ⟨b, off + k, none⟩) h).trans HC0.out, Nat.lt_of_lt_of_le h hb1.size⟩
        obtain ⟨z0, z1, _, _, _, _⟩ := (HQ.out.below HB1.out).cells
        have z8 := (HQ.out.below HB1.out).lt
        clear hs hb1
        go_wp2_with fail
        clear z0 z1 z8
        obtain ⟨wo, rfl⟩ : ∃ wo : World, wo = wr := ⟨_, rfl⟩
        go_loopw [9, 28] (fun v9 v28 wr => ∃ j : Nat, j ≤ n1 ∧ v28 = .int .i64 j ∧ v9 = .int .i64 (toK R.fr R.tto x j) ∧ Hid (Below w1.heap.size w1 wr)) (fun _ v28 _ => n1 - (intOf v28).toNat)
        case atStart => exact ⟨0, Nat.zero_le _, rfl, rfl, Below.refl _ _⟩
        case round =>
          obtain ⟨j, hj, rfl, rfl, HBS⟩ := hrel
          by_cases hjlt : j < n1
          · obtain ⟨b1, o1, f, rfl, hb1, hd1, hc1⟩ := (HR1.out j hjlt).below (bchain HBW.out (bchain HB1.out HBS.out))
            obtain ⟨b2, o2, t, rfl, hb2, hd2, hc2⟩ := (HR2.out j (by rw [← HN2.out, HRO.out.tl, HN1.out]; exact hjlt)).below (bchain HBW.out (bchain HB1.out HBS.out))
            have HK2 : Hid (toK R.fr R.tto x (j + 1) = if f = x then t else toK R.fr R.tto x j) := by rw [Hid, toK, getD_at hd1.out, getD_at hd2.out]
            have hj0 : (0 : Int) ≤ (j : Int) := by omega
            have hj2 : j < n2 := by rw [← HN2.out, HRO.out.tl, HN1.out]; exact hjlt
            have hb1' := hb1
            have hb2' := hb2
            have HS : Hid (∀ w' : World, Below wr.heap.size wr w' → (w'.cell? ⟨w.heap.size + 1, 0, none⟩ = some (.slice (some ⟨b1, o1, none⟩) n1 c1) ∧ w'.cell? ⟨w.heap.size + 1, 1, none⟩ = some (.slice (some ⟨b2, o2, none⟩) n2 c2)) ∧ w'.cell? ⟨b1, o1 + j, none⟩ = some (.int .i64 f) ∧ w'.cell? ⟨b2, o2 + j, none⟩ = some (.int .i64 t) ∧ w'.cell? ⟨b, off + k, none⟩ = some (.int .i64 x)) := by
              intro w' h
              obtain ⟨r0, r1, _, _, _, _⟩ := (HQ.out.below (bchain HB1.out (bchain HBS.out h))).cells
              exact ⟨⟨r0, r1⟩, (h.cell (p := ⟨b1, o1 + j, none⟩) hb1').trans hc1, (h.cell (p := ⟨b2, o2 + j, none⟩) hb2').trans hc2, ((bchain HBS.out h).cell (p := ⟨b, off + k, none⟩) HC1.out.2).trans HC1.out.1⟩
            clear hb1 hb2 hc1 hc2 hb1' hb2'
            go_upto_region 10 with (fail)
            refine wp_region_ord 9 [0, 1, 2, 3, 4, 5, 6, 7, 8] [] [0, 1, 2, 3, 4, 5, 6, 7, 8] [9] (fun w' => Below wr.heap.size wr w') (by kernel_rfl) (by kernel_rfl) ?_
            rintro Z hZ
            have HSZ : Hid (Below wr.heap.size wr Z) := by rw [hZ]; exact (Below.refl _ _).drew
            clear hZ
            refine ⟨HSZ.out, ?_⟩
            iterate 9 (refine wpHead_cons (v := ?_) rfl rfl (fun w' hS => ?_) ?_; rotate_left; (focus ((try obtain ⟨⟨s0, s1⟩, s2, s3, s4⟩ := HS.out _ (hS rfl)); clear hS; go_simp; try with_reducible rfl; done)); (try simp only [Act.put, List.setIfInBounds_toArray, List.set_cons_zero, List.set_cons_succ]))
            refine wpHead_nil ?_
            refine wpTail_rest 9 rfl ?_
            simp only [List.drop_succ_cons, List.drop_zero]
            obtain ⟨⟨s0, s1⟩, s2, s3, s4⟩ := HS.out Z HSZ.out
            have z8 := (HQ.out.below (bchain HB1.out (bchain HBS.out HSZ.out))).lt
            by_cases hfx : f = x
            · have hf1 : (f == x) = true := by simp [hfx]
              have HK3 : Hid (toK R.fr R.tto x (j + 1) = t) := by rw [Hid, HK2.out, if_pos hfx]
              clear hfx
              go_wp2_with fail
              refine NoPanic.normal ?_
              go_wp2_with fail
              go_roundw
              case rel => exact ⟨j + 1, by omega, by go_num, by rw [HK3.out], bchain HBS.out HSZ.out⟩
              case measure => simp [intOf]; omega
            · have hf1 : (f == x) = false := by simp [hfx]
              have HK3 : Hid (toK R.fr R.tto x (j + 1) = toK R.fr R.tto x j) := by rw [Hid, HK2.out, if_neg hfx]
              clear hfx
              go_wp2_with fail
              refine NoPanic.normal ?_
              go_wp2_with fail
              go_roundw
              case rel => exact ⟨j + 1, by omega, by go_num, by rw [HK3.out], bchain HBS.out HSZ.out⟩
              case measure => simp [intOf]; omega
          · obtain rfl : n1 = j := by omega
            obtain ⟨t, ht⟩ : ∃ t, toK R.fr R.tto x n1 = t := ⟨_, rfl⟩
            rw [ht] at HS0 ⊢
            have HB2 := Lib.hid (bchain HB1.out HBS.out)
            have HO2 : Hid (OwnI wr W.heap.size (.slice Ao (applyK I R l k).length co) (applyK I R l k)) := own_below HO1.out HBS.out
            clear HB1 HO1 hsz ht
            have HB1 := Lib.hid HB2.out
            have HO1 := Lib.hid HO2.out
            have hsz := HB1.out.size
            by_cases ht0 : t = 0
            · have ht1 : (t == 0) = true := by simp [ht0]
              have ht2 : (t != 0) = false := by simp [ht0]
              have HS : Hid (applyK I R l (k + 1) = applyK I R l k) := by rw [Hid, HS0.out, sym, if_pos ht0, List.append_nil]
              clear ht0 HS0
              go_wp2_with fail
              go_roundw
              case rel => exact ⟨k + 1, by omega, by go_num, by rw [Hid, HS.out]; exact HO1.out, HB1.out⟩
              case measure => simp [intOf]; omega
            · have ht1 : (t == 0) = false := by simp [ht0]
              have ht2 : (t != 0) = true := by simp [ht0]
              have HS : Hid (applyK I R l (k + 1) = applyK I R l k ++ [t]) := by rw [Hid, HS0.out, sym, if_neg ht0]
              clear ht0 HS0
              go_wp2_with (at_builtin; refine wpList_app_int rfl (.tmp 49) (.tmp 51) rfl W.heap.size (.slice Ao (applyK I R l k).length co) (applyK I R l k) rfl HO1.out t (applyK I R l k).length (Lib.hid rfl) hl1 hsz rfl ?_; intro g7 c7 w7 ho7 hgg7 hg7; have HO7 := Lib.hid ho7; have HB7 := Lib.hid (below_grown HB1.out (Nat.le_refl _) HO1.out hg7); clear ho7 hgg7 hg7)
              go_roundw
              case rel => exact ⟨k + 1, by omega, by go_num, by rw [Hid, HS.out]; exact HO7.out, HB7.out⟩
              case measure => simp [intOf]; omega
    · obtain rfl : n = k := by omega
      have HOF : Hid (OwnI wr w.heap.size (.slice Ao (applyK I R l n).length co) (applyF I R l)) := by rw [Hid, applyF, HN.out]; exact own_base HO.out HBW.out.size
      go_wp2_with fail
      go_ret
      exact ⟨⟨_, rfl, HOF.out⟩, HBX.out⟩
end Go.Proofs.Ytdijlakeonionaa
