/-
  Sorted of the first reference, and the reference's Check of a rule.
-/
import Derived.Test.YtdijlakeonionaaQ15
import Derived.Test.YtdijlakeonionaaQ13
namespace Go.Proofs.Ytdijlakeonionaa
open Go.ChangeShapes Go.WideShapes Go.ChangeAt Go.RowKit
set_option maxHeartbeats 4000000 in
set_option maxRecDepth 100000 in
theorem rsorted_any (v : Value) (l : List Int) (m : Nat) (w : World) (hv : RdI w v l) (hb : ∀ x ∈ l, 1 ≤ x ∧ x ≤ (m : Int)) (hm : m ≤ 1000000) :
    Calls Try.prog 43 #[v] w fun e w' => (∃ v', e = .returned v' ∧ OwnI w' w.heap.size v' (sortF l)) ∧ Below w.heap.size w w' := by
  obtain ⟨A, n, c, rfl, hnc, hcm, HN, HR⟩ := hv.op
  have HV := Lib.hid hv
  have HLN : Hid (∀ k, (sortK l k).length ≤ 1000000) := fun k => Nat.le_trans (up_len (sortK_up l k) fun x hx => hb x (List.mem_of_mem_take ((sortK_mem l x k).1 hx))) hm
  clear hv hb hm
  go_enter Try.func43, Try.ntmps43
  go_wp2_with fail
  go_loopw [3, 7] (fun v3 vi wr => ∃ k : Nat, k ≤ n ∧ vi = .int .i64 k ∧ Hid (OwnI wr w.heap.size v3 (sortK l k)) ∧ Hid (Below w.heap.size w wr)) (fun _ vi _ => n - (intOf vi).toNat)
  case atStart => exact ⟨0, Nat.zero_le _, rfl, World.ownsRow_nil _ _ _ _, Below.refl _ _⟩
  case round =>
    obtain ⟨k, hk, rfl, HO, HBR⟩ := hrel
    obtain ⟨_, A3, c3, rfl⟩ := own_slice HO.out
    by_cases hlt : k < n
    · obtain ⟨b, off, x, rfl, hbb, hd, e0⟩ := (HR.out k hlt).below HBR.out
      have hk0 : (0 : Int) ≤ (k : Int) := by omega
      go_wp2_with fail
      clear e0
      refine (put_any _ (sortK l k) x _ HO.out.rd (HLN.out k)).mono ?_
      rintro e w1 ⟨⟨v1, rfl, ho⟩, hb1⟩
      have HB1 := Lib.hid (bchain HBR.out hb1)
      have HO1 : Hid (OwnI w1 w.heap.size v1 (sortK l (k + 1))) := by rw [Hid, sortK_succ hd.out]; exact own_base ho HBR.out.size
      obtain ⟨_, A1, c1, rfl⟩ := own_slice HO1.out
      clear ho hb1
      go_wp2_with fail
      go_roundw
      case rel => exact ⟨k + 1, by omega, by go_num, HO1.out, HB1.out⟩
      case measure => simp [intOf]; omega
    · obtain rfl : n = k := by omega
      have HOF : Hid (OwnI wr w.heap.size (.slice A3 (sortK l n).length c3) (sortF l)) := by rw [Hid, sortF, HN.out]; exact HO.out
      go_wp2_with fail
      go_ret
      exact ⟨⟨_, rfl, HOF.out⟩, HBR.out⟩
def okTo (I : List PPh) (t : Int) : Bool := t == 0 || isB I t
def chkR (I : List PPh) (R : PRule) : Int :=
  if R.fr.length = 0 ∨ R.tto.length ≠ R.fr.length then 1 else if (R.fr.all (isB I) && R.tto.all (okTo I)) = false then 19 else if ¬ R.fr.Nodup then 8 else if 2 < R.lft.length ∨ 2 < R.rgt.length then 5 else 0
set_option maxHeartbeats 8000000 in
set_option maxRecDepth 100000 in
theorem rchkR_any (v vr : Value) (I : List PPh) (R : PRule) (w : World) (hv : RdV w v I) (hr : RdR w vr R) (hI : I.length ≤ 1000000) :
    Calls Try.prog 14 #[v, vr] w fun e w' => e = .returned (.int .i64 (chkR I R)) ∧ Below w.heap.size w w' := by
  obtain ⟨ck, hck⟩ : ∃ ck, chkR I R = ck := ⟨_, rfl⟩
  rw [hck]
  unfold chkR at hck
  obtain ⟨u, rfl, hp⟩ := id hv
  obtain ⟨A0, n0, c0, rfl, _, _, _, _⟩ := hp.op
  obtain ⟨vf, vt, vl, vg, rfl, hf, ht, hl, hg⟩ := id hr
  obtain ⟨A1, n1, c1, rfl, _, _, HN1, HR1⟩ := hf.op
  obtain ⟨A2, n2, c2, rfl, _, _, HN2, HR2⟩ := ht.op
  obtain ⟨A3, n3, c3, rfl, _, _, HN3, _⟩ := hl.op
  obtain ⟨A4, n4, c4, rfl, _, _, HN4, _⟩ := hg.op
  have HV := Lib.hid hv
  have HRR := Lib.hid hr
  have HF := Lib.hid hf
  have HT := Lib.hid ht
  clear hp hf ht hl hg hv hr
  obtain ⟨beg, hbeg⟩ : ∃ x, R.beg = x := ⟨_, rfl⟩
  obtain ⟨fin, hfin⟩ : ∃ x, R.fin = x := ⟨_, rfl⟩
  rw [hbeg, hfin] at HRR ⊢
  clear hbeg hfin
  rw [HN1.out, HN2.out, HN3.out, HN4.out] at hck
  have HII := Lib.hid hI
  clear hI
  go_enter Try.func14, Try.ntmps14
  go_upto_region 1 with (fail)
  generalize hW : World.alloc (World.alloc w _) _ = W
  have HBW : Hid (Below w.heap.size w W) := by rw [← hW]; exact bchain (al_below _ _) (al_below _ _)
  have HP : Hid (VBlk W w.heap.size (.slice A0 n0 c0)) := by rw [← hW]; exact VBlk.below (heap_alloc_new w _) (al_below _ _)
  have HQ : Hid (RBlk W (w.heap.size + 1) (.slice A1 n1 c1) (.slice A2 n2 c2) (.slice A3 n3 c3) (.slice A4 n4 c4) beg fin) := by
    have h := heap_alloc_new (w.alloc (.cells #[.slice A0 n0 c0] 24)) (.cells #[.slice A1 n1 c1, .slice A2 n2 c2, .slice A3 n3 c3, .slice A4 n4 c4, .bool beg, .bool fin] 28)
    rw [World.size_alloc] at h
    rw [← hW]; exact h
  clear hW
  obtain ⟨z0, z1, z2, z3, z4, z5⟩ := HQ.out.cells
  have zl := HQ.out.lt
  by_cases h0 : n1 = 0
  · rw [if_pos (.inl h0)] at hck
    have HC := Lib.hid hck
    clear hck
    subst h0
    go_wp2_with fail
    go_ret
    exact ⟨by rw [← HC.out]; rfl, HBW.out⟩
  have d0 : ((n1 : Int) == 0) = false := by simp; omega
  have d0' : (n1 == 0) = false := by simp; omega
  by_cases h1 : n2 = n1
  rotate_left
  · rw [if_pos (.inr h1)] at hck
    have HC := Lib.hid hck
    have d1 : ((n2 : Int) != (n1 : Int)) = true := by simp; omega
    have d1' : (n2 != n1) = true := by simp; omega
    clear hck h0 h1
    go_wp2_with fail
    go_ret
    exact ⟨by rw [← HC.out]; rfl, HBW.out⟩
  subst h1
  rw [if_neg (by omega)] at hck
  have d1 : ((n2 : Int) != (n2 : Int)) = false := by simp
  have d1' : (n2 != n2) = false := by simp
  have HCK := Lib.hid hck
  clear hck h0
  go_wp2_with fail
  clear z0 z1 z2 z3 z4 z5 zl d0 d0' d1 d1'
  go_loopw [22] (fun vi wr => ∃ k : Nat, k ≤ n2 ∧ vi = .int .i64 k ∧ Hid ((R.fr.take k).all (isB I) = true) ∧ Hid ((R.tto.take k).all (okTo I) = true) ∧ Hid (Below W.heap.size W wr)) (fun vi _ => n2 - (intOf vi).toNat)
  case atStart => exact ⟨0, Nat.zero_le _, rfl, rfl, rfl, Below.refl _ _⟩
  case round =>
    obtain ⟨k, hk, rfl, HA, HAT, HBR⟩ := hrel
    have HBX := Lib.hid (bchain HBW.out HBR.out)
    by_cases hlt : k < n2
    · obtain ⟨b, off, x, rfl, hb, hd, e0⟩ := (HR1.out k hlt).below HBX.out
      obtain ⟨b', off', t, rfl, hb', hd', e0'⟩ := (HR2.out k hlt).below HBX.out
      have hk0 : (0 : Int) ≤ (k : Int) := by omega
      have HE := Lib.hid e0
      have HE' := Lib.hid e0'
      have HBB := Lib.hid hb
      have HBB' := Lib.hid hb'
      clear e0 e0' hb hb'
      go_upto_region 6 with (fail)
      refine wp_region_mix 22 [0, 1, 2, 3, 4, 5, 6, 7, 8, 9, 10, 11, 12, 13, 14, 15, 16, 17, 18, 19, 20, 21] [] [(true, 0), (true, 1), (true, 2), (true, 3), (true, 4), (true, 5), (false, 6), (true, 7), (true, 8), (true, 9), (true, 10), (true, 11), (true, 12), (true, 13), (true, 14), (true, 15), (true, 16), (true, 17), (true, 18), (true, 19), (true, 20), (true, 21), (false, 22), (false, 23), (false, 24), (false, 25)] (fun w' => Below wr.heap.size wr w') (by kernel_rfl) (by kernel_rfl) ?_
      rintro D hD
      have HSD : Hid (Below wr.heap.size wr D) := by rw [hD]; exact (Below.refl _ _).drew
      clear hD
      refine ⟨HSD.out, ?_⟩
      have HS : Hid (∀ w' : World, Below wr.heap.size wr w' → w'.cell? ⟨w.heap.size, 0, none⟩ = some (.slice A0 n0 c0) ∧ (w'.cell? ⟨w.heap.size + 1, 0, none⟩ = some (.slice (some ⟨b, off, none⟩) n2 c1) ∧ w'.cell? ⟨w.heap.size + 1, 1, none⟩ = some (.slice (some ⟨b', off', none⟩) n2 c2)) ∧ w'.cell? ⟨b, off + k, none⟩ = some (.int .i64 x) ∧ w'.cell? ⟨b', off' + k, none⟩ = some (.int .i64 t)) := by
        intro w' h
        have h2 := bchain HBR.out h
        exact ⟨(HP.out.below h2).cell, ⟨(HQ.out.below h2).cells.1, (HQ.out.below h2).cells.2.1⟩, (h.cell (p := ⟨b, off + k, none⟩) HBB.out).trans HE.out, (h.cell (p := ⟨b', off' + k, none⟩) HBB'.out).trans HE'.out⟩
      iterate 6 (refine wpMix_q (v := ?_) rfl rfl (fun w' hS => ?_) ?_; rotate_left; (focus ((try obtain ⟨s0, ⟨t0, t1⟩, u0, u1⟩ := HS.out _ (hS rfl)); clear hS; go_simp; try with_reducible rfl; done)); (try simp only [Act.put, List.setIfInBounds_toArray, List.set_cons_zero, List.set_cons_succ]))
      refine wpMix_e rfl rfl (fun K hK => ?_)
      go_simp
      refine (ris_any _ I x _ (HV.out.below (bchain HBX.out HSD.out))).mono ?_
      rintro e w1 ⟨rfl, hb1⟩
      have HS1 := Lib.hid (bchain HSD.out hb1)
      refine hK.out _ _ (fun _ => HS1.out) ?_
      clear hK K hb1
      (try dsimp only); (try simp only [Act.put]); (try simp only [List.setIfInBounds_toArray, List.set_cons_zero, List.set_cons_succ])
      cases hx : isB I x
      · have HF : Hid (ck = 19) := by
          rw [Hid, ← HCK.out, all_no hd.out hx]; rfl
        clear hx
        iterate 19 (first | (refine wpMix_q (v := ?_) rfl rfl (fun w' hS => ?_) ?_; rotate_left; (focus ((try obtain ⟨s0, ⟨t0, t1⟩, u0, u1⟩ := HS.out _ (hS rfl)); clear hS; go_simp; try with_reducible rfl; done)); (try simp only [Act.put, List.setIfInBounds_toArray, List.set_cons_zero, List.set_cons_succ])) | (refine wpMix_qskip rfl rfl ?_; (try simp only [Act.put, List.setIfInBounds_toArray, List.set_cons_zero, List.set_cons_succ])) | (refine wpMix_eskip rfl rfl ( HS1).out ?_; (try simp only [Act.put, List.setIfInBounds_toArray, List.set_cons_zero, List.set_cons_succ])) | (refine wpMix_e rfl rfl (fun K hK => ?_); go_simp; refine hK.out _ _ (fun h => absurd h (by decide)) ?_; clear hK K; (try simp only [Act.put, List.setIfInBounds_toArray, List.set_cons_zero, List.set_cons_succ])))
        refine wpMix_nil ?_
        clear HS
        refine NoPanic.normal ?_
        go_wp2_with fail
        go_ret
        exact ⟨by rw [HF.out]; rfl, bchain HBX.out HS1.out⟩
      · have HAX : Hid ((R.fr.take (k + 1)).all (isB I) = true) := by rw [Hid, all_take_succ hd.out, HA.out, hx]; rfl
        clear hx
        by_cases ht0 : t = 0
        · subst ht0
          have HTX : Hid ((R.tto.take (k + 1)).all (okTo I) = true) := by rw [Hid, all_take_succ hd'.out, HAT.out]; rfl
          iterate 19 (first | (refine wpMix_q (v := ?_) rfl rfl (fun w' hS => ?_) ?_; rotate_left; (focus ((try obtain ⟨s0, ⟨t0, t1⟩, u0, u1⟩ := HS.out _ (hS rfl)); clear hS; go_simp; try with_reducible rfl; done)); (try simp only [Act.put, List.setIfInBounds_toArray, List.set_cons_zero, List.set_cons_succ])) | (refine wpMix_qskip rfl rfl ?_; (try simp only [Act.put, List.setIfInBounds_toArray, List.set_cons_zero, List.set_cons_succ])) | (refine wpMix_eskip rfl rfl ( HS1).out ?_; (try simp only [Act.put, List.setIfInBounds_toArray, List.set_cons_zero, List.set_cons_succ])) | (refine wpMix_e rfl rfl (fun K hK => ?_); go_simp; refine hK.out _ _ (fun h => absurd h (by decide)) ?_; clear hK K; (try simp only [Act.put, List.setIfInBounds_toArray, List.set_cons_zero, List.set_cons_succ])))
          refine wpMix_nil ?_
          clear HS
          refine NoPanic.normal ?_
          go_wp2_with fail
          go_roundw
          case rel => exact ⟨k + 1, by omega, by go_num, HAX.out, HTX.out, bchain HBR.out HS1.out⟩
          case measure => simp [intOf]; omega
        · have dt : (t == 0) = false := by simpa using ht0
          have dt' : (t != 0) = true := by simpa using ht0
          iterate 15 (first | (refine wpMix_q (v := ?_) rfl rfl (fun w' hS => ?_) ?_; rotate_left; (focus ((try obtain ⟨s0, ⟨t0, t1⟩, u0, u1⟩ := HS.out _ (hS rfl)); clear hS; go_simp; try with_reducible rfl; done)); (try simp only [Act.put, List.setIfInBounds_toArray, List.set_cons_zero, List.set_cons_succ])) | (refine wpMix_qskip rfl rfl ?_; (try simp only [Act.put, List.setIfInBounds_toArray, List.set_cons_zero, List.set_cons_succ])) | (refine wpMix_eskip rfl rfl ( HS1).out ?_; (try simp only [Act.put, List.setIfInBounds_toArray, List.set_cons_zero, List.set_cons_succ])) | (refine wpMix_e rfl rfl (fun K hK => ?_); go_simp; refine hK.out _ _ (fun h => absurd h (by decide)) ?_; clear hK K; (try simp only [Act.put, List.setIfInBounds_toArray, List.set_cons_zero, List.set_cons_succ])))
          refine wpMix_e rfl rfl (fun K hK => ?_)
          go_simp
          refine (ris_any _ I t _ (HV.out.below (bchain HBX.out HS1.out))).mono ?_
          rintro e w2 ⟨rfl, hb2⟩
          have HS2 := Lib.hid (bchain HS1.out hb2)
          refine hK.out _ _ (fun _ => HS2.out) ?_
          clear hK K hb2
          (try dsimp only); (try simp only [Act.put]); (try simp only [List.setIfInBounds_toArray, List.set_cons_zero, List.set_cons_succ])
          cases ht : isB I t
          · have HF : Hid (ck = 19) := by
              have : R.tto.all (okTo I) = false := all_no hd'.out (by rw [okTo, dt, ht]; rfl)
              rw [Hid, ← HCK.out, this, Bool.and_false]; rfl
            clear ht
            iterate 3 (first | (refine wpMix_q (v := ?_) rfl rfl (fun w' hS => ?_) ?_; rotate_left; (focus ((try obtain ⟨s0, ⟨t0, t1⟩, u0, u1⟩ := HS.out _ (hS rfl)); clear hS; go_simp; try with_reducible rfl; done)); (try simp only [Act.put, List.setIfInBounds_toArray, List.set_cons_zero, List.set_cons_succ])) | (refine wpMix_qskip rfl rfl ?_; (try simp only [Act.put, List.setIfInBounds_toArray, List.set_cons_zero, List.set_cons_succ])) | (refine wpMix_eskip rfl rfl ( HS2).out ?_; (try simp only [Act.put, List.setIfInBounds_toArray, List.set_cons_zero, List.set_cons_succ])) | (refine wpMix_e rfl rfl (fun K hK => ?_); go_simp; refine hK.out _ _ (fun h => absurd h (by decide)) ?_; clear hK K; (try simp only [Act.put, List.setIfInBounds_toArray, List.set_cons_zero, List.set_cons_succ])))
            refine wpMix_nil ?_
            clear HS
            refine NoPanic.normal ?_
            go_wp2_with fail
            go_ret
            exact ⟨by rw [HF.out]; rfl, bchain HBX.out HS2.out⟩
          · have HTX : Hid ((R.tto.take (k + 1)).all (okTo I) = true) := by rw [Hid, all_take_succ hd'.out, HAT.out, okTo, ht, Bool.or_true]; rfl
            clear ht
            iterate 3 (first | (refine wpMix_q (v := ?_) rfl rfl (fun w' hS => ?_) ?_; rotate_left; (focus ((try obtain ⟨s0, ⟨t0, t1⟩, u0, u1⟩ := HS.out _ (hS rfl)); clear hS; go_simp; try with_reducible rfl; done)); (try simp only [Act.put, List.setIfInBounds_toArray, List.set_cons_zero, List.set_cons_succ])) | (refine wpMix_qskip rfl rfl ?_; (try simp only [Act.put, List.setIfInBounds_toArray, List.set_cons_zero, List.set_cons_succ])) | (refine wpMix_eskip rfl rfl ( HS2).out ?_; (try simp only [Act.put, List.setIfInBounds_toArray, List.set_cons_zero, List.set_cons_succ])) | (refine wpMix_e rfl rfl (fun K hK => ?_); go_simp; refine hK.out _ _ (fun h => absurd h (by decide)) ?_; clear hK K; (try simp only [Act.put, List.setIfInBounds_toArray, List.set_cons_zero, List.set_cons_succ])))
            refine wpMix_nil ?_
            clear HS
            refine NoPanic.normal ?_
            go_wp2_with fail
            go_roundw
            case rel => exact ⟨k + 1, by omega, by go_num, HAX.out, HTX.out, bchain HBR.out HS2.out⟩
            case measure => simp [intOf]; omega
    · obtain rfl : n2 = k := by omega
      have hfa : R.fr.all (isB I) = true := by have := HA.out; rwa [List.take_of_length_le (by rw [HN1.out]; omega)] at this
      have hta : R.tto.all (okTo I) = true := by have := HAT.out; rwa [List.take_of_length_le (by rw [HN2.out]; omega)] at this
      have hck := HCK.out
      rw [hfa, hta, Bool.and_self, if_neg (by decide)] at hck
      have HCK2 := Lib.hid hck
      have HIN : Hid (∀ x ∈ R.fr, 1 ≤ x ∧ x ≤ (I.length : Int)) := by
        intro x hx
        have := List.all_eq_true.1 hfa x hx
        simpa [isB] using this
      clear hck hfa hta HCK HA HAT
      go_upto_region 9 with (fail)
      refine wp_region_mix 7 [0, 1, 2, 3, 4, 5, 6] [] [(true, 0), (true, 1), (true, 4), (true, 5), (true, 6), (false, 2), (true, 3), (false, 7)] (fun w' => Below wr.heap.size wr w') (by kernel_rfl) (by kernel_rfl) ?_
      rintro D hD
      have HSD : Hid (Below wr.heap.size wr D) := by rw [hD]; exact (Below.refl _ _).drew
      clear hD
      refine ⟨HSD.out, ?_⟩
      have HS : Hid (∀ w' : World, Below wr.heap.size wr w' → w'.cell? ⟨w.heap.size + 1, 0, none⟩ = some (.slice A1 n2 c1)) := by
        intro w' h
        exact (HQ.out.below (bchain HBR.out h)).cells.1
      iterate 5 (refine wpMix_q (v := ?_) rfl rfl (fun w' hS => ?_) ?_; rotate_left; (focus ((try obtain s0 := HS.out _ (hS rfl)); clear hS; go_simp; try with_reducible rfl; done)); (try simp only [Act.put, List.setIfInBounds_toArray, List.set_cons_zero, List.set_cons_succ]))
      refine wpMix_e rfl rfl (fun K hK => ?_)
      go_simp
      refine (rsorted_any _ R.fr I.length _ (HF.out.below (bchain HBX.out HSD.out)) HIN.out HII.out).mono ?_
      rintro e w1 ⟨⟨v1, rfl, ho⟩, hb1⟩
      obtain ⟨_, A7, c7, rfl⟩ := own_slice ho
      have HS1 := Lib.hid (bchain HSD.out hb1)
      refine hK.out _ _ (fun _ => HS1.out) ?_
      clear hK K hb1 ho
      (try dsimp only); (try simp only [Act.put]); (try simp only [List.setIfInBounds_toArray, List.set_cons_zero, List.set_cons_succ])
      have hnd := (sortF_nodup R.fr).2
      rw [HN1.out] at hnd
      by_cases hN : R.fr.Nodup
      · have hq := hnd.2 hN
        have HCK3 := HCK2.out
        rw [if_neg (fun h => h hN)] at HCK3
        have HC3 := Lib.hid HCK3
        have d2 : (((sortF R.fr).length : Int) != (n2 : Int)) = false := by simp; omega
        have d2' : ((sortF R.fr).length != n2) = false := by simp; omega
        clear HCK3 HCK2 hN hnd hq
        iterate 2 (first | (refine wpMix_q (v := ?_) rfl rfl (fun w' hS => ?_) ?_; rotate_left; (focus ((try obtain s0 := HS.out _ (hS rfl)); clear hS; go_simp; try with_reducible rfl; done)); (try simp only [Act.put, List.setIfInBounds_toArray, List.set_cons_zero, List.set_cons_succ])) | (refine wpMix_qskip rfl rfl ?_; (try simp only [Act.put, List.setIfInBounds_toArray, List.set_cons_zero, List.set_cons_succ])) | (refine wpMix_eskip rfl rfl ( HS1).out ?_; (try simp only [Act.put, List.setIfInBounds_toArray, List.set_cons_zero, List.set_cons_succ])) | (refine wpMix_e rfl rfl (fun K hK => ?_); go_simp; refine hK.out _ _ (fun h => absurd h (by decide)) ?_; clear hK K; (try simp only [Act.put, List.setIfInBounds_toArray, List.set_cons_zero, List.set_cons_succ])))
        refine wpMix_nil ?_
        clear HS
        obtain ⟨z0, z1, z2, z3, z4, z5⟩ := (HQ.out.below (bchain HBR.out HS1.out)).cells
        have zl := (HQ.out.below (bchain HBR.out HS1.out)).lt
        refine NoPanic.normal ?_
        by_cases hl3 : 2 < n3
        · have HF5 : Hid (ck = 5) := by rw [Hid, ← HC3.out, if_pos (.inl hl3)]
          have d3 : decide ((2 : Int) < (n3 : Int)) = true := by simp; omega
          have d3' : decide (2 < n3) = true := by simp; omega
          go_wp2_with fail
          go_ret
          exact ⟨by rw [HF5.out]; rfl, bchain HBX.out HS1.out⟩
        · have d3 : decide ((2 : Int) < (n3 : Int)) = false := by simp; omega
          have d3' : decide (2 < n3) = false := by simp; omega
          by_cases hl4 : 2 < n4
          · have HF5 : Hid (ck = 5) := by rw [Hid, ← HC3.out, if_pos (.inr hl4)]
            have d4 : decide ((2 : Int) < (n4 : Int)) = true := by simp; omega
            have d4' : decide (2 < n4) = true := by simp; omega
            go_wp2_with fail
            go_ret
            exact ⟨by rw [HF5.out]; rfl, bchain HBX.out HS1.out⟩
          · have HF5 : Hid (ck = 0) := by rw [Hid, ← HC3.out, if_neg (by omega)]
            have d4 : decide ((2 : Int) < (n4 : Int)) = false := by simp; omega
            have d4' : decide (2 < n4) = false := by simp; omega
            go_wp2_with fail
            go_ret
            exact ⟨by rw [HF5.out]; rfl, bchain HBX.out HS1.out⟩
      · have hq : (sortF R.fr).length ≠ n2 := fun h => hN (hnd.1 h)
        have HF8 : Hid (ck = 8) := by rw [Hid, ← HCK2.out, if_pos hN]
        have d2 : (((sortF R.fr).length : Int) != (n2 : Int)) = true := by simp; omega
        have d2' : ((sortF R.fr).length != n2) = true := by simp; omega
        clear HCK2 hN hnd hq
        iterate 2 (first | (refine wpMix_q (v := ?_) rfl rfl (fun w' hS => ?_) ?_; rotate_left; (focus ((try obtain s0 := HS.out _ (hS rfl)); clear hS; go_simp; try with_reducible rfl; done)); (try simp only [Act.put, List.setIfInBounds_toArray, List.set_cons_zero, List.set_cons_succ])) | (refine wpMix_qskip rfl rfl ?_; (try simp only [Act.put, List.setIfInBounds_toArray, List.set_cons_zero, List.set_cons_succ])) | (refine wpMix_eskip rfl rfl ( HS1).out ?_; (try simp only [Act.put, List.setIfInBounds_toArray, List.set_cons_zero, List.set_cons_succ])) | (refine wpMix_e rfl rfl (fun K hK => ?_); go_simp; refine hK.out _ _ (fun h => absurd h (by decide)) ?_; clear hK K; (try simp only [Act.put, List.setIfInBounds_toArray, List.set_cons_zero, List.set_cons_succ])))
        refine wpMix_nil ?_
        clear HS
        refine NoPanic.normal ?_
        go_wp2_with fail
        go_ret
        exact ⟨by rw [HF8.out]; rfl, bchain HBX.out HS1.out⟩
end Go.Proofs.Ytdijlakeonionaa
