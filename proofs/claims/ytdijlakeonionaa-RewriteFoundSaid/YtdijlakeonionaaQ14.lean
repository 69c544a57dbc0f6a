/-
  Last of both sides.
-/
import Derived.Test.YtdijlakeonionaaQ13
namespace Go.Proofs.Ytdijlakeonionaa
open Go.ChangeShapes Go.WideShapes Go.ChangeAt Go.RowKit
set_option maxHeartbeats 4000000 in
set_option maxRecDepth 100000 in
theorem plast_any (v vr vw : Value) (I : List PPh) (Rs : List PRule) (l : List Int) (w : World) (hv : RdV w v I) (hr : RdRs w vr Rs) (hw : RdI w vw l) (hro : RsOk Rs) (hln : l.length ≤ 1000000) (hnz : ∀ x ∈ l, x ≠ 0) :
    Calls Try.prog 34 #[v, vr, vw] w fun e w' => (∃ v', e = .returned v' ∧ RdI w' v' (lastF I Rs l)) ∧ Below w.heap.size w w' := by
  obtain ⟨u, rfl, hp⟩ := id hv
  obtain ⟨A0, n0, c0, rfl, _, _, _, _⟩ := hp.op
  obtain ⟨A, n, c, rfl, hnc, _, HN, HR⟩ := hr
  obtain ⟨Aw, nw, cw, rfl⟩ := rdI_slice hw
  have HV := Lib.hid hv
  have HW := Lib.hid hw
  have HRO := Lib.hid hro
  have HLN := Lib.hid hln
  have HNZ := Lib.hid hnz
  have HNL : Hid (n ≤ 1000000) := by rw [Hid, ← HN.out]; exact hro.len
  clear hw hro hnz hp hv hln
  go_enter Try.func34, Try.ntmps34
  go_wp2_with fail
  generalize hW : World.alloc w _ = W
  have HBW : Hid (Below w.heap.size w W) := by rw [← hW]; exact al_below _ _
  have HP : Hid (VBlk W w.heap.size (.slice A0 n0 c0)) := by rw [← hW]; exact heap_alloc_new w _
  clear hW
  go_loopw [2, 11] (fun v2 vi wr => ∃ k : Nat, k ≤ n ∧ vi = .int .i64 k ∧ Hid (RdI wr v2 (lastK I Rs l k)) ∧ Hid (Below W.heap.size W wr)) (fun _ vi _ => n - (intOf vi).toNat)
  case atStart => exact ⟨0, Nat.zero_le _, rfl, HW.out.below HBW.out, Below.refl _ _⟩
  case round =>
    obtain ⟨k, hk, rfl, HL, HBR⟩ := hrel
    obtain ⟨A2, n2, c2, rfl⟩ := rdI_slice HL.out
    have HBX := Lib.hid (bchain HBW.out HBR.out)
    by_cases hlt : k < n
    · obtain ⟨b, off, vf, vt, vl, vg, R, rfl, hb, HD, ⟨e0, e1, e2, e3, e4, e5⟩, HRR⟩ := (HR.out k hlt).below HBX.out
      have y0 := (HP.out.below HBR.out).cell
      have y1 := (HP.out.below HBR.out).lt
      have hk0 : (0 : Int) ≤ (k : Int) := by omega
      obtain ⟨A1, n1, c1, A3, n3, c3, A4, n4, c4, A5, n5, c5, rfl, rfl, rfl, rfl⟩ := rdR_form HRR.out
      go_wp2_with fail
      generalize hX : World.alloc wr _ = X
      have hbX : Below wr.heap.size wr X := by rw [← hX]; exact al_below _ _
      clear hX y0 y1 e0 e1 e2 e3 e4 e5
      refine (papply_any _ _ _ I R (lastK I Rs l k) _ (HV.out.below (bchain HBX.out hbX)) (HRR.out.below hbX) (HL.out.below hbX) (HRO.out.ok R (HRO.out.at HD.out)) (Nat.le_trans (lastK_len _ _ _ _) HLN.out) (lastK_nz _ _ _ HNZ.out _) ).mono ?_
      rintro e w1 ⟨⟨v1, rfl, ho1⟩, hb1⟩
      have hbx := bchain hbX hb1
      have HB1 := Lib.hid (bchain HBR.out hbx)
      obtain ⟨_, A1, c1, rfl⟩ := own_slice ho1
      have HZ1 : Hid (RdI w1 (.slice A1 (applyF I R (lastK I Rs l k)).length c1) (lastK I Rs l (k + 1))) := by rw [Hid, lastK_succ I l HD.out]; exact ho1.rd
      clear ho1 hbx
      go_wp2_with fail
      skip
      go_roundw
      case rel => exact ⟨k + 1, by omega, by go_num, HZ1.out, HB1.out⟩
      case measure => simp [intOf]; omega
    · obtain rfl : n = k := by omega
      have HOF : Hid (RdI wr (.slice A2 n2 c2) (lastF I Rs l)) := by rw [Hid, lastF, HN.out]; exact HL.out
      go_wp2_with fail
      go_ret
      exact ⟨⟨_, rfl, HOF.out⟩, HBX.out⟩
set_option maxHeartbeats 4000000 in
set_option maxRecDepth 100000 in
theorem rlast_any (v vr vw : Value) (I : List PPh) (Rs : List PRule) (l : List Int) (w : World) (hv : RdV w v I) (hr : RdRs w vr Rs) (hw : RdI w vw l) (hro : RsOk Rs) (hln : l.length ≤ 1000000) (hnz : ∀ x ∈ l, x ≠ 0) :
    Calls Try.prog 35 #[v, vr, vw] w fun e w' => (∃ v', e = .returned v' ∧ RdI w' v' (lastF I Rs l)) ∧ Below w.heap.size w w' := by
  obtain ⟨u, rfl, hp⟩ := id hv
  obtain ⟨A0, n0, c0, rfl, _, _, _, _⟩ := hp.op
  obtain ⟨A, n, c, rfl, hnc, _, HN, HR⟩ := hr
  obtain ⟨Aw, nw, cw, rfl⟩ := rdI_slice hw
  have HV := Lib.hid hv
  have HW := Lib.hid hw
  have HRO := Lib.hid hro
  have HLN := Lib.hid hln
  have HNZ := Lib.hid hnz
  have HNL : Hid (n ≤ 1000000) := by rw [Hid, ← HN.out]; exact hro.len
  clear hw hro hnz hp hv hln
  go_enter Try.func35, Try.ntmps35
  go_wp2_with fail
  generalize hW : World.alloc w _ = W
  have HBW : Hid (Below w.heap.size w W) := by rw [← hW]; exact al_below _ _
  have HP : Hid (VBlk W w.heap.size (.slice A0 n0 c0)) := by rw [← hW]; exact heap_alloc_new w _
  clear hW
  go_loopw [2, 10] (fun v2 vi wr => ∃ k : Nat, k ≤ n ∧ vi = .int .i64 k ∧ Hid (RdI wr v2 (lastK I Rs l k)) ∧ Hid (Below W.heap.size W wr)) (fun _ vi _ => n - (intOf vi).toNat)
  case atStart => exact ⟨0, Nat.zero_le _, rfl, HW.out.below HBW.out, Below.refl _ _⟩
  case round =>
    obtain ⟨k, hk, rfl, HL, HBR⟩ := hrel
    obtain ⟨A2, n2, c2, rfl⟩ := rdI_slice HL.out
    have HBX := Lib.hid (bchain HBW.out HBR.out)
    by_cases hlt : k < n
    · obtain ⟨b, off, vf, vt, vl, vg, R, rfl, hb, HD, ⟨e0, e1, e2, e3, e4, e5⟩, HRR⟩ := (HR.out k hlt).below HBX.out
      have y0 := (HP.out.below HBR.out).cell
      have y1 := (HP.out.below HBR.out).lt
      have hk0 : (0 : Int) ≤ (k : Int) := by omega
      go_upto_region 4 with (fail)
      refine wp_region_ord 6 [0, 1, 2, 3, 4, 5] [] [0, 1, 2, 3, 4, 5] [6, 7] (fun w' => Below wr.heap.size wr w') (by kernel_rfl) (by kernel_rfl) ?_
      rintro Z hZ
      have HSZ : Hid (Below wr.heap.size wr Z) := by rw [hZ]; exact (Below.refl _ _).drew
      clear hZ
      refine ⟨HSZ.out, ?_⟩
      have HS : Hid (∀ w' : World, Below wr.heap.size wr w' → w'.cell? ⟨w.heap.size, 0, none⟩ = some (.slice A0 n0 c0) ∧ w'.cell? ⟨b, off + k * 6, none⟩ = some vf ∧ w'.cell? ⟨b, off + k * 6 + 1, none⟩ = some vt ∧ w'.cell? ⟨b, off + k * 6 + 2, none⟩ = some vl ∧ w'.cell? ⟨b, off + k * 6 + 3, none⟩ = some vg ∧ w'.cell? ⟨b, off + k * 6 + 4, none⟩ = some (.bool R.beg) ∧ w'.cell? ⟨b, off + k * 6 + 5, none⟩ = some (.bool R.fin)) := by
        intro w' h
        exact ⟨(h.cell (p := ⟨w.heap.size, 0, none⟩) y1).trans y0, (h.cell (p := ⟨b, off + k * 6, none⟩) hb).trans e0, (h.cell (p := ⟨b, off + k * 6 + 1, none⟩) hb).trans e1, (h.cell (p := ⟨b, off + k * 6 + 2, none⟩) hb).trans e2, (h.cell (p := ⟨b, off + k * 6 + 3, none⟩) hb).trans e3, (h.cell (p := ⟨b, off + k * 6 + 4, none⟩) hb).trans e4, (h.cell (p := ⟨b, off + k * 6 + 5, none⟩) hb).trans e5⟩
      iterate 6 (refine wpHead_cons (v := ?_) rfl rfl (fun w' hS => ?_) ?_; rotate_left; (focus ((try obtain ⟨s0, s1, s2, s3, s4, s5, s6⟩ := HS.out _ (hS rfl)); clear hS; go_simp; try with_reducible rfl; done)); (try simp only [Act.put, List.setIfInBounds_toArray, List.set_cons_zero, List.set_cons_succ]))
      refine wpHead_nil ?_
      refine wpTail_cons rfl rfl (fun K hK => ?_)
      go_simp
      clear y0 y1 e0 e1 e2 e3 e4 e5
      refine (rapply_any _ _ _ I R (lastK I Rs l k) _ (HV.out.below (bchain HBX.out HSZ.out)) (HRR.out.below HSZ.out) (HL.out.below HSZ.out) (HRO.out.ok R (HRO.out.at HD.out)) (Nat.le_trans (lastK_len _ _ _ _) HLN.out) (lastK_nz _ _ _ HNZ.out _) (HRO.out.nd R (HRO.out.at HD.out))).mono ?_
      rintro e w1 ⟨⟨v1, rfl, ho1⟩, hb1⟩
      have hbx := bchain HSZ.out hb1
      refine hK.out _ _ (fun _ => hbx) ?_
      clear hK K HS
      (try simp only [Act.put, List.setIfInBounds_toArray, List.set_cons_zero, List.set_cons_succ])
      refine wpTail_rest 7 rfl ?_
      simp only [List.drop_succ_cons, List.drop_zero]
      go_wp2_with fail
      refine NoPanic.normal ?_
      have HB1 := Lib.hid (bchain HBR.out hbx)
      obtain ⟨_, A1, c1, rfl⟩ := own_slice ho1
      have HZ1 : Hid (RdI w1 (.slice A1 (applyF I R (lastK I Rs l k)).length c1) (lastK I Rs l (k + 1))) := by rw [Hid, lastK_succ I l HD.out]; exact ho1.rd
      clear ho1 hbx
      go_wp2_with fail
      skip
      go_roundw
      case rel => exact ⟨k + 1, by omega, by go_num, HZ1.out, HB1.out⟩
      case measure => simp [intOf]; omega
    · obtain rfl : n = k := by omega
      have HOF : Hid (RdI wr (.slice A2 n2 c2) (lastF I Rs l)) := by rw [Hid, lastF, HN.out]; exact HL.out
      go_wp2_with fail
      go_ret
      exact ⟨⟨_, rfl, HOF.out⟩, HBX.out⟩
end Go.Proofs.Ytdijlakeonionaa
