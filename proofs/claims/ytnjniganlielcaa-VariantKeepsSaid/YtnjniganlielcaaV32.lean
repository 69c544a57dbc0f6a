/-
  The walk of VariantOnce.
-/
import Derived.Test.YtnjniganlielcaaV31
namespace Go.Proofs.Ytnjniganlielcaa
open Go.ChangeShapes Go.WideShapes Go.ChangeAt Go.RowKit
theorem RdI.opn {w : World} {v : Value} {xs : List Int} (h : RdI w v xs) : ∃ (A : Option Addr) (n c : Nat), v = .slice A n c ∧ xs.length = n := by
  obtain ⟨A, n, c, rfl, _, _, HN, _⟩ := h.op
  exact ⟨A, n, c, rfl, HN.out⟩
theorem key_mem {P : List PE} {p : PE} (h : p ∈ P) : p.key ∈ pk P := List.mem_map_of_mem h
set_option maxHeartbeats 4000000 in
set_option maxRecDepth 100000 in
theorem once_walk (v : Value) (P : List PE) (w : World) (hv : RdP w v P) (hrb : ∀ p ∈ P, RbP p) :
    Calls Try.prog 8 #[v] w fun e w' => e = .returned (.bool true) ∧ Below w.heap.size w w' := by
  have HV := Lib.hid hv
  have HRB := Lib.hid hrb
  obtain ⟨A, n, c, rfl, hn⟩ := hv.opn
  have HN := Lib.hid hn
  have HB0 : Hid (Below w.heap.size w w) := Below.refl _ _
  clear hv hrb hn
  go_enter Try.func8, Try.ntmps8
  go_wp2_with fail
  refine (some_any _ P _ HV.out HRB.out).mono ?_
  rintro e w1 ⟨rfl, hb⟩
  have HBw1 := Lib.hid (bchain HB0.out hb)
  have HXw1 := Lib.hid hb
  clear hb
  cases hs : someB P
  · skip
    go_wp2_with fail
    refine (awake_any _).mono ?_
    rintro e wz ⟨rfl, hbz⟩
    have HBZ := Lib.hid (bchain HBw1.out hbz)
    clear hbz
    go_wp2_with fail
    go_ret
    exact ⟨rfl, HBZ.out⟩
  have HF := Lib.hid (someB_fit hs)
  have HLEN : Hid (P.length ≤ 100000) := by have := HF.out.len; rw [Hid]; omega
  have HSM : Hid (∀ p ∈ P, SmP p) := HF.out.sm
  have HUP : Hid (UpK (pk P)) := HF.out.up
  have HSS := Lib.hid (sm_senses HSM.out)
  clear hs
  go_wp2_with fail
  refine (copy_any _ P _ (HV.out.below HBw1.out) HLEN.out HSM.out).mono ?_
  rintro e w2 ⟨⟨vw2, rfl, hr⟩, hb⟩
  have HBw2 := Lib.hid (bchain HBw1.out hb)
  have HXw2 := Lib.hid hb
  have Rw2 := Lib.hid hr
  obtain ⟨Aw2, nw2, cw2, rfl, hn⟩ := hr.opn
  clear hr hb hn
  go_wp2_with fail
  refine (check_p Rw2.out HLEN.out).mono ?_
  rintro e w3 ⟨rfl, hb⟩
  have HBw3 := Lib.hid (bchain HBw2.out hb)
  have HXw3 := Lib.hid hb
  clear hb
  by_cases hc : chkK (pk P) = 0
  rotate_left
  · have hb0 : (chkK (pk P) != 0) = true := by simp [hc]
    go_wp2_with fail
    refine (awake_any _).mono ?_
    rintro e wz ⟨rfl, hbz⟩
    have HBZ := Lib.hid (bchain HBw3.out hbz)
    clear hbz
    go_wp2_with fail
    go_ret
    exact ⟨rfl, HBZ.out⟩
  have hb0 : (chkK (pk P) != 0) = false := by simp [hc]
  have HG := Lib.hid (fit_good HF.out hc)
  clear hc
  go_wp2_with fail
  clear hb0
  have HPO := Lib.hid HV.out.op
  go_loopw [3] (fun i wr => ∃ k : Nat, k ≤ n ∧ i = .int .i64 k ∧ Hid (Below w.heap.size w wr)) (fun i _ => n - (intOf i).toNat)
  case atStart => exact ⟨0, Nat.zero_le _, rfl, HBw3.out⟩
  case round =>
    obtain ⟨k, hk, rfl, HBr⟩ := hrel
    obtain ⟨_, _, _, h0, hnc, hcm, _, HR⟩ := HPO.out
    cases h0
    by_cases hlt : k < n
    · obtain ⟨b, off, x, p, rfl, hbl, hd, HDE, c0, c1, c2, c3, c4, c5, c6, c7⟩ := (HR.out k hlt).below HBr.out
      clear c1 c2 c3 c5 c6 c7
      have hmem : p ∈ P := List.mem_of_mem_drop (by rw [hd.out]; exact List.mem_cons_self)
      rw [HDE.out.id] at c0
      rw [HDE.out.main] at c4
      clear HDE hd x
      have HO1 : Hid (mainK (pk P) (mainK (pk P) p.id) = mainK (pk P) p.id) := once1 HG.out (key_mem hmem)
      have HO2 : Hid ((mainK (pk P) p.id == p.id) = (p.main == 0)) := by
        have h3 : mainK (pk P) p.id = p.id ↔ p.main = 0 := once2 HG.out (key_mem hmem)
        rw [Hid]
        by_cases h : p.main = 0
        · rw [h3.2 h, h]
          simp
        · rw [beq_eq_false_iff_ne.2 fun h' => h (h3.1 h'), beq_eq_false_iff_ne.2 h]
      have HO3 : Hid (∀ kid : Int, hasB (allK (pk P) kid) p.id = (mainK (pk P) p.id == kid && mainK (pk P) p.id != p.id)) := once3 HG.out.up (key_mem hmem)
      clear hmem
      have HMP : Hid (∀ (V : World) (u : Value), RdP V u P → Calls Try.prog 17 #[u, .int .i64 p.id] V fun e w' => e = .returned (.int .i64 (mainK (pk P) p.id)) ∧ Below V.heap.size V w') := fun V u h => main_p p.id h HLEN.out
      generalize mainK (pk P) p.id = mid at HO1 HO2 HO3 HMP
      generalize p.id = pid at c0 HO2 HO3 HMP
      generalize p.main = pm at c4 HO2
      clear p
      have C0 := Lib.hid c0
      have C4 := Lib.hid c4
      have hk0 : (0 : Int) ≤ (k : Int) := by omega
      have hk1 : (k : Int) < (n : Int) := by omega
      go_wp2_with fail
      clear c0 c4
      refine (copy_any _ P _ (HV.out.below HBr.out) HLEN.out HSM.out).mono ?_
      rintro e w4 ⟨⟨vw4, rfl, hr⟩, hb⟩
      have HBw4 := Lib.hid (bchain HBr.out hb)
      have HXw4 := Lib.hid hb
      have Rw4 := Lib.hid hr
      obtain ⟨Aw4, nw4, cw4, rfl, hn⟩ := hr.opn
      clear hr hb hn
      go_wp2_with fail
      refine (HMP.out _ _ Rw4.out).mono ?_
      rintro e w5 ⟨rfl, hb⟩
      have HBw5 := Lib.hid (bchain HBw4.out hb)
      have HXw5 := Lib.hid hb
      clear hb
      go_wp2_with fail
      refine (copy_any _ P _ (HV.out.below HBw5.out) HLEN.out HSM.out).mono ?_
      rintro e w6 ⟨⟨vw6, rfl, hr⟩, hb⟩
      have HBw6 := Lib.hid (bchain HBw5.out hb)
      have HXw6 := Lib.hid hb
      have Rw6 := Lib.hid hr
      obtain ⟨Aw6, nw6, cw6, rfl, hn⟩ := hr.opn
      clear hr hb hn
      go_wp2_with fail
      have hmm : mainK (pk P) mid = mid := HO1.out
      refine (main_p mid Rw6.out HLEN.out).mono ?_
      rw [hmm]
      rintro e w7 ⟨rfl, hb⟩
      have HBw7 := Lib.hid (bchain HBw6.out hb)
      have HXw7 := Lib.hid hb
      clear hb hmm
      have h47 : Below wr.heap.size wr w7 := by
        refine bchain ?_ HXw7.out
        refine bchain ?_ HXw6.out
        exact bchain HXw4.out HXw5.out
      have c4 := cell_keep hbl C4.out h47
      have hb0 : (mid != mid) = false := by simp
      obtain ⟨bb, hA, hB⟩ : ∃ bb : Bool, (mid == pid) = bb ∧ (pm == 0) = bb := ⟨_, rfl, HO2.out.symm⟩
      have hb1 : (bb != bb) = false := by simp
      have hb2 : (bb == bb) = true := by simp
      go_wp2_with fail
      clear c4 hb0 hb1 hb2 hA hB h47
      go_loopw [6] (fun i wr => ∃ j : Nat, j ≤ n ∧ i = .int .i64 j ∧ Hid (Below w.heap.size w wr)) (fun i _ => n - (intOf i).toNat)
      case atStart => exact ⟨0, Nat.zero_le _, rfl, HBw7.out⟩
      case round =>
        obtain ⟨j, hj, rfl, HBq⟩ := hrel
        by_cases hjt : j < n
        · obtain ⟨b', off', x, q, hq, hbl', hd', HD', d0, d1⟩ := (HR.out j hjt).below HBq.out
          cases hq
          have C0j := Lib.hid d0
          clear d0 d1 hd' HD'
          generalize x.id = kid at C0j
          clear x q
          have hj0 : (0 : Int) ≤ (j : Int) := by omega
          have hj1 : (j : Int) < (n : Int) := by omega
          have HH : Hid (hasB (allK (pk P) kid) pid = (mid == kid && mid != pid)) := HO3.out kid
          go_wp2_with fail
          refine wp_region_mix 19 [0, 1, 2, 3, 4, 5, 6, 7, 8, 9, 10, 11, 12, 13, 14, 15, 16, 17] [18] [(true, 0), (true, 2), (true, 3), (true, 4), (true, 5), (true, 6), (true, 8), (true, 10), (true, 11), (true, 12), (true, 13), (true, 14), (true, 15), (true, 16), (false, 1), (false, 7), (false, 9), (true, 17), (true, 18), (false, 19), (false, 20), (false, 21), (false, 22)] (fun w' => Below wr.heap.size wr w') (by kernel_rfl) (by kernel_rfl) ?_
          rintro D hD
          have HSD : Hid (Below wr.heap.size wr D) := by rw [hD]; exact (Below.refl _ _).drew
          clear hD
          refine ⟨HSD.out, ?_⟩
          have HS := Lib.hid fun (w' : World) h => cell_keep (w' := w') hbl' C0j.out h
          iterate 14 (refine wpMix_q (v := ?_) rfl rfl (fun w' hS => ?_) ?_; rotate_left; (focus ((try obtain s0 := HS.out _ (hS rfl)); clear hS; go_simp; try with_reducible rfl; done)); (try simp only [Act.put, List.setIfInBounds_toArray, List.set_cons_zero, List.set_cons_succ]))
          clear hk0 hk1 hj0 hj1
          refine wpMix_e rfl rfl (fun K hK => ?_)
          go_simp
          refine (copy_any _ P _ (HV.out.below (bchain HBq.out HSD.out)) HLEN.out HSM.out).mono ?_
          rintro e Y1 ⟨⟨vmY1, rfl, hm⟩, hb⟩
          have RY1 := Lib.hid hm
          obtain ⟨AY1, nY1, cY1, rfl, hn⟩ := hm.opn
          refine hK.out _ _ (fun _ => bchain HSD.out hb) ?_
          clear hK K hm hn
          (try simp only [Act.put, List.setIfInBounds_toArray, List.set_cons_zero, List.set_cons_succ])
          have HSY1 := Lib.hid (bchain HSD.out hb)
          have HXY1 := Lib.hid hb
          clear hb
          refine wpMix_e rfl rfl (fun K hK => ?_)
          go_simp
          refine (all_p kid RY1.out HLEN.out HUP.out).mono ?_
          rintro e Y2 ⟨⟨vmY2, rfl, hm⟩, hb⟩
          have RY2 := Lib.hid hm
          obtain ⟨AY2, nY2, cY2, rfl, hn⟩ := hm.opn
          refine hK.out _ _ (fun _ => bchain HSY1.out hb) ?_
          clear hK K hm hn
          (try simp only [Act.put, List.setIfInBounds_toArray, List.set_cons_zero, List.set_cons_succ])
          have HSY2 := Lib.hid (bchain HSY1.out hb)
          have HXY2 := Lib.hid hb
          clear hb
          refine wpMix_e rfl rfl (fun K hK => ?_)
          go_simp
          refine (hasR_any _ _ pid _ RY2.out).mono ?_
          rintro e Y3 ⟨rfl, rfl⟩
          rw [HH.out]
          refine hK.out _ _ (fun _ => HSY2.out) ?_
          clear hK K
          (try simp only [Act.put, List.setIfInBounds_toArray, List.set_cons_zero, List.set_cons_succ])
          have HBY : Hid (Below w.heap.size w Y2) := bchain HBq.out HSY2.out
          by_cases hmk : mid = kid
          · subst hmk
            have hq1 : (mid == mid) = true := by simp
            have hq2 : (mid != pid) = (mid != pid) := rfl
            (refine wpMix_q (v := ?_) rfl rfl (fun w' hS => ?_) ?_; rotate_left; (focus ((try obtain s0 := HS.out _ (hS rfl)); clear hS; go_simp; try with_reducible rfl; done)); (try simp only [Act.put, List.setIfInBounds_toArray, List.set_cons_zero, List.set_cons_succ]))
            (refine wpMix_q (v := ?_) rfl rfl (fun w' hS => ?_) ?_; rotate_left; (focus ((try obtain s0 := HS.out _ (hS rfl)); clear hS; go_simp; try with_reducible rfl; done)); (try simp only [Act.put, List.setIfInBounds_toArray, List.set_cons_zero, List.set_cons_succ]))
            (refine wpMix_e rfl rfl (fun K hK => ?_); go_simp; refine hK.out _ _ (fun h => absurd h (by decide)) ?_; clear hK K; (try simp only [Act.put, List.setIfInBounds_toArray, List.set_cons_zero, List.set_cons_succ]))
            (refine wpMix_e rfl rfl (fun K hK => ?_); go_simp; refine hK.out _ _ (fun h => absurd h (by decide)) ?_; clear hK K; (try simp only [Act.put, List.setIfInBounds_toArray, List.set_cons_zero, List.set_cons_succ]))
            (refine wpMix_e rfl rfl (fun K hK => ?_); go_simp; refine hK.out _ _ (fun h => absurd h (by decide)) ?_; clear hK K; (try simp only [Act.put, List.setIfInBounds_toArray, List.set_cons_zero, List.set_cons_succ]))
            (refine wpMix_e rfl rfl (fun K hK => ?_); go_simp; refine hK.out _ _ (fun h => absurd h (by decide)) ?_; clear hK K; (try simp only [Act.put, List.setIfInBounds_toArray, List.set_cons_zero, List.set_cons_succ]))
            refine wpMix_nil ?_
            refine NoPanic.normal ?_
            go_wp2_with fail
            go_roundw
            case rel => exact ⟨j + 1, by omega, by go_num, HBY.out⟩
            case measure => simp [intOf]; omega
          · have hq1 : (mid == kid) = false := by simp [hmk]
            (refine wpMix_q (v := ?_) rfl rfl (fun w' hS => ?_) ?_; rotate_left; (focus ((try obtain s0 := HS.out _ (hS rfl)); clear hS; go_simp; try with_reducible rfl; done)); (try simp only [Act.put, List.setIfInBounds_toArray, List.set_cons_zero, List.set_cons_succ]))
            (refine wpMix_qskip rfl rfl ?_; (try simp only [Act.put, List.setIfInBounds_toArray, List.set_cons_zero, List.set_cons_succ]))
            (refine wpMix_eskip rfl rfl (HSY2).out ?_; (try simp only [Act.put, List.setIfInBounds_toArray, List.set_cons_zero, List.set_cons_succ]))
            (refine wpMix_eskip rfl rfl (HSY2).out ?_; (try simp only [Act.put, List.setIfInBounds_toArray, List.set_cons_zero, List.set_cons_succ]))
            (refine wpMix_e rfl rfl (fun K hK => ?_); go_simp; refine hK.out _ _ (fun h => absurd h (by decide)) ?_; clear hK K; (try simp only [Act.put, List.setIfInBounds_toArray, List.set_cons_zero, List.set_cons_succ]))
            (refine wpMix_e rfl rfl (fun K hK => ?_); go_simp; refine hK.out _ _ (fun h => absurd h (by decide)) ?_; clear hK K; (try simp only [Act.put, List.setIfInBounds_toArray, List.set_cons_zero, List.set_cons_succ]))
            refine wpMix_nil ?_
            refine NoPanic.normal ?_
            go_wp2_with fail
            go_roundw
            case rel => exact ⟨j + 1, by omega, by go_num, HBY.out⟩
            case measure => simp [intOf]; omega
        · go_wp2_with fail
          go_roundw
          case rel => exact ⟨k + 1, by omega, by go_num, HBq.out⟩
          case measure => simp [intOf]; omega
    · go_wp2_with fail
      go_wp2_with fail
      refine (awake_any _).mono ?_
      rintro e wz ⟨rfl, hbz⟩
      have HBZ := Lib.hid (bchain HBr.out hbz)
      clear hbz
      go_wp2_with fail
      go_ret
      exact ⟨rfl, HBZ.out⟩
end Go.Proofs.Ytnjniganlielcaa
