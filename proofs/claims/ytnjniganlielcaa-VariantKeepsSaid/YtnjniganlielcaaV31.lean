/-
  The walk of VariantOwn.
-/
import Derived.Test.YtnjniganlielcaaV30
namespace Go.Proofs.Ytnjniganlielcaa
open Go.ChangeShapes Go.WideShapes Go.ChangeAt Go.RowKit
theorem cell_keep {w w' : World} {b o : Nat} {x : Value} (hb : b < w.heap.size) (hc : w.cell? ⟨b, o, none⟩ = some x) (h : Below w.heap.size w w') : w'.cell? ⟨b, o, none⟩ = some x := (h.cell (p := ⟨b, o, none⟩) hb).trans hc
set_option maxHeartbeats 4000000 in
set_option maxRecDepth 100000 in
theorem own_walk (v : Value) (P : List PE) (w : World) (hv : RdP w v P) (hrb : ∀ p ∈ P, RbP p) :
    Calls Try.prog 10 #[v] w fun e w' => e = .returned (.bool true) ∧ Below w.heap.size w w' := by
  have HV := Lib.hid hv
  have HRB := Lib.hid hrb
  obtain ⟨A, n, c, rfl, hn⟩ := hv.opn
  have HN := Lib.hid hn
  have HB0 : Hid (Below w.heap.size w w) := Below.refl _ _
  clear hv hrb hn
  go_enter Try.func10, Try.ntmps10
  go_wp2_with fail
  refine (some_any _ P _ HV.out HRB.out).mono ?_
  rintro e w1 ⟨rfl, hb⟩
  have HBw1 := Lib.hid (bchain HB0.out hb)
  have HXw1 := Lib.hid hb
  clear hb
  cases hs : someB P
  · skip
    go_wp2_with fail
    refine (awake_any _).mono ?_
    rintro e wz ⟨rfl, hbz⟩
    have HBZ := Lib.hid (bchain HBw1.out hbz)
    clear hbz
    go_wp2_with fail
    go_ret
    exact ⟨rfl, HBZ.out⟩
  have HF := Lib.hid (someB_fit hs)
  have HLEN : Hid (P.length ≤ 100000) := by have := HF.out.len; rw [Hid]; omega
  have HSM : Hid (∀ p ∈ P, SmP p) := HF.out.sm
  have HUP : Hid (UpK (pk P)) := HF.out.up
  have HSS := Lib.hid (sm_senses HSM.out)
  clear hs
  go_wp2_with fail
  refine (copy_any _ P _ (HV.out.below HBw1.out) HLEN.out HSM.out).mono ?_
  rintro e w2 ⟨⟨vw2, rfl, hr⟩, hb⟩
  have HBw2 := Lib.hid (bchain HBw1.out hb)
  have HXw2 := Lib.hid hb
  have Rw2 := Lib.hid hr
  obtain ⟨Aw2, nw2, cw2, rfl, hn⟩ := hr.opn
  clear hr hb hn
  go_wp2_with fail
  refine (check_p Rw2.out HLEN.out).mono ?_
  rintro e w3 ⟨rfl, hb⟩
  have HBw3 := Lib.hid (bchain HBw2.out hb)
  have HXw3 := Lib.hid hb
  clear hb
  by_cases hc : chkK (pk P) = 0
  rotate_left
  · have hb0 : (chkK (pk P) != 0) = true := by simp [hc]
    go_wp2_with fail
    refine (awake_any _).mono ?_
    rintro e wz ⟨rfl, hbz⟩
    have HBZ := Lib.hid (bchain HBw3.out hbz)
    clear hbz
    go_wp2_with fail
    go_ret
    exact ⟨rfl, HBZ.out⟩
  have hb0 : (chkK (pk P) != 0) = false := by simp [hc]
  have HG := Lib.hid (fit_good HF.out hc)
  clear hc
  go_wp2_with fail
  clear hb0
  have HPO := Lib.hid HV.out.op
  go_loopw [3] (fun i wr => ∃ k : Nat, k ≤ n ∧ i = .int .i64 k ∧ Hid (Below w.heap.size w wr)) (fun i _ => n - (intOf i).toNat)
  case atStart => exact ⟨0, Nat.zero_le _, rfl, HBw3.out⟩
  case round =>
    obtain ⟨k, hk, rfl, HBr⟩ := hrel
    obtain ⟨_, _, _, h0, hnc, hcm, _, HR⟩ := HPO.out
    cases h0
    by_cases hlt : k < n
    · obtain ⟨b, off, x, p, rfl, hbl, hd, HDE, c0, c1, c2, c3, c4, c5, c6, c7⟩ := (HR.out k hlt).below HBr.out
      clear c1 c2 c3 c6 c7
      have hmem : p ∈ P := List.mem_of_mem_drop (by rw [hd.out]; exact List.mem_cons_self)
      have HSE := Lib.hid (sensesP_eq HG.out (getP_up HUP.out hmem))
      rw [HDE.out.id] at c0
      rw [HDE.out.main] at c4
      have HSB := Lib.hid HDE.out.s
      clear HDE hmem hd
      generalize x.s.A = As at c5 HSB
      generalize x.s.n = ns at c5 HSB
      generalize x.s.c = cs at c5 HSB
      clear x
      generalize p.id = pid at c0 HSE
      generalize p.main = pm at c4 HSE
      generalize p.senses = ps at HSB HSE
      clear p
      have hk0 : (0 : Int) ≤ (k : Int) := by omega
      have hk1 : (k : Int) < (n : Int) := by omega
      go_wp2_with fail
      refine wp_region_ord 7 [0, 1, 2, 3, 4, 5, 6] [] [0, 2, 3, 4, 5, 6] [1, 7, 8] (fun w' => Below wr.heap.size wr w') (by kernel_rfl) (by kernel_rfl) ?_
      rintro D hD
      have HSD : Hid (Below wr.heap.size wr D) := by rw [hD]; exact (Below.refl _ _).drew
      clear hD
      refine ⟨HSD.out, ?_⟩
      have HS := Lib.hid fun (w' : World) h => cell_keep (w' := w') hbl c0 h
      have C4 := Lib.hid c4
      have C5 := Lib.hid c5
      clear c4 c5
      iterate 6 (refine wpHead_cons (v := ?_) rfl rfl (fun w' hS => ?_) ?_; rotate_left; (focus ((try obtain s0 := HS.out _ (hS rfl)); clear hS; go_simp; try with_reducible rfl; done)); (try simp only [Act.put, List.setIfInBounds_toArray, List.set_cons_zero, List.set_cons_succ]))
      refine wpHead_nil ?_
      refine wpTail_cons rfl rfl (fun K hK => ?_)
      go_simp
      refine (copy_any _ P _ (HV.out.below (bchain HBr.out HSD.out)) HLEN.out HSM.out).mono ?_
      rintro e Y1 ⟨⟨vmY1, rfl, hm⟩, hb⟩
      have RY1 := Lib.hid hm
      obtain ⟨AY1, nY1, cY1, rfl, hn⟩ := hm.opn
      refine hK.out _ _ (fun _ => bchain HSD.out hb) ?_
      clear hK K hm hn
      (try simp only [Act.put, List.setIfInBounds_toArray, List.set_cons_zero, List.set_cons_succ])
      have HSY1 := Lib.hid (bchain HSD.out hb)
      have HXY1 := Lib.hid hb
      clear hb
      refine wpTail_cons rfl rfl (fun K hK => ?_)
      go_simp
      refine (senses_any _ P pid _ RY1.out HLEN.out HSS.out).mono ?_
      rintro e Y2 ⟨⟨vmY2, rfl, hm⟩, hb⟩
      have RY2 := Lib.hid hm
      obtain ⟨AY2, nY2, cY2, rfl, _, hcmY2, HNY2, HRY2⟩ := hm.op
      refine hK.out _ _ (fun _ => bchain HSY1.out hb) ?_
      clear hK K hm
      (try simp only [Act.put, List.setIfInBounds_toArray, List.set_cons_zero, List.set_cons_succ])
      have HSY2 := Lib.hid (bchain HSY1.out hb)
      have HXY2 := Lib.hid hb
      clear hb
      refine wpTail_rest 8 rfl ?_
      simp only [List.drop_succ_cons, List.drop_zero]
      go_wp2_with fail
      refine NoPanic.normal ?_
      have c4 := cell_keep hbl C4.out HSY2.out
      have c5 := cell_keep hbl C5.out HSY2.out
      have HBY2 : Hid (Below w.heap.size w Y2) := bchain HBr.out HSY2.out
      have hbl2 : b < Y2.heap.size := Nat.lt_of_lt_of_le hbl HSY2.out.size
      by_cases hns : ns = 0 ∧ pm ≠ 0
      · obtain ⟨rfl, hpm⟩ := hns
        have hpm1 : (pm != 0) = true := by simp [hpm]
        have HZ : Hid (sensesP P pid = sensesP P pm) := by
          rw [Hid, HSE.out, if_pos ⟨List.length_eq_zero_iff.1 (rd_len HSB.out).symm, hpm⟩]
        go_wp2_with fail
        refine wp_region_ord 7 [0, 1, 2, 3, 4, 5, 6] [] [0, 2, 3, 4, 5, 6] [1, 7, 8] (fun w' => Below Y2.heap.size Y2 w') (by kernel_rfl) (by kernel_rfl) ?_
        rintro D2 hD
        have HSD2 : Hid (Below Y2.heap.size Y2 D2) := by rw [hD]; exact (Below.refl _ _).drew
        clear hD HS
        refine ⟨HSD2.out, ?_⟩
        have HS := Lib.hid fun (w' : World) h => cell_keep (w' := w') hbl2 c4 h
        clear c4 c5
        iterate 6 (refine wpHead_cons (v := ?_) rfl rfl (fun w' hS => ?_) ?_; rotate_left; (focus ((try obtain s0 := HS.out _ (hS rfl)); clear hS; go_simp; try with_reducible rfl; done)); (try simp only [Act.put, List.setIfInBounds_toArray, List.set_cons_zero, List.set_cons_succ]))
        refine wpHead_nil ?_
        refine wpTail_cons rfl rfl (fun K hK => ?_)
        go_simp
        refine (copy_any _ P _ (HV.out.below (bchain HBY2.out HSD2.out)) HLEN.out HSM.out).mono ?_
        rintro e Y3 ⟨⟨vmY3, rfl, hm⟩, hb⟩
        have RY3 := Lib.hid hm
        obtain ⟨AY3, nY3, cY3, rfl, hn⟩ := hm.opn
        refine hK.out _ _ (fun _ => bchain HSD2.out hb) ?_
        clear hK K hm hn
        (try simp only [Act.put, List.setIfInBounds_toArray, List.set_cons_zero, List.set_cons_succ])
        have HSY3 := Lib.hid (bchain HSD2.out hb)
        have HXY3 := Lib.hid hb
        clear hb
        refine wpTail_cons rfl rfl (fun K hK => ?_)
        go_simp
        refine (senses_any _ P pm _ RY3.out HLEN.out HSS.out).mono ?_
        rintro e Y4 ⟨⟨vmY4, rfl, hm⟩, hb⟩
        have RY4 := Lib.hid hm
        obtain ⟨AY4, nY4, cY4, rfl, _, hcmY4, HNY4, HRY4⟩ := hm.op
        refine hK.out _ _ (fun _ => bchain HSY3.out hb) ?_
        clear hK K hm
        (try simp only [Act.put, List.setIfInBounds_toArray, List.set_cons_zero, List.set_cons_succ])
        have HSY4 := Lib.hid (bchain HSY3.out hb)
        have HXY4 := Lib.hid hb
        clear hb
        refine wpTail_rest 8 rfl ?_
        simp only [List.drop_succ_cons, List.drop_zero]
        go_wp2_with fail
        refine NoPanic.normal ?_
        have HRA : Hid (∀ j, j < nY2 → SeAt Y4 AY2 (sensesP P pm) j) := fun j hj => by have := (HRY2.out j hj).below HSY4.out; rwa [HZ.out] at this
        have HBY4 : Hid (Below w.heap.size w Y4) := bchain HBY2.out HSY4.out
        have HLL : Hid (nY2 = nY4) := by rw [Hid, ← HNY2.out, ← HNY4.out, HZ.out]
        clear HRY2 hpm1
        have hn0 : nY2 = nY4 := HLL.out
        subst hn0
        have hb0 : ((nY2 : Int) != (nY2 : Int)) = false := by simp
        rcases Nat.eq_zero_or_pos nY2 with h0 | h0
        · subst h0
          go_wp2_with fail
          go_quiet (fail)
          go_wp2_with fail
          go_roundw
          case rel => exact ⟨k + 1, by omega, by go_num, by rw [Hid]; have := HBY4.out; repeat (first | assumption | exact Below.refl _ _ | refine Below.alloc ?_ (by first | omega | (simp; done) | (simp; omega)) _ | refine Below.drew ?_ | refine below_drewN ?_ _ | refine Below.setCell ?_ (by first | omega | (simp; done) | (simp; omega)) _)⟩
          case measure => simp [intOf]; omega
        · skip
          obtain ⟨b1, o1, x, hA1, hbl1, hdr1, e0, e1⟩ := HRA.out 0 h0
          obtain ⟨b2, o2, y, hA2, hbl2, hdr2, f0, f1⟩ := HRY4.out 0 h0
          obtain rfl : x = y := (List.cons.inj (hdr1.out.symm.trans hdr2.out)).1
          obtain ⟨b3, o3, xl, hA3, hbl3, hdr3, e2, e3⟩ := HRA.out (nY2 - 1) (by omega)
          obtain ⟨b4, o4, yl, hA4, hbl4, hdr4, f2, f3⟩ := HRY4.out (nY2 - 1) (by omega)
          obtain rfl : xl = yl := (List.cons.inj (hdr3.out.symm.trans hdr4.out)).1
          obtain ⟨rfl, rfl⟩ : b3 = b1 ∧ o3 = o1 := by rw [hA1] at hA3; cases hA3; exact ⟨rfl, rfl⟩
          obtain ⟨rfl, rfl⟩ : b4 = b2 ∧ o4 = o2 := by rw [hA2] at hA4; cases hA4; exact ⟨rfl, rfl⟩
          subst hA1
          subst hA2
          clear hA3 hA4 hdr1 hdr2 hdr3 hdr4
          obtain ⟨m, rfl⟩ : ∃ m, nY2 = m + 1 := ⟨nY2 - 1, by omega⟩
          simp only [Nat.add_sub_cancel] at e2 e3 f2 f3
          simp only [Nat.zero_mul, Nat.add_zero] at e0 e1 f0 f1
          have hd0 : decide ((0 : Int) < (m : Int) + 1) = true := by simp <;> omega
          have hm0 : (0 : Int) ≤ (m : Int) := by omega
          have heq : ∀ W : World, (binOp .neq 41 (.agg #[.string x.g, .string x.d]) (.agg #[.string x.g, .string x.d])).run Try.prog W = .ok (.bool false) W := fun W => by rw [neqSe W x x]; simp
          have heq2 : ∀ W : World, (binOp .neq 41 (.agg #[.string xl.g, .string xl.d]) (.agg #[.string xl.g, .string xl.d])).run Try.prog W = .ok (.bool false) W := fun W => by rw [neqSe W xl xl]; simp
          have hgd := fun (W : World) x y xs ys => run_eqGuard_agg (P := Try.prog) W .neq 41 x y xs ys (by kernel_rfl)
          go_wp2_with fail
          go_quiet (fail)
          clear heq heq2 hgd
          go_wp2_with fail
          go_roundw
          case rel => exact ⟨k + 1, by omega, by go_num, by rw [Hid]; have := HBY4.out; repeat (first | assumption | exact Below.refl _ _ | refine Below.alloc ?_ (by first | omega | (simp; done) | (simp; omega)) _ | refine Below.drew ?_ | refine below_drewN ?_ _ | refine Below.setCell ?_ (by first | omega | (simp; done) | (simp; omega)) _)⟩
          case measure => simp [intOf]; omega
      · have HZ : Hid (sensesP P pid = ps) := by
          rw [Hid, HSE.out, if_neg]
          rintro ⟨h1, h2⟩
          exact hns ⟨by rw [rd_len HSB.out, h1]; rfl, h2⟩
        obtain ⟨_, _, _, h0, _, hcms, HNB, HRB2⟩ := HSB.out.op
        cases h0
        have HRA : Hid (∀ j, j < nY2 → SeAt Y2 AY2 ps j) := fun j hj => by have := HRY2.out j hj; rwa [HZ.out] at this
        have HRC : Hid (∀ j, j < ns → SeAt Y2 As ps j) := fun j hj => (HRB2.out j hj).below HSY2.out
        have HLL : Hid (nY2 = ns) := by rw [Hid, ← HNY2.out, ← HNB.out, HZ.out]
        clear HRY2 HRB2
        rcases Nat.eq_zero_or_pos ns with h1 | h1
        · have hpm : pm = 0 := by
            refine Classical.byContradiction fun h => hns ⟨h1, h⟩
          subst hpm
          subst h1
          have hn0 : nY2 = 0 := HLL.out
          subst hn0
          have hb0 : ((0 : Int) != (0 : Int)) = false := by simp
          clear hns
          go_wp2_with fail
          go_quiet (fail)
          go_wp2_with fail
          go_roundw
          case rel => exact ⟨k + 1, by omega, by go_num, by rw [Hid]; have := HBY2.out; repeat (first | assumption | exact Below.refl _ _ | refine Below.alloc ?_ (by first | omega | (simp; done) | (simp; omega)) _ | refine Below.drew ?_ | refine below_drewN ?_ _ | refine Below.setCell ?_ (by first | omega | (simp; done) | (simp; omega)) _)⟩
          case measure => simp [intOf]; omega
        · have hg0 : ((ns : Int) == 0) = false := by simp; omega
          have hn0 : ns = nY2 := HLL.out.symm
          subst hn0
          have hb0 : ((ns : Int) != (ns : Int)) = false := by simp
          have h0 := h1
          clear h1 hns
          obtain ⟨b1, o1, x, hA1, hbl1, hdr1, e0, e1⟩ := HRA.out 0 h0
          obtain ⟨b2, o2, y, hA2, hbl2, hdr2, f0, f1⟩ := HRC.out 0 h0
          obtain rfl : x = y := (List.cons.inj (hdr1.out.symm.trans hdr2.out)).1
          obtain ⟨b3, o3, xl, hA3, hbl3, hdr3, e2, e3⟩ := HRA.out (ns - 1) (by omega)
          obtain ⟨b4, o4, yl, hA4, hbl4, hdr4, f2, f3⟩ := HRC.out (ns - 1) (by omega)
          obtain rfl : xl = yl := (List.cons.inj (hdr3.out.symm.trans hdr4.out)).1
          obtain ⟨rfl, rfl⟩ : b3 = b1 ∧ o3 = o1 := by rw [hA1] at hA3; cases hA3; exact ⟨rfl, rfl⟩
          obtain ⟨rfl, rfl⟩ : b4 = b2 ∧ o4 = o2 := by rw [hA2] at hA4; cases hA4; exact ⟨rfl, rfl⟩
          subst hA1
          subst hA2
          clear hA3 hA4 hdr1 hdr2 hdr3 hdr4
          obtain ⟨m, rfl⟩ : ∃ m, ns = m + 1 := ⟨ns - 1, by omega⟩
          simp only [Nat.add_sub_cancel] at e2 e3 f2 f3
          simp only [Nat.zero_mul, Nat.add_zero] at e0 e1 f0 f1
          have hd0 : decide ((0 : Int) < (m : Int) + 1) = true := by simp <;> omega
          have hm0 : (0 : Int) ≤ (m : Int) := by omega
          have heq : ∀ W : World, (binOp .neq 41 (.agg #[.string x.g, .string x.d]) (.agg #[.string x.g, .string x.d])).run Try.prog W = .ok (.bool false) W := fun W => by rw [neqSe W x x]; simp
          have heq2 : ∀ W : World, (binOp .neq 41 (.agg #[.string xl.g, .string xl.d]) (.agg #[.string xl.g, .string xl.d])).run Try.prog W = .ok (.bool false) W := fun W => by rw [neqSe W xl xl]; simp
          have hgd := fun (W : World) x y xs ys => run_eqGuard_agg (P := Try.prog) W .neq 41 x y xs ys (by kernel_rfl)
          go_wp2_with fail
          go_quiet (fail)
          clear heq heq2 hgd
          go_wp2_with fail
          go_roundw
          case rel => exact ⟨k + 1, by omega, by go_num, by rw [Hid]; have := HBY2.out; repeat (first | assumption | exact Below.refl _ _ | refine Below.alloc ?_ (by first | omega | (simp; done) | (simp; omega)) _ | refine Below.drew ?_ | refine below_drewN ?_ _ | refine Below.setCell ?_ (by first | omega | (simp; done) | (simp; omega)) _)⟩
          case measure => simp [intOf]; omega
    · go_wp2_with fail
      go_wp2_with fail
      refine (awake_any _).mono ?_
      rintro e wz ⟨rfl, hbz⟩
      have HBZ := Lib.hid (bchain HBr.out hbz)
      clear hbz
      go_wp2_with fail
      go_ret
      exact ⟨rfl, HBZ.out⟩
end Go.Proofs.Ytnjniganlielcaa
