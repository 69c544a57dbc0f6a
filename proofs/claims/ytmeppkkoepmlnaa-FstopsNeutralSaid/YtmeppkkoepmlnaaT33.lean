/-
  repeated of the statements.
-/
import Derived.Test.YtmeppkkoepmlnaaT32
import Derived.Test.YtmeppkkoepmlnaaT30
namespace Go.Proofs.Ytmeppkkoepmlnaa
open Go.ChangeShapes Go.WideShapes Go.ChangeAt Go.RowKit
def rowP (P : Nat → Bool) (K : Nat) : Bool := (List.range K).any P
def allP (P : Nat → Nat → Bool) (KK I : Nat) : Bool := (List.range I).any fun i => rowP (P i) KK
theorem rowP_succ (P : Nat → Bool) (K : Nat) : rowP P (K + 1) = (rowP P K || P K) := by simp [rowP, List.range_succ]
theorem allP_succ (P : Nat → Nat → Bool) (KK I : Nat) : allP P KK (I + 1) = (allP P KK I || rowP (P I) KK) := by simp [allP, List.range_succ]
theorem allP_iff (P : Nat → Nat → Bool) (KK I : Nat) : allP P KK I = true ↔ ∃ i, i < I ∧ ∃ k, k < KK ∧ P i k = true := by
  simp only [allP, rowP, List.any_eq_true, List.mem_range]
open Classical in
noncomputable def repB (a : PFst) (xs ys : List Int) : Bool := decide (Rep a xs ys)
theorem repB_iff (a : PFst) (xs ys : List Int) : repB a xs ys = true ↔ Rep a xs ys := by simp [repB]
noncomputable def jR (a : PFst) (xs ys : List Int) (i k : Nat) : Bool := decide (0 < i + k) && (accB a (xs.take i) (ys.take k) && repB a (xs.drop i) (ys.drop k))
theorem repB_zero (a : PFst) {xs ys : List Int} (h1 : xs.length = 0) (h2 : ys.length = 0) : repB a xs ys = true := by
  rw [repB_iff, rep_iff]; exact .inl ⟨List.length_eq_zero_iff.1 h1, List.length_eq_zero_iff.1 h2⟩
theorem repB_more (a : PFst) {xs ys : List Int} (h : ¬ (xs.length = 0 ∧ ys.length = 0)) : repB a xs ys = allP (jR a xs ys) (ys.length + 1) (xs.length + 1) := by
  rw [Bool.eq_iff_iff, repB_iff, rep_iff, allP_iff]
  simp only [jR, Bool.and_eq_true, decide_eq_true_eq, accB_iff, repB_iff]
  constructor
  · rintro (⟨rfl, rfl⟩ | ⟨i, k, h1, h2, h3, h4, h5⟩)
    · exact absurd ⟨rfl, rfl⟩ h
    · exact ⟨i, by omega, k, by omega, h3, h4, h5⟩
  · rintro ⟨i, h1, k, h2, h3, h4, h5⟩
    exact .inr ⟨i, k, by omega, by omega, h3, h4, h5⟩
set_option maxHeartbeats 4000000 in
set_option maxRecDepth 100000 in
theorem repeated_any (a : PFst) (hga : Good a) (N : Nat) : ∀ (v x : Value) (xs ys : List Int) (w : World) (_ : RdF w v a) (_ : RdT w x xs ys) (_ : xs.length ≤ 4) (_ : ys.length ≤ 4) (_ : xs.length + ys.length < N),
    Calls Try.prog 27 #[v, x] w fun e w' => e = .returned (.bool (repB a xs ys)) ∧ Below w.heap.size w w' := by
  have HGA := Lib.hid hga
  clear hga
  induction N with
  | zero => intro v x xs ys w hv hx h1 h2 h3; omega
  | succ N ih =>
    intro v x xs ys w hv hx h1 h2 h3
    have HIH := Lib.hid ih
    have HLT := Lib.hid h3
    have HL1 := Lib.hid h1
    have HL2 := Lib.hid h2
    clear h1 h2 h3 ih
    obtain ⟨va, vf, rfl, ha, hf⟩ := id hv
    obtain ⟨A1, n1, c1, rfl, _, _, _, _⟩ := ha.op
    obtain ⟨A2, n2, c2, rfl, _, _, _, _⟩ := hf.op
    obtain ⟨vx, vy, rfl, hx1, hx2⟩ := id hx
    obtain ⟨X1, k1, e1, rfl, _, _, _, _⟩ := hx1.op
    obtain ⟨X2, k2, e2, rfl, _, _, _, _⟩ := hx2.op
    have HV := Lib.hid hv
    have HX := Lib.hid hx
    have HX1 := Lib.hid hx1
    have HX2 := Lib.hid hx2
    clear ha hf hx1 hx2 hv hx
    go_enter Try.func27, Try.ntmps27
    go_upto_region 1 with (fail)
    generalize hW : World.alloc (World.alloc w _) _ = W
    have HP1 : Hid (FBlk W w.heap.size (.int .i64 a.states) (.slice A1 n1 c1) (.slice A2 n2 c2)) := by
      rw [← hW]; exact (Below.heap_alloc _ _ _ (by first | omega | (simp; done) | (simp; omega))).trans (heap_alloc_new w _)
    have HP3 : Hid (TBlk W (w.heap.size + 1) (.slice X1 k1 e1) (.slice X2 k2 e2)) := by
      rw [Hid, TBlk, ← hW]
      have := heap_alloc_new (w.alloc (.cells #[.int .i64 a.states, .slice A1 n1 c1, .slice A2 n2 c2] 29)) (.cells #[.slice X1 k1 e1, .slice X2 k2 e2] 24)
      simpa using this
    have HBW : Hid (Below w.heap.size w W) := by rw [← hW]; repeat (first | assumption | exact Below.refl _ _ | refine Below.alloc ?_ (by first | omega | (simp; done) | (simp; omega)) _ | refine Below.drew ?_ | refine below_drewN ?_ _ | refine Below.setCell ?_ (by first | omega | (simp; done) | (simp; omega)) _)
    clear hW
    have HV := Lib.hid (HV.out.below HBW.out)
    have HX := Lib.hid (HX.out.below HBW.out)
    have HX1 := Lib.hid (HX1.out.below HBW.out)
    have HX2 := Lib.hid (HX2.out.below HBW.out)
    obtain ⟨_, _, _, he1, hke1, hec1, HK1, _⟩ := HX1.out.op
    cases he1
    obtain ⟨_, _, _, he2, hke2, hec2, HK2, _⟩ := HX2.out.op
    cases he2
    have hk1 : k1 ≤ 4 := by rw [← HK1.out]; exact HL1.out
    have hk2 : k2 ≤ 4 := by rw [← HK2.out]; exact HL2.out
    obtain ⟨p0, p1, hp⟩ := HP3.out.facts
    by_cases hz : k1 = 0 ∧ k2 = 0
    · have HZ := Lib.hid (repB_zero a (HK1.out.trans hz.1) (HK2.out.trans hz.2))
      have z1 : ((k1 : Int) == 0) = true := by simp; omega
      have z2 : ((k2 : Int) == 0) = true := by simp; omega
      go_wp2_with fail
      go_ret
      exact ⟨(congrArg (fun x => Ending.returned (Value.bool x)) HZ.out).symm, HBW.out⟩
    have HM : Hid (repB a xs ys = allP (jR a xs ys) (ys.length + 1) (xs.length + 1)) := repB_more a (by rw [HK1.out, HK2.out]; exact hz)
    have hor : ((k1 : Int) == 0) = false ∨ (((k1 : Int) == 0) = true ∧ ((k2 : Int) == 0) = false) := by
      simp; omega
    clear hz
    go_cut [16] (fun s16 wx => s16 = .bool false ∧ wx = W)
    case first =>
      rcases hor with h | ⟨h1, h2⟩
      · go_wp2_with fail
        go_meet
        case rel => exact ⟨rfl, rfl⟩
      · go_wp2_with fail
        go_meet
        case rel => exact ⟨rfl, rfl⟩
    case rest =>
      obtain ⟨rfl, rfl⟩ := hcut
      clear p0 p1 hp hor
      go_wp2_with fail
      go_loopw [5] (fun i wr => ∃ I : Nat, I ≤ k1 + 1 ∧ i = .int .i64 I ∧ Hid (allP (jR a xs ys) (ys.length + 1) I = false) ∧ Hid (Below wc.heap.size wc wr)) (fun i _ => k1 + 1 - (intOf i).toNat)
      case atStart => exact ⟨0, Nat.zero_le _, rfl, rfl, Below.refl _ _⟩
      case round =>
        obtain ⟨I, hI, rfl, HAL, HB⟩ := hrel
        obtain ⟨p0, p1, hp⟩ := (HP3.out.below HB.out).facts
        by_cases hlt : I ≤ k1
        · obtain ⟨wo, rfl⟩ : ∃ wo : World, wo = wr := ⟨_, rfl⟩
          go_wp2_with fail
          clear p0 p1 hp
          go_loopw [6] (fun k wr => ∃ K : Nat, K ≤ k2 + 1 ∧ k = .int .i64 K ∧ Hid (rowP (jR a xs ys I) K = false) ∧ Hid (Below wc.heap.size wc wr)) (fun k _ => k2 + 1 - (intOf k).toNat)
          case atStart => exact ⟨0, Nat.zero_le _, rfl, rfl, HB.out⟩
          case round =>
            obtain ⟨K, hK0, rfl, HRW, HB3⟩ := hrel
            obtain ⟨p0, p1, hp⟩ := (HP3.out.below HB3.out).facts
            by_cases hltk : K ≤ k2
            · have HS : Hid (∀ w' : World, Below wr.heap.size wr w' → (w'.cell? ⟨w.heap.size, 0, none⟩ = some (.int .i64 a.states) ∧ w'.cell? ⟨w.heap.size, 1, none⟩ = some (.slice A1 n1 c1) ∧ w'.cell? ⟨w.heap.size, 2, none⟩ = some (.slice A2 n2 c2)) ∧ w'.cell? ⟨w.heap.size + 1, 0, none⟩ = some (.slice X1 k1 e1) ∧ w'.cell? ⟨w.heap.size + 1, 1, none⟩ = some (.slice X2 k2 e2)) := by
                intro w' h
                have hW := bchain HB3.out h
                obtain ⟨f0, f1, f2, _⟩ := (HP1.out.below hW).facts3
                obtain ⟨t0, t1, _⟩ := (HP3.out.below hW).facts
                exact ⟨⟨f0, f1, f2⟩, t0, t1⟩
              have i1n : I ≤ k1 := hlt
              have j1n : K ≤ k2 := hltk
              have i0 : (0 : Int) ≤ (I : Int) := by omega
              have i1 : (I : Int) ≤ (k1 : Int) := by omega
              have i2 : (I : Int) ≤ (e1 : Int) := by omega
              have j0 : (0 : Int) ≤ (K : Int) := by omega
              have j1 : (K : Int) ≤ (k2 : Int) := by omega
              have j2 : (K : Int) ≤ (e2 : Int) := by omega
              have hwr : IntKind.i64.wrap ((I : Int) + (K : Int)) = (I : Int) + (K : Int) := IntWalk.i64_in _ (by omega)
              have HV3 := Lib.hid (HV.out.below HB3.out)
              have HX13 := Lib.hid (HX1.out.below HB3.out)
              have HX23 := Lib.hid (HX2.out.below HB3.out)
              have HJ : Hid (jR a xs ys I K = (decide (0 < I + K) && (accB a (xs.take I) (ys.take K) && repB a (xs.drop I) (ys.drop K)))) := rfl
              go_wp2_with fail
              refine wp_region_mix 27 [0, 1, 2, 3, 4, 5, 6, 7, 8, 9, 10, 11, 12, 13, 14, 15, 16, 17, 18, 19, 20, 21, 22, 23, 24, 25, 26] [] [(true, 0), (true, 1), (true, 2), (true, 3), (true, 4), (true, 5), (true, 6), (true, 7), (true, 8), (true, 9), (true, 10), (true, 11), (true, 12), (true, 13), (false, 14), (true, 15), (true, 16), (true, 17), (true, 18), (true, 19), (true, 20), (true, 21), (true, 22), (true, 23), (true, 24), (true, 25), (true, 26), (false, 27), (false, 28)] (fun w' => Below wr.heap.size wr w') (by kernel_rfl) (by kernel_rfl) ?_
              rintro D hD
              have HSD : Hid (Below wr.heap.size wr D) := by rw [hD]; exact (Below.refl _ _).drew
              clear hD
              refine ⟨HSD.out, ?_⟩
              by_cases hpos : 0 < I + K
              · have hpd : decide ((0 : Int) < (I : Int) + (K : Int)) = true := by simp; omega
                iterate 14 (refine wpMix_q (v := ?_) rfl rfl (fun w' hS => ?_) ?_; rotate_left; (focus ((try obtain ⟨⟨s0, s1, s2⟩, x0, x1⟩ := HS.out _ (hS rfl)); clear hS; go_simp; try with_reducible rfl; done)); (try simp only [Act.put, List.setIfInBounds_toArray, List.set_cons_zero, List.set_cons_succ]))
                clear hpd hwr
                refine wpMix_e rfl rfl (fun KK hKK => ?_)
                go_simp
                refine (accepts_any _ _ _ a (xs.take I) (ys.take K) _ (HV3.out.below HSD.out) ?_ ?_ HGA.out.right HGA.out.s2 (by simp; omega) (by simp; omega)).mono ?_
                · exact (HX13.out.below HSD.out).take (by omega)
                · exact (HX23.out.below HSD.out).take (by omega)
                rintro e Y1 ⟨rfl, hb⟩
                cases hacc : accB a (xs.take I) (ys.take K)
                · refine hKK.out _ _ (fun _ => bchain HSD.out hb) ?_
                  clear hKK KK
                  (try simp only [Act.put, List.setIfInBounds_toArray, List.set_cons_zero, List.set_cons_succ])
                  have HSY1 := Lib.hid (bchain HSD.out hb)
                  clear hb
                  have HJF : Hid (jR a xs ys I K = false) := by rw [Hid, HJ.out, hacc]; simp
                  iterate 2 (refine wpMix_q (v := ?_) rfl rfl (fun w' hS => ?_) ?_; rotate_left; (focus ((try obtain ⟨⟨s0, s1, s2⟩, x0, x1⟩ := HS.out _ (hS rfl)); clear hS; go_simp; try with_reducible rfl; done)); (try simp only [Act.put, List.setIfInBounds_toArray, List.set_cons_zero, List.set_cons_succ]))
                  iterate 10 (refine wpMix_qskip rfl rfl ?_; (try simp only [Act.put, List.setIfInBounds_toArray, List.set_cons_zero, List.set_cons_succ]))
                  refine wpMix_eskip rfl rfl HSY1.out ?_
                  (try simp only [Act.put, List.setIfInBounds_toArray, List.set_cons_zero, List.set_cons_succ])
                  (refine wpMix_e rfl rfl (fun K hK => ?_); go_simp; refine hK.out _ _ (fun h => absurd h (by decide)) ?_; clear hK K; (try simp only [Act.put, List.setIfInBounds_toArray, List.set_cons_zero, List.set_cons_succ]))
                  refine wpMix_nil ?_
                  refine NoPanic.normal ?_
                  go_wp2_with fail
                  go_roundw
                  case rel => exact ⟨K + 1, by omega, by go_num, by rw [Hid, rowP_succ, HRW.out, HJF.out]; rfl, bchain HB3.out HSY1.out⟩
                  case measure => simp [intOf]; omega
                · refine hKK.out _ _ (fun _ => bchain HSD.out hb) ?_
                  clear hKK KK
                  (try simp only [Act.put, List.setIfInBounds_toArray, List.set_cons_zero, List.set_cons_succ])
                  have HSY1 := Lib.hid (bchain HSD.out hb)
                  clear hb
                  iterate 12 (refine wpMix_q (v := ?_) rfl rfl (fun w' hS => ?_) ?_; rotate_left; (focus ((try obtain ⟨⟨s0, s1, s2⟩, x0, x1⟩ := HS.out _ (hS rfl)); clear hS; go_simp; try with_reducible rfl; done)); (try simp only [Act.put, List.setIfInBounds_toArray, List.set_cons_zero, List.set_cons_succ]))
                  refine wpMix_e rfl rfl (fun KK hKK => ?_)
                  go_simp
                  refine (HIH.out _ _ (xs.drop I) (ys.drop K) _ (HV3.out.below HSY1.out) ⟨_, _, rfl, ?_, ?_⟩ (by rw [List.length_drop, HK1.out]; omega) (by rw [List.length_drop, HK2.out]; omega) (by have := HLT.out; rw [HK1.out, HK2.out] at this; rw [List.length_drop, List.length_drop, HK1.out, HK2.out]; omega)).mono ?_
                  · have := (HX13.out.below HSY1.out).drop i1n
                    exact this
                  · have := (HX23.out.below HSY1.out).drop j1n
                    exact this
                  rintro e Y2 ⟨rfl, hb⟩
                  have HSY2 := Lib.hid (bchain HSY1.out hb)
                  refine hKK.out _ _ (fun _ => HSY2.out) ?_
                  clear hKK KK hb
                  (try simp only [Act.put, List.setIfInBounds_toArray, List.set_cons_zero, List.set_cons_succ])
                  have HJ2 : Hid (jR a xs ys I K = repB a (xs.drop I) (ys.drop K)) := by rw [Hid, HJ.out, hacc]; simp [hpos]
                  cases hacc2 : repB a (xs.drop I) (ys.drop K)
                  · (refine wpMix_e rfl rfl (fun K hK => ?_); go_simp; refine hK.out _ _ (fun h => absurd h (by decide)) ?_; clear hK K; (try simp only [Act.put, List.setIfInBounds_toArray, List.set_cons_zero, List.set_cons_succ]))
                    refine wpMix_nil ?_
                    refine NoPanic.normal ?_
                    go_wp2_with fail
                    go_roundw
                    case rel => exact ⟨K + 1, by omega, by go_num, by rw [Hid, rowP_succ, HRW.out, HJ2.out, hacc2]; rfl, bchain HB3.out HSY2.out⟩
                    case measure => simp [intOf]; omega
                  · have HYES : Hid (repB a xs ys = true) := by
                      rw [Hid, HM.out, allP_iff]
                      exact ⟨I, by rw [HK1.out]; omega, K, by rw [HK2.out]; omega, by rw [HJ2.out, hacc2]⟩
                    (refine wpMix_e rfl rfl (fun K hK => ?_); go_simp; refine hK.out _ _ (fun h => absurd h (by decide)) ?_; clear hK K; (try simp only [Act.put, List.setIfInBounds_toArray, List.set_cons_zero, List.set_cons_succ]))
                    refine wpMix_nil ?_
                    refine NoPanic.normal ?_
                    go_wp2_with fail
                    all_goals
                      go_ret
                      exact ⟨(congrArg (fun x => Ending.returned (Value.bool x)) HYES.out).symm, bchain HBW.out (bchain HB3.out HSY2.out)⟩
              · have hpd : decide ((0 : Int) < (I : Int) + (K : Int)) = false := by simp; omega
                have HJF : Hid (jR a xs ys I K = false) := by rw [Hid, HJ.out]; simp [hpos]
                iterate 5 (refine wpMix_q (v := ?_) rfl rfl (fun w' hS => ?_) ?_; rotate_left; (focus ((try obtain ⟨⟨s0, s1, s2⟩, x0, x1⟩ := HS.out _ (hS rfl)); clear hS; go_simp; try with_reducible rfl; done)); (try simp only [Act.put, List.setIfInBounds_toArray, List.set_cons_zero, List.set_cons_succ]))
                clear hpd hwr
                iterate 9 (refine wpMix_qskip rfl rfl ?_; (try simp only [Act.put, List.setIfInBounds_toArray, List.set_cons_zero, List.set_cons_succ]))
                refine wpMix_eskip rfl rfl HSD.out ?_
                (try simp only [Act.put, List.setIfInBounds_toArray, List.set_cons_zero, List.set_cons_succ])
                iterate 2 (refine wpMix_q (v := ?_) rfl rfl (fun w' hS => ?_) ?_; rotate_left; (focus ((try obtain ⟨⟨s0, s1, s2⟩, x0, x1⟩ := HS.out _ (hS rfl)); clear hS; go_simp; try with_reducible rfl; done)); (try simp only [Act.put, List.setIfInBounds_toArray, List.set_cons_zero, List.set_cons_succ]))
                iterate 10 (refine wpMix_qskip rfl rfl ?_; (try simp only [Act.put, List.setIfInBounds_toArray, List.set_cons_zero, List.set_cons_succ]))
                refine wpMix_eskip rfl rfl HSD.out ?_
                (try simp only [Act.put, List.setIfInBounds_toArray, List.set_cons_zero, List.set_cons_succ])
                (refine wpMix_e rfl rfl (fun K hK => ?_); go_simp; refine hK.out _ _ (fun h => absurd h (by decide)) ?_; clear hK K; (try simp only [Act.put, List.setIfInBounds_toArray, List.set_cons_zero, List.set_cons_succ]))
                refine wpMix_nil ?_
                refine NoPanic.normal ?_
                go_wp2_with fail
                go_roundw
                case rel => exact ⟨K + 1, by omega, by go_num, by rw [Hid, rowP_succ, HRW.out, HJF.out]; rfl, bchain HB3.out HSD.out⟩
                case measure => simp [intOf]; omega
            · have HRF : Hid (rowP (jR a xs ys I) (ys.length + 1) = false) := by rw [Hid, HK2.out, ← show K = k2 + 1 by omega]; exact HRW.out
              go_wp2_with fail
              go_roundw
              case rel => exact ⟨I + 1, by omega, by go_num, by rw [Hid, allP_succ, HAL.out, HRF.out]; rfl, HB3.out⟩
              case measure => simp [intOf]; omega
        · have HAF : Hid (repB a xs ys = false) := by rw [Hid, HM.out]; conv => { lhs; arg 3; rw [HK1.out, ← show I = k1 + 1 by omega] }; exact HAL.out
          go_wp2_with fail
          go_ret
          exact ⟨(congrArg (fun x => Ending.returned (Value.bool x)) HAF.out).symm, bchain HBW.out HB.out⟩
end Go.Proofs.Ytmeppkkoepmlnaa
