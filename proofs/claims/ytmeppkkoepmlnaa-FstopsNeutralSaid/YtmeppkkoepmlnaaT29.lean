/-
  joined of the statements.
-/
import Derived.Test.YtmeppkkoepmlnaaT27
namespace Go.Proofs.Ytmeppkkoepmlnaa
open Go.ChangeShapes Go.WideShapes Go.ChangeAt Go.RowKit
/-- s[:k] and s[k:] -/
theorem RdI.take {w : World} {A : Option Addr} {n c k : Nat} {xs : List Int} (h : RdI w (.slice A n c) xs) (hk : k ≤ n) : RdI w (.slice A k c) (xs.take k) := by
  obtain ⟨A', c', he, h1, h2, h3, h4⟩ := h
  cases he
  have hl : (xs.take k).length = k := by simp; omega
  refine ⟨A, c, by rw [hl], by rw [hl]; omega, h2, by simp, fun hn => ?_⟩
  rw [hl] at hn
  obtain ⟨b, off, rfl, hb, hc⟩ := h4 (by omega)
  refine ⟨b, off, rfl, hb, fun j u hu => hc j u ?_⟩
  rw [List.map_take, List.getElem?_take] at hu
  split at hu
  · exact hu
  · cases hu
theorem RdI.drop {w : World} {A : Option Addr} {n c k : Nat} {xs : List Int} (h : RdI w (.slice A n c) xs) (hk : k ≤ n) : RdI w (.slice (if c = k then A else A.map (·.add k)) (n - k) (c - k)) (xs.drop k) := by
  obtain ⟨A', c', he, h1, h2, h3, h4⟩ := h
  cases he
  have hl : (xs.drop k).length = xs.length - k := by simp
  refine ⟨_, c - k, by rw [hl], by rw [hl]; omega, by omega, by simp, fun hn => ?_⟩
  rw [hl] at hn
  obtain ⟨b, off, rfl, hb, hc⟩ := h4 (by omega)
  rw [if_neg (by omega)]
  refine ⟨b, off + k, by simp [add_none], hb, fun j u hu => ?_⟩
  have := hc (k + j) u (by rw [← hu, List.map_drop, List.getElem?_drop])
  rwa [show off + k + j = off + (k + j) by omega]
noncomputable def jB (a b : PFst) (xs ys : List Int) (i k : Nat) : Bool := accB a (xs.take i) (ys.take k) && accB b (xs.drop i) (ys.drop k)
noncomputable def rowJ (a b : PFst) (xs ys : List Int) (i K : Nat) : Bool := (List.range K).any (jB a b xs ys i)
noncomputable def allJ (a b : PFst) (xs ys : List Int) (I : Nat) : Bool := (List.range I).any fun i => rowJ a b xs ys i (ys.length + 1)
theorem rowJ_succ (a b : PFst) (xs ys : List Int) (i K : Nat) : rowJ a b xs ys i (K + 1) = (rowJ a b xs ys i K || jB a b xs ys i K) := by simp [rowJ, List.range_succ]
theorem allJ_succ (a b : PFst) (xs ys : List Int) (I : Nat) : allJ a b xs ys (I + 1) = (allJ a b xs ys I || rowJ a b xs ys I (ys.length + 1)) := by simp [allJ, List.range_succ]
theorem rowJ_yes {a b : PFst} {xs ys : List Int} {i k : Nat} (h : jB a b xs ys i k = true) (hi : i ≤ xs.length) (hk : k ≤ ys.length) : allJ a b xs ys (xs.length + 1) = true := by
  simp only [allJ, rowJ, List.any_eq_true, List.mem_range]
  exact ⟨i, by omega, k, by omega, h⟩
theorem allJ_iff (a b : PFst) (xs ys : List Int) : allJ a b xs ys (xs.length + 1) = true ↔ Joined a b xs ys := by
  simp only [allJ, rowJ, List.any_eq_true, List.mem_range, jB, Bool.and_eq_true, accB_iff, Joined]
  constructor
  · rintro ⟨i, _, k, _, h1, h2⟩
    exact ⟨xs.take i, ys.take k, xs.drop i, ys.drop k, (List.take_append_drop _ _).symm, (List.take_append_drop _ _).symm, h1, h2⟩
  · rintro ⟨x1, y1, x2, y2, rfl, rfl, h1, h2⟩
    exact ⟨x1.length, by simp; omega, y1.length, by simp; omega, by simpa using h1, by simpa using h2⟩
set_option maxHeartbeats 4000000 in
set_option maxRecDepth 100000 in
theorem joined_any (v u x : Value) (a b : PFst) (xs ys : List Int) (w : World) (hv : RdF w v a) (hu : RdF w u b) (hx : RdT w x xs ys) (hga : Good a) (hgb : Good b) (h1 : xs.length ≤ 4) (h2 : ys.length ≤ 4) :
    Calls Try.prog 35 #[v, u, x] w fun e w' => e = .returned (.bool (allJ a b xs ys (xs.length + 1))) ∧ Below w.heap.size w w' := by
  have HGA := Lib.hid hga
  have HGB := Lib.hid hgb
  have HL1 := Lib.hid h1
  have HL2 := Lib.hid h2
  clear hga hgb h1 h2
  obtain ⟨va, vf, rfl, ha, hf⟩ := id hv
  obtain ⟨A1, n1, c1, rfl, _, _, _, _⟩ := ha.op
  obtain ⟨A2, n2, c2, rfl, _, _, _, _⟩ := hf.op
  obtain ⟨ua, uf, rfl, ka, kf⟩ := id hu
  obtain ⟨B1, m1, d1, rfl, _, _, _, _⟩ := ka.op
  obtain ⟨B2, m2, d2, rfl, _, _, _, _⟩ := kf.op
  obtain ⟨vx, vy, rfl, hx1, hx2⟩ := id hx
  obtain ⟨X1, k1, e1, rfl, _, _, _, _⟩ := hx1.op
  obtain ⟨X2, k2, e2, rfl, _, _, _, _⟩ := hx2.op
  have HV := Lib.hid hv
  have HU := Lib.hid hu
  have HX := Lib.hid hx
  clear ha hf ka kf hx1 hx2 hv hu hx
  go_enter Try.func35, Try.ntmps35
  go_wp2_with fail
  generalize hW : World.alloc (World.alloc (World.alloc w _) _) _ = W
  have HP1 : Hid (FBlk W w.heap.size (.int .i64 a.states) (.slice A1 n1 c1) (.slice A2 n2 c2)) := by
    rw [← hW]; exact (Below.heap_alloc _ _ _ (by first | omega | (simp; done) | (simp; omega))).trans ((Below.heap_alloc _ _ _ (by first | omega | (simp; done) | (simp; omega))).trans (heap_alloc_new w _))
  have HP2 : Hid (FBlk W (w.heap.size + 1) (.int .i64 b.states) (.slice B1 m1 d1) (.slice B2 m2 d2)) := by
    rw [Hid, FBlk, ← hW]
    refine (Below.heap_alloc _ _ _ (by first | omega | (simp; done) | (simp; omega))).trans ?_
    have := heap_alloc_new (w.alloc (.cells #[.int .i64 a.states, .slice A1 n1 c1, .slice A2 n2 c2] 29)) (.cells #[.int .i64 b.states, .slice B1 m1 d1, .slice B2 m2 d2] 29)
    simpa using this
  have HP3 : Hid (TBlk W (w.heap.size + 1 + 1) (.slice X1 k1 e1) (.slice X2 k2 e2)) := by
    rw [Hid, TBlk, ← hW]
    have := heap_alloc_new ((w.alloc (.cells #[.int .i64 a.states, .slice A1 n1 c1, .slice A2 n2 c2] 29)).alloc (.cells #[.int .i64 b.states, .slice B1 m1 d1, .slice B2 m2 d2] 29)) (.cells #[.slice X1 k1 e1, .slice X2 k2 e2] 24)
    simpa using this
  have HBW : Hid (Below w.heap.size w W) := by rw [← hW]; repeat (first | assumption | exact Below.refl _ _ | refine Below.alloc ?_ (by first | omega | (simp; done) | (simp; omega)) _ | refine Below.drew ?_ | refine below_drewN ?_ _ | refine Below.setCell ?_ (by first | omega | (simp; done) | (simp; omega)) _)
  clear hW
  have HV := Lib.hid (HV.out.below HBW.out)
  have HU := Lib.hid (HU.out.below HBW.out)
  have HX := Lib.hid (HX.out.below HBW.out)
  obtain ⟨HX1, HX2⟩ : Hid (RdI W (.slice X1 k1 e1) xs) ∧ Hid (RdI W (.slice X2 k2 e2) ys) := by obtain ⟨_, _, he, h1, h2⟩ := HX.out; cases he; exact ⟨h1, h2⟩
  obtain ⟨_, _, _, he1, hke1, hec1, HK1, _⟩ := HX1.out.op
  cases he1
  obtain ⟨_, _, _, he2, hke2, hec2, HK2, _⟩ := HX2.out.op
  cases he2
  have hk1 : k1 ≤ 4 := by rw [← HK1.out]; exact HL1.out
  have hk2 : k2 ≤ 4 := by rw [← HK2.out]; exact HL2.out
  go_loopw [7] (fun i wr => ∃ I : Nat, I ≤ k1 + 1 ∧ i = .int .i64 I ∧ Hid (allJ a b xs ys I = false) ∧ Hid (Below W.heap.size W wr)) (fun i _ => k1 + 1 - (intOf i).toNat)
  case atStart => exact ⟨0, Nat.zero_le _, rfl, rfl, Below.refl _ _⟩
  case round =>
    obtain ⟨I, hI, rfl, HAL, HB⟩ := hrel
    obtain ⟨p0, p1, hp⟩ := (HP3.out.below HB.out).facts
    by_cases hlt : I ≤ k1
    · obtain ⟨wo, rfl⟩ : ∃ wo : World, wo = wr := ⟨_, rfl⟩
      go_wp2_with fail
      clear p0 p1 hp
      go_loopw [8] (fun k wr => ∃ K : Nat, K ≤ k2 + 1 ∧ k = .int .i64 K ∧ Hid (rowJ a b xs ys I K = false) ∧ Hid (Below W.heap.size W wr)) (fun k _ => k2 + 1 - (intOf k).toNat)
      case atStart => exact ⟨0, Nat.zero_le _, rfl, rfl, HB.out⟩
      case round =>
        obtain ⟨K, hK0, rfl, HRW, HB3⟩ := hrel
        obtain ⟨p0, p1, hp⟩ := (HP3.out.below HB3.out).facts
        by_cases hltk : K ≤ k2
        · have HS : Hid (∀ w' : World, Below wr.heap.size wr w' → (w'.cell? ⟨w.heap.size, 0, none⟩ = some (.int .i64 a.states) ∧ w'.cell? ⟨w.heap.size, 1, none⟩ = some (.slice A1 n1 c1) ∧ w'.cell? ⟨w.heap.size, 2, none⟩ = some (.slice A2 n2 c2) ∧ w'.cell? ⟨w.heap.size + 1, 0, none⟩ = some (.int .i64 b.states) ∧ w'.cell? ⟨w.heap.size + 1, 1, none⟩ = some (.slice B1 m1 d1) ∧ w'.cell? ⟨w.heap.size + 1, 2, none⟩ = some (.slice B2 m2 d2)) ∧ w'.cell? ⟨w.heap.size + 1 + 1, 0, none⟩ = some (.slice X1 k1 e1) ∧ w'.cell? ⟨w.heap.size + 1 + 1, 1, none⟩ = some (.slice X2 k2 e2)) := by
            intro w' h
            have hW := bchain HB3.out h
            obtain ⟨f0, f1, f2, _⟩ := (HP1.out.below hW).facts3
            obtain ⟨g0, g1, g2, _⟩ := (HP2.out.below hW).facts3
            obtain ⟨t0, t1, _⟩ := (HP3.out.below hW).facts
            exact ⟨⟨f0, f1, f2, g0, g1, g2⟩, t0, t1⟩
          have i1n : I ≤ k1 := hlt
          have j1n : K ≤ k2 := hltk
          have i0 : (0 : Int) ≤ (I : Int) := by omega
          have i1 : (I : Int) ≤ (k1 : Int) := by omega
          have i2 : (I : Int) ≤ (e1 : Int) := by omega
          have j0 : (0 : Int) ≤ (K : Int) := by omega
          have j1 : (K : Int) ≤ (k2 : Int) := by omega
          have j2 : (K : Int) ≤ (e2 : Int) := by omega
          go_wp2_with fail
          refine wp_region_mix 20 [0, 1, 2, 3, 4, 5, 6, 7, 8, 9, 10, 11, 12, 13, 14, 15, 16, 17, 18, 19] [] [(true, 0), (true, 1), (true, 2), (true, 3), (true, 4), (true, 5), (true, 6), (true, 7), (true, 8), (false, 9), (true, 10), (true, 11), (true, 12), (true, 13), (true, 14), (true, 15), (true, 16), (true, 17), (true, 18), (true, 19), (false, 20), (false, 21)] (fun w' => Below wr.heap.size wr w') (by kernel_rfl) (by kernel_rfl) ?_
          rintro D hD
          have HSD : Hid (Below wr.heap.size wr D) := by rw [hD]; exact (Below.refl _ _).drew
          clear hD
          refine ⟨HSD.out, ?_⟩
          iterate 9 (refine wpMix_q (v := ?_) rfl rfl (fun w' hS => ?_) ?_; rotate_left; (focus ((try obtain ⟨⟨s0, s1, s2, s3, s4, s5⟩, x0, x1⟩ := HS.out _ (hS rfl)); clear hS; go_simp; try with_reducible rfl; done)); (try simp only [Act.put, List.setIfInBounds_toArray, List.set_cons_zero, List.set_cons_succ]))
          have HV3 := Lib.hid (HV.out.below HB3.out)
          have HU3 := Lib.hid (HU.out.below HB3.out)
          have HX13 := Lib.hid (HX1.out.below HB3.out)
          have HX23 := Lib.hid (HX2.out.below HB3.out)
          have HJ : Hid (jB a b xs ys I K = (accB a (xs.take I) (ys.take K) && accB b (xs.drop I) (ys.drop K))) := rfl
          refine wpMix_e rfl rfl (fun KK hKK => ?_)
          go_simp
          refine (accepts_any _ _ _ a (xs.take I) (ys.take K) _ (HV3.out.below HSD.out) ?_ ?_ HGA.out.right HGA.out.s2 (by simp; omega) (by simp; omega)).mono ?_
          · exact (HX13.out.below HSD.out).take (by omega)
          · exact (HX23.out.below HSD.out).take (by omega)
          rintro e Y1 ⟨rfl, hb⟩
          cases hacc : accB a (xs.take I) (ys.take K)
          · refine hKK.out _ _ (fun _ => bchain HSD.out hb) ?_
            clear hKK KK
            (try simp only [Act.put, List.setIfInBounds_toArray, List.set_cons_zero, List.set_cons_succ])
            have HSY1 := Lib.hid (bchain HSD.out hb)
            clear hb
            have HJF : Hid (jB a b xs ys I K = false) := by rw [Hid, HJ.out, hacc]; rfl
            (refine wpMix_q (v := ?_) rfl rfl (fun w' hS => ?_) ?_; rotate_left; (focus ((try obtain ⟨⟨s0, s1, s2, s3, s4, s5⟩, x0, x1⟩ := HS.out _ (hS rfl)); clear hS; go_simp; try with_reducible rfl; done)); (try simp only [Act.put, List.setIfInBounds_toArray, List.set_cons_zero, List.set_cons_succ]))
            iterate 9 (refine wpMix_qskip rfl rfl ?_; (try simp only [Act.put, List.setIfInBounds_toArray, List.set_cons_zero, List.set_cons_succ]))
            refine wpMix_eskip rfl rfl HSY1.out ?_
            (try simp only [Act.put, List.setIfInBounds_toArray, List.set_cons_zero, List.set_cons_succ])
            (refine wpMix_e rfl rfl (fun K hK => ?_); go_simp; refine hK.out _ _ (fun h => absurd h (by decide)) ?_; clear hK K; (try simp only [Act.put, List.setIfInBounds_toArray, List.set_cons_zero, List.set_cons_succ]))
            refine wpMix_nil ?_
            refine NoPanic.normal ?_
            go_wp2_with fail
            go_roundw
            case rel => exact ⟨K + 1, by omega, by go_num, by rw [Hid, rowJ_succ, HRW.out, HJF.out]; rfl, bchain HB3.out HSY1.out⟩
            case measure => simp [intOf]; omega
          · refine hKK.out _ _ (fun _ => bchain HSD.out hb) ?_
            clear hKK KK
            (try simp only [Act.put, List.setIfInBounds_toArray, List.set_cons_zero, List.set_cons_succ])
            have HSY1 := Lib.hid (bchain HSD.out hb)
            clear hb
            (refine wpMix_q (v := ?_) rfl rfl (fun w' hS => ?_) ?_; rotate_left; (focus ((try obtain ⟨⟨s0, s1, s2, s3, s4, s5⟩, x0, x1⟩ := HS.out _ (hS rfl)); clear hS; go_simp; try with_reducible rfl; done)); (try simp only [Act.put, List.setIfInBounds_toArray, List.set_cons_zero, List.set_cons_succ]))
            iterate 9 (refine wpMix_q (v := ?_) rfl rfl (fun w' hS => ?_) ?_; rotate_left; (focus ((try obtain ⟨⟨s0, s1, s2, s3, s4, s5⟩, x0, x1⟩ := HS.out _ (hS rfl)); clear hS; go_simp; try with_reducible rfl; done)); (try simp only [Act.put, List.setIfInBounds_toArray, List.set_cons_zero, List.set_cons_succ]))
            refine wpMix_e rfl rfl (fun KK hKK => ?_)
            go_simp
            refine (accepts_any _ _ _ b (xs.drop I) (ys.drop K) _ (HU3.out.below HSY1.out) ?_ ?_ HGB.out.right HGB.out.s2 (by rw [List.length_drop, HK1.out]; omega) (by rw [List.length_drop, HK2.out]; omega)).mono ?_
            · have := (HX13.out.below HSY1.out).drop i1n
              exact this
            · have := (HX23.out.below HSY1.out).drop j1n
              exact this
            rintro e Y2 ⟨rfl, hb⟩
            have HSY2 := Lib.hid (bchain HSY1.out hb)
            refine hKK.out _ _ (fun _ => HSY2.out) ?_
            clear hKK KK hb
            (try simp only [Act.put, List.setIfInBounds_toArray, List.set_cons_zero, List.set_cons_succ])
            have HJ2 : Hid (jB a b xs ys I K = accB b (xs.drop I) (ys.drop K)) := by rw [Hid, HJ.out, hacc]; rfl
            cases hacc2 : accB b (xs.drop I) (ys.drop K)
            · (refine wpMix_e rfl rfl (fun K hK => ?_); go_simp; refine hK.out _ _ (fun h => absurd h (by decide)) ?_; clear hK K; (try simp only [Act.put, List.setIfInBounds_toArray, List.set_cons_zero, List.set_cons_succ]))
              refine wpMix_nil ?_
              refine NoPanic.normal ?_
              go_wp2_with fail
              go_roundw
              case rel => exact ⟨K + 1, by omega, by go_num, by rw [Hid, rowJ_succ, HRW.out, HJ2.out, hacc2]; rfl, bchain HB3.out HSY2.out⟩
              case measure => simp [intOf]; omega
            · (refine wpMix_e rfl rfl (fun K hK => ?_); go_simp; refine hK.out _ _ (fun h => absurd h (by decide)) ?_; clear hK K; (try simp only [Act.put, List.setIfInBounds_toArray, List.set_cons_zero, List.set_cons_succ]))
              refine wpMix_nil ?_
              refine NoPanic.normal ?_
              go_wp2_with fail
              all_goals
                go_ret
                exact ⟨(congrArg (fun x => Ending.returned (Value.bool x)) (rowJ_yes (i := I) (k := K) (by rw [HJ2.out, hacc2]) (by rw [HK1.out]; omega) (by rw [HK2.out]; omega))).symm, bchain HBW.out (bchain HB3.out HSY2.out)⟩
        · have HRF : Hid (rowJ a b xs ys I (ys.length + 1) = false) := by rw [Hid, HK2.out, ← show K = k2 + 1 by omega]; exact HRW.out
          go_wp2_with fail
          go_roundw
          case rel => exact ⟨I + 1, by omega, by go_num, by rw [Hid, allJ_succ, HAL.out, HRF.out]; rfl, HB3.out⟩
          case measure => simp [intOf]; omega
    · have HAF : Hid (allJ a b xs ys (xs.length + 1) = false) := by rw [Hid, HK1.out, ← show I = k1 + 1 by omega]; exact HAL.out
      go_wp2_with fail
      go_ret
      exact ⟨(congrArg (fun x => Ending.returned (Value.bool x)) HAF.out).symm, bchain HBW.out HB.out⟩
end Go.Proofs.Ytmeppkkoepmlnaa
