/-
  Check of tactics.
-/
import Derived.Test.YtcmfgblfgldonaaN7
namespace Go.Proofs.Ytcmfgblfgldonaa
open Go.ChangeShapes Go.WideShapes Go.ChangeAt Go.RowKit
theorem chkN_of (S : Int) (L : List PStep) (M : List Int) (h0 : ¬ S < 1) (h4 : ¬ 24 < S) (h5 : ¬ 200 < L.length) : chkN ⟨S, L, M⟩ = if stepsErr S [] L ≠ 0 then stepsErr S [] L else if ordE M ≠ 0 then 10 else finE S M := by
  simp [chkN, h0, h4, h5]
theorem RdS.take {w : World} {A : Option Addr} {n c : Nat} {l : List PStep} (h : RdS w (.slice A n c) l) (k : Nat) (hk : k ≤ n) : RdS w (.slice A k c) (l.take k) := by
  obtain ⟨A', c', he, h1, h2, h3, h4⟩ := h
  cases he
  have hl : (l.take k).length = k := by rw [List.length_take]; omega
  refine ⟨A, c, by rw [hl], by omega, h2, stepsCells_length _, fun hk0 => ?_⟩
  rw [hl] at hk0
  obtain ⟨b, off, rfl, hb, hc⟩ := h4 (by omega)
  refine ⟨b, off, rfl, hb, fun j u hu => hc j u ?_⟩
  have e : stepsCells l = stepsCells (l.take k) ++ stepsCells (l.drop k) := by rw [stepsCells, stepsCells, stepsCells, ← List.flatMap_append, List.take_append_drop]
  rw [e, List.getElem?_append_left (List.getElem?_eq_some_iff.1 hu).1]
  exact hu
set_option maxHeartbeats 4000000 in
set_option maxRecDepth 100000 in
theorem check_any (v : Value) (N : PNet) (w : World) (hv : RdN w v N) :
    Calls Try.prog 12 #[v] w fun e w' => e = .returned (.int .i64 (chkN N)) ∧ Below w.heap.size w w' := by
  obtain ⟨va, vf, rfl, ha, hf⟩ := hv
  obtain ⟨A, n, c, rfl, h1, h2, hn, hr⟩ := ha.op
  obtain ⟨A', n', c', rfl, h1', h2', hn', hr'⟩ := hf.op
  obtain ⟨S, L, M⟩ := N
  simp only at hn hr hn' hr' ha hf ⊢
  have HA := Lib.hid ha
  clear ha hf
  by_cases h0 : S < 1
  · go_enter Try.func12, Try.ntmps12
    go_wp2_with fail
    go_ret
    exact ⟨by simp [chkN, h0], (Below.refl _ _).alloc (Nat.le_refl _) _⟩
  have hd0 : decide (S < 1) = false := by simpa using h0
  by_cases h4 : 24 < S
  · have hd4 : decide (24 < S) = true := by simpa using h4
    go_enter Try.func12, Try.ntmps12
    go_wp2_with fail
    go_ret
    exact ⟨by simp [chkN, h4], (Below.refl _ _).alloc (Nat.le_refl _) _⟩
  have hd4 : decide (24 < S) = false := by simpa using h4
  by_cases h5 : 200 < n
  · have hd5 : decide (200 < (n : Int)) = true := by simp; omega
    go_enter Try.func12, Try.ntmps12
    go_wp2_with fail
    go_ret
    exact ⟨by simp [chkN, h0, h4, hn.out, h5], (Below.refl _ _).alloc (Nat.le_refl _) _⟩
  have hd5 : decide (200 < (n : Int)) = false := by simp; omega
  have HC := Lib.hid (chkN_of S L M (by omega) (by omega) (by rw [hn.out]; omega))
  go_enter Try.func12, Try.ntmps12
  go_wp2_with fail
  generalize hW : World.alloc w _ = W
  have HP : Hid (NBlk W w.heap.size (.int .i64 S) (.slice A n c) (.slice A' n' c')) := by rw [← hW]; exact heap_alloc_new w _
  have HBW : Hid (Below w.heap.size w W) := by rw [← hW]; repeat (first | assumption | exact Below.refl _ _ | refine Below.alloc ?_ (by first | omega | (simp; done) | (simp; omega)) _ | refine Below.drew ?_ | refine below_drewN ?_ _ | refine Below.setCell ?_ (by first | omega | (simp; done) | (simp; omega)) _)
  clear hW hd0 hd4 hd5
  go_loopw [25] (fun i wr => ∃ k : Nat, k ≤ n ∧ i = .int .i64 k ∧ Hid (stepsErr S [] L = stepsErr S (L.take k) (L.drop k)) ∧ Hid (Below W.heap.size W wr)) (fun i _ => n - (intOf i).toNat)
  case atStart => exact ⟨0, Nat.zero_le _, rfl, rfl, Below.refl _ _⟩
  case round =>
    obtain ⟨k, hk, rfl, HE, HB⟩ := hrel
    by_cases hlt : k < n
    · obtain ⟨bb, off, x0, x1, x2, rfl, hbl, hd, e0, e1, e2⟩ := (hr.out k hlt).below (bchain HBW.out HB.out)
      have HE2 : Hid (stepsErr S [] L = if stB S x0 && stB S x2 then (if x1 < 1 ∨ 20 < x1 then 21 else if (⟨x0, x1, x2⟩ : PStep) ∈ L.take k then 8 else stepsErr S (L.take (k + 1)) (L.drop (k + 1))) else 2) := by rw [Hid, HE.out, hd.out, take_of_dropS hd.out]; rfl
      go_wp2_with fail
      generalize hX : World.alloc wr _ = X
      have HXB : Hid (Below W.heap.size W X) := by rw [← hX]; exact HB.out.alloc HB.out.size _
      have HXS : Hid (SBlk X wr.heap.size ⟨x0, x1, x2⟩) := by rw [← hX]; exact heap_alloc_new _ _
      obtain ⟨t0, t1, t2, t3⟩ := HXS.out.facts
      dsimp only at t0 t1 t2
      clear hX e0 e1 e2
      generalize wr.heap.size = gx at HXS t0 t1 t2 t3 ⊢
      refine (cst_any x0 w.heap.size S _ _ _ (HP.out.below HXB.out)).mono ?_
      rintro e wz ⟨rfl, rfl⟩
      cases hs0 : stB S x0
      · have HR : Hid (stepsErr S [] L = 2) := by rw [Hid, HE2.out, hs0]; rfl
        clear hs0
        go_wp2_with fail
        go_ret
        exact ⟨by rw [HC.out, HR.out]; rfl, bchain HBW.out HXB.out⟩
      go_wp2_with fail
      refine (cst_any x2 w.heap.size S _ _ _ (HP.out.below HXB.out)).mono ?_
      rintro e wz ⟨rfl, rfl⟩
      cases hs2 : stB S x2
      · have HR : Hid (stepsErr S [] L = 2) := by rw [Hid, HE2.out, hs2]; simp
        clear hs2
        go_wp2_with fail
        go_ret
        exact ⟨by rw [HC.out, HR.out]; rfl, bchain HBW.out HXB.out⟩
      have HE3 : Hid (stepsErr S [] L = if x1 < 1 ∨ 20 < x1 then 21 else if (⟨x0, x1, x2⟩ : PStep) ∈ L.take k then 8 else stepsErr S (L.take (k + 1)) (L.drop (k + 1))) := by rw [Hid, HE2.out, hs0, hs2]; rfl
      clear hs0 hs2
      by_cases g1 : x1 < 1
      · have d1 : decide (x1 < 1) = true := by simpa using g1
        have HR : Hid (stepsErr S [] L = 21) := by rw [Hid, HE3.out, if_pos (.inl g1)]
        go_wp2_with fail
        go_ret
        exact ⟨by rw [HC.out, HR.out]; rfl, bchain HBW.out HXB.out⟩
      have d1 : decide (x1 < 1) = false := by simpa using g1
      by_cases g2 : 20 < x1
      · have d2 : decide (20 < x1) = true := by simpa using g2
        have HR : Hid (stepsErr S [] L = 21) := by rw [Hid, HE3.out, if_pos (.inr g2)]
        go_wp2_with fail
        go_ret
        exact ⟨by rw [HC.out, HR.out]; rfl, bchain HBW.out HXB.out⟩
      have d2 : decide (20 < x1) = false := by simpa using g2
      have HE4 : Hid (stepsErr S [] L = if (⟨x0, x1, x2⟩ : PStep) ∈ L.take k then 8 else stepsErr S (L.take (k + 1)) (L.drop (k + 1))) := by rw [Hid, HE3.out, if_neg (by omega)]
      go_wp2_with fail
      have hk0 : (0 : Int) ≤ (k : Int) := by omega
      have hk1 : (k : Int) ≤ (c : Int) := by omega
      clear t0 t1 t2 d1 d2
      refine wp_region_ord 5 [0, 1, 2, 3, 4] [] [0, 1, 2, 3, 4] [5] (fun w' => Below X.heap.size X w') (by kernel_rfl) (by kernel_rfl) ?_
      rintro D hD
      have HSD : Hid (Below X.heap.size X D) := by rw [hD]; exact (Below.refl _ _).drew
      clear hD
      refine ⟨HSD.out, ?_⟩
      have HS : Hid (∀ w' : World, Below X.heap.size X w' → w'.cell? ⟨w.heap.size, 1, none⟩ = some (.slice (some ⟨bb, off, none⟩) n c) ∧ w'.cell? ⟨gx, 0, none⟩ = some (.int .i64 x0) ∧ w'.cell? ⟨gx, 1, none⟩ = some (.int .i64 x1) ∧ w'.cell? ⟨gx, 2, none⟩ = some (.int .i64 x2)) := by
        intro w' h
        obtain ⟨_, f1, _, _⟩ := (HP.out.below (bchain HXB.out h)).facts
        have hsb : SBlk w' gx ⟨x0, x1, x2⟩ := (h.block gx t3).trans HXS.out
        obtain ⟨u0, u1, u2, _⟩ := hsb.facts
        exact ⟨f1, u0, u1, u2⟩
      iterate 5 (refine wpHead_cons (v := ?_) rfl rfl (fun w' hS => ?_) ?_; rotate_left; (focus ((try obtain ⟨s0, s1, s2, s3⟩ := HS.out _ (hS rfl)); clear hS; go_simp; try with_reducible rfl; done)); (try simp only [Act.put, List.setIfInBounds_toArray, List.set_cons_zero, List.set_cons_succ]))
      refine wpHead_nil ?_
      refine wpTail_cons rfl rfl (fun K hK => ?_)
      go_simp
      refine (hasS_any _ (L.take k) x0 x1 x2 _ ((HA.out.below (bchain (bchain HBW.out HXB.out) HSD.out)).take k hk)).mono ?_
      rintro e Y1 ⟨rfl, hb⟩
      refine hK.out _ _ (fun h => absurd h (by decide)) ?_
      clear hK K hk0 hk1
      (try simp only [Act.put, List.setIfInBounds_toArray, List.set_cons_zero, List.set_cons_succ])
      have HSY1 := Lib.hid (bchain HXB.out (bchain HSD.out hb))
      clear hb
      refine wpTail_nil ?_
      refine NoPanic.normal ?_
      cases hs : decide ((⟨x0, x1, x2⟩ : PStep) ∈ L.take k)
      · have HR : Hid (stepsErr S [] L = stepsErr S (L.take (k + 1)) (L.drop (k + 1))) := by rw [Hid, HE4.out, if_neg (of_decide_eq_false hs)]
        clear hs
        go_wp2_with fail
        go_roundw
        case rel => exact ⟨k + 1, by omega, by go_num, HR.out, HSY1.out⟩
        case measure => simp [intOf]; omega
      · have HR : Hid (stepsErr S [] L = 8) := by rw [Hid, HE4.out, if_pos (of_decide_eq_true hs)]
        clear hs
        go_wp2_with fail
        go_ret
        exact ⟨by rw [HC.out, HR.out]; rfl, bchain HBW.out HSY1.out⟩
    · have HR : Hid (stepsErr S [] L = 0) := by rw [Hid, HE.out, List.drop_of_length_le (by rw [hn.out]; omega)]; rfl
      have HC2 : Hid (chkN ⟨S, L, M⟩ = if ordE M ≠ 0 then 10 else finE S M) := by rw [Hid, HC.out, HR.out]; rfl
      obtain ⟨wo, rfl⟩ : ∃ wo : World, wo = wr := ⟨_, rfl⟩
      go_wp2_with fail
      have HBo := HB
      clear HB
      go_loopw [6] (fun i wr => ∃ k : Nat, (k + 1 ≤ n' ∨ k = 0) ∧ i = .int .i64 (k + 1) ∧ Hid (ordE M = ordE (M.drop k)) ∧ Hid (Below W.heap.size W wr)) (fun i _ => n' - (intOf i).toNat)
      case atStart => exact ⟨0, Or.inr rfl, rfl, rfl, HBo.out⟩
      case round =>
        obtain ⟨k, hk, rfl, HO, HB⟩ := hrel
        obtain ⟨c0, c1, c2, hpl⟩ := (HP.out.below HB.out).facts
        by_cases hlt : k + 1 < n'
        · obtain ⟨b, off, x, y, rfl, hb, hdr, e0, e1⟩ := ((hr'.out k (by omega)).below (bchain HBW.out HB.out)).two ((hr'.out (k + 1) hlt).below (bchain HBW.out HB.out))
          have HO2 : Hid (ordE M = if y ≤ x then 10 else ordE (M.drop (k + 1))) := by
            have h3 : M.drop (k + 1) = y :: M.drop (k + 2) := by
              have := congrArg (List.drop 1) hdr.out
              simpa using this
            rw [Hid, HO.out, hdr.out, h3, ordE]
          have hw1 : IntKind.i64.wrap ((k : Int) + 1 - 1) = (k : Int) := by rw [show (k : Int) + 1 - 1 = (k : Int) by omega]; exact IntWalk.i64_in _ (by omega)
          have hk0 : (0 : Int) ≤ (k : Int) := by omega
          go_wp2_with fail
          go_quiet (fail)
          clear hw1
          by_cases hyx : y ≤ x
          · have HR : Hid (ordE M ≠ 0) := by rw [Hid, HO2.out, if_pos hyx]; decide
            go_wp2_with fail
            go_ret
            exact ⟨by rw [HC2.out, if_pos HR.out]; rfl, by have h1 := bchain HBW.out HB.out; repeat (first | assumption | exact Below.refl _ _ | refine Below.alloc ?_ (by first | omega | (simp; done) | (simp; omega)) _ | refine Below.drew ?_ | refine below_drewN ?_ _ | refine Below.setCell ?_ (by first | omega | (simp; done) | (simp; omega)) _)⟩
          · have HR : Hid (ordE M = ordE (M.drop (k + 1))) := by rw [Hid, HO2.out, if_neg hyx]
            go_wp2_with fail
            go_roundw
            case rel => exact ⟨k + 1, by omega, by go_num, HR.out, by rw [Hid]; have := HB.out; repeat (first | assumption | exact Below.refl _ _ | refine Below.alloc ?_ (by first | omega | (simp; done) | (simp; omega)) _ | refine Below.drew ?_ | refine below_drewN ?_ _ | refine Below.setCell ?_ (by first | omega | (simp; done) | (simp; omega)) _)⟩
            case measure => simp [intOf]; omega
        · have HR : Hid (ordE M = 0) := by
            rw [Hid, HO.out]
            have hl : (M.drop k).length ≤ 1 := by rw [List.length_drop, hn'.out]; omega
            match M.drop k, hl with
            | [], _ => rfl
            | [_], _ => rfl
          have HC3 : Hid (chkN ⟨S, L, M⟩ = finE S M) := by rw [Hid, HC2.out, HR.out]; rfl
          obtain ⟨wo, rfl⟩ : ∃ wo : World, wo = wr := ⟨_, rfl⟩
          go_wp2_with fail
          have HBo := HB
          clear HB c0 c1 c2 hpl
          go_loopw [79] (fun i wr => ∃ k : Nat, k ≤ n' ∧ i = .int .i64 k ∧ Hid (finE S M = finE S (M.drop k)) ∧ Hid (Below W.heap.size W wr)) (fun i _ => n' - (intOf i).toNat)
          case atStart => exact ⟨0, Nat.zero_le _, rfl, rfl, HBo.out⟩
          case round =>
            obtain ⟨k, hk, rfl, HF, HB⟩ := hrel
            by_cases hlt : k < n'
            · obtain ⟨b, off, x, rfl, hb, hdr, e0⟩ := (hr'.out k hlt).below (bchain HBW.out HB.out)
              have HF2 : Hid (finE S M = if stB S x then finE S (M.drop (k + 1)) else 2) := by rw [Hid, HF.out, hdr.out]; rfl
              go_wp2_with fail
              refine (cst_any x w.heap.size S _ _ _ (HP.out.below HB.out)).mono ?_
              rintro e wz ⟨rfl, rfl⟩
              cases hs : stB S x
              · have HR : Hid (finE S M = 2) := by rw [Hid, HF2.out, hs]; rfl
                clear hs
                go_wp2_with fail
                go_ret
                exact ⟨by rw [HC3.out, HR.out]; rfl, bchain HBW.out HB.out⟩
              · have HR : Hid (finE S M = finE S (M.drop (k + 1))) := by rw [Hid, HF2.out, hs]; rfl
                clear hs
                go_wp2_with fail
                go_roundw
                case rel => exact ⟨k + 1, by omega, by go_num, HR.out, HB.out⟩
                case measure => simp [intOf]; omega
            · have HR : Hid (finE S M = 0) := by rw [Hid, HF.out, List.drop_of_length_le (by rw [hn'.out]; omega)]; rfl
              go_wp2_with fail
              go_ret
              exact ⟨by rw [HC3.out, HR.out]; rfl, bchain HBW.out HB.out⟩
end Go.Proofs.Ytcmfgblfgldonaa
