/-
  The reference's Check.
-/
import Derived.Test.YtcmfgblfgldonaaN8
namespace Go.Proofs.Ytcmfgblfgldonaa
open Go.ChangeShapes Go.WideShapes Go.ChangeAt Go.RowKit
theorem state_any (q S : Int) (y z : Value) (w : World) :
    Calls Try.prog 32 #[.agg #[.int .i64 S, y, z], .int .i64 q] w fun e w' => e = .returned (.bool (stB S q)) ∧ Below w.heap.size w w' := by
  by_cases h0 : 0 ≤ q
  · by_cases h1 : q < S
    · have d0 : decide (0 ≤ q) = true := by simpa using h0
      have d1 : decide (q < S) = true := by simpa using h1
      go_enter Try.func32, Try.ntmps32
      go_wp2_with fail
      go_ret
      exact ⟨by simp [stB, h0, h1], by repeat (first | assumption | exact Below.refl _ _ | refine Below.alloc ?_ (by first | omega | (simp; done) | (simp; omega)) _ | refine Below.drew ?_ | refine below_drewN ?_ _ | refine Below.setCell ?_ (by first | omega | (simp; done) | (simp; omega)) _)⟩
    · have d0 : decide (0 ≤ q) = true := by simpa using h0
      have d1 : decide (q < S) = false := by simpa using h1
      go_enter Try.func32, Try.ntmps32
      go_wp2_with fail
      go_ret
      exact ⟨by simp [stB, h0, h1], by repeat (first | assumption | exact Below.refl _ _ | refine Below.alloc ?_ (by first | omega | (simp; done) | (simp; omega)) _ | refine Below.drew ?_ | refine below_drewN ?_ _ | refine Below.setCell ?_ (by first | omega | (simp; done) | (simp; omega)) _)⟩
  · have d0 : decide (0 ≤ q) = false := by simpa using h0
    go_enter Try.func32, Try.ntmps32
    go_wp2_with fail
    go_ret
    exact ⟨by rw [stB, d0]; rfl, by repeat (first | assumption | exact Below.refl _ _ | refine Below.alloc ?_ (by first | omega | (simp; done) | (simp; omega)) _ | refine Below.drew ?_ | refine below_drewN ?_ _ | refine Below.setCell ?_ (by first | omega | (simp; done) | (simp; omega)) _)⟩
set_option maxHeartbeats 4000000 in
set_option maxRecDepth 100000 in
theorem rcheck_any (v : Value) (N : PNet) (w : World) (hv : RdN w v N) :
    Calls Try.prog 13 #[v] w fun e w' => e = .returned (.int .i64 (chkN N)) ∧ Below w.heap.size w w' := by
  obtain ⟨va, vf, rfl, ha, hf⟩ := hv
  obtain ⟨A, n, c, rfl, h1, h2, hn, hr⟩ := ha.op
  obtain ⟨A', n', c', rfl, h1', h2', hn', hr'⟩ := hf.op
  obtain ⟨S, L, M⟩ := N
  simp only at hn hr hn' hr' ha hf ⊢
  have HA := Lib.hid ha
  clear ha hf
  by_cases h0 : S < 1
  · go_enter Try.func13, Try.ntmps13
    go_wp2_with fail
    go_ret
    exact ⟨by simp [chkN, h0], (Below.refl _ _).alloc (Nat.le_refl _) _⟩
  have hd0 : decide (S < 1) = false := by simpa using h0
  by_cases h4 : 24 < S
  · have hd4 : decide (24 < S) = true := by simpa using h4
    go_enter Try.func13, Try.ntmps13
    go_wp2_with fail
    go_ret
    exact ⟨by simp [chkN, h4], (Below.refl _ _).alloc (Nat.le_refl _) _⟩
  have hd4 : decide (24 < S) = false := by simpa using h4
  by_cases h5 : 200 < n
  · have hd5 : decide (200 < (n : Int)) = true := by simp; omega
    go_enter Try.func13, Try.ntmps13
    go_wp2_with fail
    go_ret
    exact ⟨by simp [chkN, h0, h4, hn.out, h5], (Below.refl _ _).alloc (Nat.le_refl _) _⟩
  have hd5 : decide (200 < (n : Int)) = false := by simp; omega
  have HC := Lib.hid (chkN_of S L M (by omega) (by omega) (by rw [hn.out]; omega))
  go_enter Try.func13, Try.ntmps13
  go_wp2_with fail
  generalize hW : World.alloc w _ = W
  have HP : Hid (NBlk W w.heap.size (.int .i64 S) (.slice A n c) (.slice A' n' c')) := by rw [← hW]; exact heap_alloc_new w _
  have HBW : Hid (Below w.heap.size w W) := by rw [← hW]; repeat (first | assumption | exact Below.refl _ _ | refine Below.alloc ?_ (by first | omega | (simp; done) | (simp; omega)) _ | refine Below.drew ?_ | refine below_drewN ?_ _ | refine Below.setCell ?_ (by first | omega | (simp; done) | (simp; omega)) _)
  clear hW hd0 hd4 hd5
  go_loopw [3] (fun i wr => ∃ k : Nat, k ≤ n ∧ i = .int .i64 k ∧ Hid (stepsErr S [] L = stepsErr S (L.take k) (L.drop k)) ∧ Hid (Below W.heap.size W wr)) (fun i _ => n - (intOf i).toNat)
  case atStart => exact ⟨0, Nat.zero_le _, rfl, rfl, Below.refl _ _⟩
  case round =>
    obtain ⟨k, hk, rfl, HE, HB⟩ := hrel
    obtain ⟨p0, p1, p2, hpl⟩ := (HP.out.below HB.out).facts
    by_cases hlt : k < n
    · obtain ⟨bb, off, x0, x1, x2, rfl, hbl, hd, e0, e1, e2⟩ := (hr.out k hlt).below (bchain HBW.out HB.out)
      have HE2 : Hid (stepsErr S [] L = if stB S x0 && stB S x2 then (if x1 < 1 ∨ 20 < x1 then 21 else if (⟨x0, x1, x2⟩ : PStep) ∈ L.take k then 8 else stepsErr S (L.take (k + 1)) (L.drop (k + 1))) else 2) := by rw [Hid, HE.out, hd.out, take_of_dropS hd.out]; rfl
      go_wp2_with fail
      generalize hX : World.alloc wr _ = X
      have HXB : Hid (Below W.heap.size W X) := by rw [← hX]; exact HB.out.alloc HB.out.size _
      have HXS : Hid (SBlk X wr.heap.size ⟨x0, x1, x2⟩) := by rw [← hX]; exact heap_alloc_new _ _
      have hwx : W.heap.size ≤ wr.heap.size := HB.out.size
      clear hX e0 e1 e2 p0 p1 p2 hpl
      generalize wr.heap.size = gx at HXS hwx ⊢
      refine (state_any x0 S _ _ _).mono ?_
      rintro e X1 ⟨rfl, hb2⟩
      have HXB2 := Lib.hid (bchain HXB.out hb2)
      have HXS2 : Hid (SBlk X1 gx ⟨x0, x1, x2⟩) := (hb2.block gx (Array.getElem?_eq_some_iff.1 HXS.out).1).trans HXS.out
      clear HXB HXS hb2
      have HXB := HXB2
      have HXS := HXS2
      clear HXB2 HXS2
      obtain ⟨t0, t1, t2, t3⟩ := HXS.out.facts
      dsimp only at t0 t1 t2
      obtain ⟨p0, p1, p2, hpl⟩ := (HP.out.below HXB.out).facts
      cases hs0 : stB S x0
      · have HR : Hid (stepsErr S [] L = 2) := by rw [Hid, HE2.out, hs0]; rfl
        clear hs0
        go_wp2_with fail
        go_ret
        exact ⟨by rw [HC.out, HR.out]; rfl, bchain HBW.out HXB.out⟩
      go_wp2_with fail
      clear t0 t1 t2 t3 p0 p1 p2 hpl
      refine (state_any x2 S _ _ _).mono ?_
      rintro e X2 ⟨rfl, hb2⟩
      have HXB2 := Lib.hid (bchain HXB.out hb2)
      have HXS2 : Hid (SBlk X2 gx ⟨x0, x1, x2⟩) := (hb2.block gx (Array.getElem?_eq_some_iff.1 HXS.out).1).trans HXS.out
      clear HXB HXS hb2
      have HXB := HXB2
      have HXS := HXS2
      clear HXB2 HXS2
      obtain ⟨t0, t1, t2, t3⟩ := HXS.out.facts
      dsimp only at t0 t1 t2
      obtain ⟨p0, p1, p2, hpl⟩ := (HP.out.below HXB.out).facts
      cases hs2 : stB S x2
      · have HR : Hid (stepsErr S [] L = 2) := by rw [Hid, HE2.out, hs2]; simp
        clear hs2
        go_wp2_with fail
        go_ret
        exact ⟨by rw [HC.out, HR.out]; rfl, bchain HBW.out HXB.out⟩
      have HE3 : Hid (stepsErr S [] L = if x1 < 1 ∨ 20 < x1 then 21 else if (⟨x0, x1, x2⟩ : PStep) ∈ L.take k then 8 else stepsErr S (L.take (k + 1)) (L.drop (k + 1))) := by rw [Hid, HE2.out, hs0, hs2]; rfl
      clear hs0 hs2
      by_cases g1 : x1 < 1
      · have d1 : decide (x1 < 1) = true := by simpa using g1
        have HR : Hid (stepsErr S [] L = 21) := by rw [Hid, HE3.out, if_pos (.inl g1)]
        go_wp2_with fail
        go_ret
        exact ⟨by rw [HC.out, HR.out]; rfl, bchain HBW.out HXB.out⟩
      have d1 : decide (x1 < 1) = false := by simpa using g1
      by_cases g2 : 20 < x1
      · have d2 : decide (20 < x1) = true := by simpa using g2
        have HR : Hid (stepsErr S [] L = 21) := by rw [Hid, HE3.out, if_pos (.inr g2)]
        go_wp2_with fail
        go_ret
        exact ⟨by rw [HC.out, HR.out]; rfl, bchain HBW.out HXB.out⟩
      have d2 : decide (20 < x1) = false := by simpa using g2
      have HE4 : Hid (stepsErr S [] L = if (⟨x0, x1, x2⟩ : PStep) ∈ L.take k then 8 else stepsErr S (L.take (k + 1)) (L.drop (k + 1))) := by rw [Hid, HE3.out, if_neg (by omega)]
      go_wp2_with fail
      clear t0 t1 t2 t3 d1 d2 p0 p1 p2 hpl
      obtain ⟨wo, rfl⟩ : ∃ wo : World, wo = X2 := ⟨_, rfl⟩
      have HXB0 := HXB
      have HXS0 := HXS
      clear HXB HXS
      go_loopw [5] (fun i wr => ∃ j : Nat, j ≤ k ∧ i = .int .i64 j ∧ Hid ((⟨x0, x1, x2⟩ : PStep) ∉ L.take j) ∧ Hid (Below W.heap.size W wr) ∧ Hid (SBlk wr gx ⟨x0, x1, x2⟩)) (fun i _ => k - (intOf i).toNat)
      case atStart => exact ⟨0, Nat.zero_le _, rfl, by simp [Hid], HXB0.out, HXS0.out⟩
      case round =>
        obtain ⟨j, hj, rfl, HN2, HXB, HXS⟩ := hrel
        obtain ⟨p0, p1, p2, hpl⟩ := (HP.out.below HXB.out).facts
        obtain ⟨t0, t1, t2, t3⟩ := HXS.out.facts
        dsimp only at t0 t1 t2
        by_cases hjk : j < k
        · obtain ⟨b2, off2, y0, y1, y2, he2, hb2, hd2, e0, e1, e2⟩ := (hr.out j (by omega)).below (bchain HBW.out HXB.out)
          cases he2
          have HT := Lib.hid (take_of_dropS hd2.out)
          have heq := fun W => eqS W y0 y1 y2 x0 x1 x2
          have hgd := fun (W : World) x y xs ys => run_eqGuard_agg (P := Try.prog) W .eql 42 x y xs ys (by kernel_rfl)
          have HBB : Hid ((y0 == x0 && (y1 == x1 && y2 == x2)) = decide ((⟨y0, y1, y2⟩ : PStep) = ⟨x0, x1, x2⟩)) := by rw [Hid, Bool.eq_iff_iff]; simp
          generalize (y0 == x0 && (y1 == x1 && y2 == x2)) = bb at heq HBB
          have HMEM : Hid ((⟨y0, y1, y2⟩ : PStep) ∈ L.take (j + 1)) := by rw [Hid, HT.out]; simp
          have HSUB : Hid (∀ s, s ∈ L.take (j + 1) → s ∈ L.take k) := fun s hs => by
            rw [← List.take_append_drop (j + 1) (L.take k), List.take_take, Nat.min_eq_left (by omega)]
            exact List.mem_append_left _ hs
          cases bb
          · have HNE : Hid (¬ (⟨x0, x1, x2⟩ : PStep) = ⟨y0, y1, y2⟩) := by have h := HBB.out; rw [Hid]; intro h2; rw [h2] at h; simp at h
            go_wp2_with fail
            go_quiet (fail)
            clear heq hgd
            go_wp2_with fail
            go_roundw
            case rel => exact ⟨j + 1, by omega, by go_num, by rw [Hid, HT.out]; simp only [List.mem_append, List.mem_singleton, not_or]; exact ⟨HN2.out, HNE.out⟩, by rw [Hid]; have := HXB.out; repeat (first | assumption | exact Below.refl _ _ | refine Below.alloc ?_ (by first | omega | (simp; done) | (simp; omega)) _ | refine Below.drew ?_ | refine below_drewN ?_ _ | refine Below.setCell ?_ (by first | omega | (simp; done) | (simp; omega)) _), HXS.out⟩
            case measure => simp [intOf]; omega
          · have HEQ : Hid ((⟨x0, x1, x2⟩ : PStep) = ⟨y0, y1, y2⟩) := by have h := HBB.out; rw [Hid]; exact (of_decide_eq_true h.symm).symm
            have HR : Hid (stepsErr S [] L = 8) := by rw [Hid, HE4.out, if_pos (by rw [HEQ.out]; exact HSUB.out _ HMEM.out)]
            go_wp2_with fail
            go_quiet (fail)
            clear heq hgd
            go_wp2_with fail
            go_ret
            exact ⟨by rw [HC.out, HR.out]; rfl, by have h1 := bchain HBW.out HXB.out; repeat (first | assumption | exact Below.refl _ _ | refine Below.alloc ?_ (by first | omega | (simp; done) | (simp; omega)) _ | refine Below.drew ?_ | refine below_drewN ?_ _ | refine Below.setCell ?_ (by first | omega | (simp; done) | (simp; omega)) _)⟩
        · obtain rfl : j = k := by omega
          have HR : Hid (stepsErr S [] L = stepsErr S (L.take (j + 1)) (L.drop (j + 1))) := by rw [Hid, HE4.out, if_neg HN2.out]
          go_wp2_with fail
          go_roundw
          case rel => exact ⟨j + 1, by omega, by go_num, HR.out, HXB.out⟩
          case measure => simp [intOf]; omega
    · have HR : Hid (stepsErr S [] L = 0) := by rw [Hid, HE.out, List.drop_of_length_le (by rw [hn.out]; omega)]; rfl
      have HC2 : Hid (chkN ⟨S, L, M⟩ = if ordE M ≠ 0 then 10 else finE S M) := by rw [Hid, HC.out, HR.out]; rfl
      obtain ⟨wo, rfl⟩ : ∃ wo : World, wo = wr := ⟨_, rfl⟩
      go_wp2_with fail
      have HBo := HB
      clear HB p0 p1 p2 hpl
      go_loopw [6] (fun i wr => ∃ k : Nat, (k + 1 ≤ n' ∨ k = 0) ∧ i = .int .i64 (k + 1) ∧ Hid (ordE M = ordE (M.drop k)) ∧ Hid (Below W.heap.size W wr)) (fun i _ => n' - (intOf i).toNat)
      case atStart => exact ⟨0, Or.inr rfl, rfl, rfl, HBo.out⟩
      case round =>
        obtain ⟨k, hk, rfl, HO, HB⟩ := hrel
        obtain ⟨c0, c1, c2, hpl⟩ := (HP.out.below HB.out).facts
        by_cases hlt : k + 1 < n'
        · obtain ⟨b, off, x, y, rfl, hb, hdr, e0, e1⟩ := ((hr'.out k (by omega)).below (bchain HBW.out HB.out)).two ((hr'.out (k + 1) hlt).below (bchain HBW.out HB.out))
          have HO2 : Hid (ordE M = if y ≤ x then 10 else ordE (M.drop (k + 1))) := by
            have h3 : M.drop (k + 1) = y :: M.drop (k + 2) := by
              have := congrArg (List.drop 1) hdr.out
              simpa using this
            rw [Hid, HO.out, hdr.out, h3, ordE]
          have hw1 : IntKind.i64.wrap ((k : Int) + 1 - 1) = (k : Int) := by rw [show (k : Int) + 1 - 1 = (k : Int) by omega]; exact IntWalk.i64_in _ (by omega)
          have hk0 : (0 : Int) ≤ (k : Int) := by omega
          go_wp2_with fail
          go_quiet (fail)
          clear hw1
          by_cases hyx : y ≤ x
          · have HR : Hid (ordE M ≠ 0) := by rw [Hid, HO2.out, if_pos hyx]; decide
            go_wp2_with fail
            go_ret
            exact ⟨by rw [HC2.out, if_pos HR.out]; rfl, by have h1 := bchain HBW.out HB.out; repeat (first | assumption | exact Below.refl _ _ | refine Below.alloc ?_ (by first | omega | (simp; done) | (simp; omega)) _ | refine Below.drew ?_ | refine below_drewN ?_ _ | refine Below.setCell ?_ (by first | omega | (simp; done) | (simp; omega)) _)⟩
          · have HR : Hid (ordE M = ordE (M.drop (k + 1))) := by rw [Hid, HO2.out, if_neg hyx]
            go_wp2_with fail
            go_roundw
            case rel => exact ⟨k + 1, by omega, by go_num, HR.out, by rw [Hid]; have := HB.out; repeat (first | assumption | exact Below.refl _ _ | refine Below.alloc ?_ (by first | omega | (simp; done) | (simp; omega)) _ | refine Below.drew ?_ | refine below_drewN ?_ _ | refine Below.setCell ?_ (by first | omega | (simp; done) | (simp; omega)) _)⟩
            case measure => simp [intOf]; omega
        · have HR : Hid (ordE M = 0) := by
            rw [Hid, HO.out]
            have hl : (M.drop k).length ≤ 1 := by rw [List.length_drop, hn'.out]; omega
            match M.drop k, hl with
            | [], _ => rfl
            | [_], _ => rfl
          have HC3 : Hid (chkN ⟨S, L, M⟩ = finE S M) := by rw [Hid, HC2.out, HR.out]; rfl
          obtain ⟨wo, rfl⟩ : ∃ wo : World, wo = wr := ⟨_, rfl⟩
          go_wp2_with fail
          have HBo := HB
          clear HB c0 c1 c2 hpl
          go_loopw [7] (fun i wr => ∃ k : Nat, k ≤ n' ∧ i = .int .i64 k ∧ Hid (finE S M = finE S (M.drop k)) ∧ Hid (Below W.heap.size W wr)) (fun i _ => n' - (intOf i).toNat)
          case atStart => exact ⟨0, Nat.zero_le _, rfl, rfl, HBo.out⟩
          case round =>
            obtain ⟨k, hk, rfl, HF, HB⟩ := hrel
            by_cases hlt : k < n'
            · obtain ⟨b, off, x, rfl, hb, hdr, e0⟩ := (hr'.out k hlt).below (bchain HBW.out HB.out)
              have HF2 : Hid (finE S M = if stB S x then finE S (M.drop (k + 1)) else 2) := by rw [Hid, HF.out, hdr.out]; rfl
              obtain ⟨p0, p1, p2, hpl⟩ := (HP.out.below HB.out).facts
              go_wp2_with fail
              clear p0 p1 p2 hpl
              have hk0 : (0 : Int) ≤ (k : Int) := by omega
              have HSX : Hid (∀ w' : World, Below wr.heap.size wr w' → (w'.cell? ⟨w.heap.size, 0, none⟩ = some (.int .i64 S) ∧ w'.cell? ⟨w.heap.size, 1, none⟩ = some (.slice A n c) ∧ w'.cell? ⟨w.heap.size, 2, none⟩ = some (.slice (some ⟨b, off, none⟩) n' c')) ∧ w'.cell? ⟨b, off + k, none⟩ = some (.int .i64 x)) := by
                intro w' h
                obtain ⟨f0, f1, f2, _⟩ := (HP.out.below (bchain HB.out h)).facts
                exact ⟨⟨f0, f1, f2⟩, (h.cell hb).trans e0⟩
              have HS := HSX
              refine wp_region_ord 6 [0, 1, 2, 3, 4, 5] [] [0, 1, 2, 3, 4, 5] [6, 7] (fun w' => Below wr.heap.size wr w') (by kernel_rfl) (by kernel_rfl) ?_
              rintro D hD
              have HSD : Hid (Below wr.heap.size wr D) := by rw [hD]; exact (Below.refl _ _).drew
              clear hD e0
              refine ⟨HSD.out, ?_⟩
              iterate 6 (refine wpHead_cons (v := ?_) rfl rfl (fun w' hS => ?_) ?_; rotate_left; (focus ((try obtain ⟨⟨s0, s1, s2⟩, sx⟩ := HS.out _ (hS rfl)); clear hS; go_simp; try with_reducible rfl; done)); (try simp only [Act.put, List.setIfInBounds_toArray, List.set_cons_zero, List.set_cons_succ]))
              refine wpHead_nil ?_
              refine wpTail_cons rfl rfl (fun K hK => ?_)
              go_simp
              refine (state_any x S _ _ _).mono ?_
              rintro e Y1 ⟨rfl, hb2⟩
              refine hK.out _ _ (fun h => absurd h (by decide)) ?_
              clear hK K
              (try simp only [Act.put, List.setIfInBounds_toArray, List.set_cons_zero, List.set_cons_succ])
              have HB1 := Lib.hid (bchain HB.out (bchain HSD.out hb2))
              clear hb2 HB
              have HB := HB1
              refine wpTail_rest 7 rfl ?_
              simp only [List.drop_succ_cons, List.drop_zero]
              cases hs : stB S x
              · have HR : Hid (finE S M = 2) := by rw [Hid, HF2.out, hs]; rfl
                clear hs
                go_wp2_with fail
                refine NoPanic.normal ?_
                go_wp2_with fail
                go_ret
                exact ⟨by rw [HC3.out, HR.out]; rfl, bchain HBW.out HB.out⟩
              · have HR : Hid (finE S M = finE S (M.drop (k + 1))) := by rw [Hid, HF2.out, hs]; rfl
                clear hs
                go_wp2_with fail
                refine NoPanic.normal ?_
                go_wp2_with fail
                go_roundw
                case rel => exact ⟨k + 1, by omega, by go_num, HR.out, HB.out⟩
                case measure => simp [intOf]; omega
            · have HR : Hid (finE S M = 0) := by rw [Hid, HF.out, List.drop_of_length_le (by rw [hn'.out]; omega)]; rfl
              obtain ⟨p0, p1, p2, hpl⟩ := (HP.out.below HB.out).facts
              go_wp2_with fail
              go_ret
              exact ⟨by rw [HC3.out, HR.out]; rfl, bchain HBW.out HB.out⟩
end Go.Proofs.Ytcmfgblfgldonaa
