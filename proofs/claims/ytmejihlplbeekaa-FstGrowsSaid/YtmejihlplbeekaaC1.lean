/-
  Check of fst.
-/
import Derived.Test.YtmejihlplbeekaaF4
namespace Go.Proofs.Ytmejihlplbeekaa
open Go.ChangeShapes Go.WideShapes Go.ChangeAt Go.RowKit
theorem cstate_any (q : Int) (B : Nat) (n : Int) (y z : Value) (w : World) (hB : FBlk w B (.int .i64 n) y z) :
    Calls Try.prog 31 #[.int .i64 q, .pointer (some ⟨B, 0, none⟩)] w fun e w' => e = .returned (.bool (stateB n q)) ∧ w = w' := by
  obtain ⟨m0, _, _, _, _, _⟩ := hB.facts
  have hbl := hB.lt
  clear hB
  by_cases c0 : 0 ≤ q
  · have d0 : decide (0 ≤ q) = true := by simpa using c0
    have HS : Hid (stateB n q = decide (q < n)) := by simp [Hid, stateB, c0]
    clear c0
    go_enter Try.func31, Try.ntmps31
    go_wp2_with fail
    go_ret
    exact ⟨by rw [HS.out]; rfl, rfl⟩
  · have d0 : decide (0 ≤ q) = false := by simpa using c0
    have HS : Hid (stateB n q = false) := by simp [Hid, stateB, c0]
    clear c0
    go_enter Try.func31, Try.ntmps31
    go_wp2_with fail
    go_ret
    exact ⟨by rw [HS.out]; rfl, rfl⟩
theorem symbolB_iff (x : Int) : symbolB x = true ↔ 0 ≤ x ∧ x ≤ 1099511627776 := by simp [symbolB]
set_option maxHeartbeats 4000000 in
set_option maxRecDepth 100000 in
theorem fcheck_any (v : Value) (F : PFst) (w : World) (hv : RdF w v F) :
    Calls Try.prog 13 #[v] w fun e w' => e = .returned (.int .i64 (chk F)) ∧ Below w.heap.size w w' := by
  obtain ⟨va, vf, rfl, ha, hf⟩ := hv
  obtain ⟨A, n, c, rfl, h1, h2, hn, hr⟩ := ha.op
  obtain ⟨A', n', c', rfl, h1', h2', hn', hr'⟩ := hf.op
  obtain ⟨S, L, M⟩ := F
  simp only at hn hr hn' hr' ha hf ⊢
  clear ha hf
  have HBA : Hid (Below w.heap.size w (w.alloc (.cells #[.int .i64 S, .slice A n c, .slice A' n' c'] 25))) := (Below.refl _ _).alloc (Nat.le_refl _) _
  by_cases c1 : S < 1
  · have d1 : decide (S < 1) = true := by simpa using c1
    have HR : Hid (chk ⟨S, L, M⟩ = 2) := by simp [Hid, chk, c1]
    clear c1
    go_enter Try.func13, Try.ntmps13
    go_wp2_with fail
    go_ret
    exact ⟨by rw [HR.out]; rfl, HBA.out⟩
  have d1 : decide (S < 1) = false := by simpa using c1
  by_cases c2 : 4096 < S
  · have d2 : decide (4096 < S) = true := by simpa using c2
    have HR : Hid (chk ⟨S, L, M⟩ = 2) := by simp [Hid, chk, c2]
    clear c1 c2
    go_enter Try.func13, Try.ntmps13
    go_wp2_with fail
    go_ret
    exact ⟨by rw [HR.out]; rfl, HBA.out⟩
  have d2 : decide (4096 < S) = false := by simpa using c2
  by_cases c3 : 262144 < n
  · have d3 : decide (262144 < (n : Int)) = true := by simp; omega
    have HR : Hid (chk ⟨S, L, M⟩ = 11) := by
      have : 262144 < L.length := by rw [hn.out]; exact c3
      simp only [Hid, chk, this, if_true]
      rw [if_neg (by omega)]
    clear c1 c2 c3
    go_enter Try.func13, Try.ntmps13
    go_wp2_with fail
    go_ret
    exact ⟨by rw [HR.out]; rfl, HBA.out⟩
  have d3 : decide (262144 < (n : Int)) = false := by simp; omega
  have HCH := Lib.hid (chk_of S L M c1 c2 (by rw [hn.out]; exact c3))
  have g3 : n ≤ 262144 := by omega
  clear c1 c2 c3
  go_enter Try.func13, Try.ntmps13
  go_wp2_with fail
  generalize hW : World.alloc w _ = W
  have HP : Hid (FBlk W w.heap.size (.int .i64 S) (.slice A n c) (.slice A' n' c')) := by rw [← hW]; exact heap_alloc_new w _
  have HBW : Hid (Below w.heap.size w W) := by rw [← hW]; repeat (first | assumption | exact Below.refl _ _ | refine Below.alloc ?_ (by first | omega | (simp; done) | (simp; omega)) _ | refine Below.drew ?_ | refine below_drewN ?_ _ | refine Below.setCell ?_ (by first | omega | (simp; done) | (simp; omega)) _)
  clear hW HBA
  go_loopw [25] (fun i wr => ∃ k : Nat, k ≤ n ∧ i = .int .i64 k ∧ Hid (arcsErr S L = arcsErr S (L.drop k)) ∧ Hid (Below W.heap.size W wr)) (fun i _ => n - (intOf i).toNat)
  case atStart => exact ⟨0, Nat.zero_le _, rfl, rfl, Below.refl _ _⟩
  case round =>
    obtain ⟨k, hk, rfl, HAE, HB⟩ := hrel
    by_cases hlt : k < n
    · obtain ⟨bb, off, x0, x1, x2, x3, rfl, hbl, hd, e0, e1, e2, e3⟩ := (hr.out k hlt).below (bchain HBW.out HB.out)
      have HA2 : Hid (arcsErr S L = if stateB S x0 && stateB S x3 then (if symbolB x1 && symbolB x2 then arcsErr S (L.drop (k + 1)) else 1) else 2) := by rw [Hid, HAE.out, hd.out]; rfl
      go_wp2_with fail
      generalize hX : World.alloc wr _ = X
      have HXB : Hid (Below W.heap.size W X) := by rw [← hX]; exact HB.out.alloc HB.out.size _
      have HXA : Hid (ABlk X wr.heap.size x0 x1 x2 x3) := by rw [← hX]; exact heap_alloc_new _ _
      have HBX : Hid (Below w.heap.size w X) := bchain HBW.out HXB.out
      have hgl := (Array.getElem?_eq_some_iff.1 HXA.out).1
      obtain ⟨t0, t1, t2, t3⟩ := HXA.out.cells
      clear hX e0 e1 e2 e3
      generalize wr.heap.size = gx at hgl t0 t1 t2 t3 ⊢
      refine (cstate_any x0 w.heap.size S _ _ _ (HP.out.below HXB.out)).mono ?_
      rintro e w1 ⟨rfl, rfl⟩
      obtain ⟨s0, hs0⟩ : ∃ s, stateB S x0 = s := ⟨_, rfl⟩
      rw [hs0] at HA2 ⊢
      clear hs0
      cases s0
      · have HR : Hid (chk ⟨S, L, M⟩ = 2) := by rw [Hid, HCH.out, HA2.out]; simp
        go_wp2_with fail
        go_ret
        exact ⟨by rw [HR.out]; rfl, HBX.out⟩
      go_wp2_with fail
      refine (cstate_any x3 w.heap.size S _ _ _ (HP.out.below HXB.out)).mono ?_
      rintro e w1 ⟨rfl, rfl⟩
      obtain ⟨s3, hs3⟩ : ∃ s, stateB S x3 = s := ⟨_, rfl⟩
      rw [hs3] at HA2 ⊢
      clear hs3
      cases s3
      · have HR : Hid (chk ⟨S, L, M⟩ = 2) := by rw [Hid, HCH.out, HA2.out]; simp
        go_wp2_with fail
        go_ret
        exact ⟨by rw [HR.out]; rfl, HBX.out⟩
      by_cases c1 : x1 < 0
      · have f1 : decide (x1 < 0) = true := by simpa using c1
        have HR : Hid (chk ⟨S, L, M⟩ = 1) := by
          have : symbolB x1 = false := by cases h : symbolB x1; rfl; have := (symbolB_iff x1).1 h; omega
          rw [Hid, HCH.out, HA2.out, this]; simp
        clear c1
        go_wp2_with fail
        go_ret
        exact ⟨by rw [HR.out]; rfl, HBX.out⟩
      have f1 : decide (x1 < 0) = false := by simpa using c1
      by_cases c2 : 1099511627776 < x1
      · have f2 : decide (1099511627776 < x1) = true := by simpa using c2
        have HR : Hid (chk ⟨S, L, M⟩ = 1) := by
          have : symbolB x1 = false := by cases h : symbolB x1; rfl; have := (symbolB_iff x1).1 h; omega
          rw [Hid, HCH.out, HA2.out, this]; simp
        clear c1 c2
        go_wp2_with fail
        go_ret
        exact ⟨by rw [HR.out]; rfl, HBX.out⟩
      have f2 : decide (1099511627776 < x1) = false := by simpa using c2
      by_cases c3 : x2 < 0
      · have f3 : decide (x2 < 0) = true := by simpa using c3
        have HR : Hid (chk ⟨S, L, M⟩ = 1) := by
          have : symbolB x2 = false := by cases h : symbolB x2; rfl; have := (symbolB_iff x2).1 h; omega
          rw [Hid, HCH.out, HA2.out, this]; simp
        clear c1 c2 c3
        go_wp2_with fail
        go_ret
        exact ⟨by rw [HR.out]; rfl, HBX.out⟩
      have f3 : decide (x2 < 0) = false := by simpa using c3
      by_cases c4 : 1099511627776 < x2
      · have f4 : decide (1099511627776 < x2) = true := by simpa using c4
        have HR : Hid (chk ⟨S, L, M⟩ = 1) := by
          have : symbolB x2 = false := by cases h : symbolB x2; rfl; have := (symbolB_iff x2).1 h; omega
          rw [Hid, HCH.out, HA2.out, this]; simp
        clear c1 c2 c3 c4
        go_wp2_with fail
        go_ret
        exact ⟨by rw [HR.out]; rfl, HBX.out⟩
      have f4 : decide (1099511627776 < x2) = false := by simpa using c4
      have HA3 : Hid (arcsErr S L = arcsErr S (L.drop (k + 1))) := by
        rw [Hid, HA2.out, (symbolB_iff x1).2 ⟨by omega, by omega⟩, (symbolB_iff x2).2 ⟨by omega, by omega⟩]; simp
      clear c1 c2 c3 c4
      go_wp2_with fail
      go_roundw
      case rel => exact ⟨k + 1, by omega, by go_num, HA3.out, HXB.out⟩
      case measure => simp [intOf]; omega
    · obtain ⟨wo, rfl⟩ : ∃ wo : World, wo = wr := ⟨_, rfl⟩
      have HA0 : Hid (arcsErr S L = 0) := by rw [Hid, HAE.out, List.drop_of_length_le (by rw [hn.out]; omega)]; rfl
      go_wp2_with fail
      have HBo := HB
      clear HB
      go_loopw [6] (fun i wr => ∃ k : Nat, (k + 1 ≤ n' ∨ k = 0) ∧ i = .int .i64 (k + 1) ∧ Hid (orderErr M = orderErr (M.drop k)) ∧ Hid (Below W.heap.size W wr)) (fun i _ => n' - (intOf i).toNat)
      case atStart => exact ⟨0, Or.inr rfl, rfl, rfl, HBo.out⟩
      case round =>
        obtain ⟨k, hk, rfl, HOE, HB⟩ := hrel
        obtain ⟨c0, c1, c2, _, _, _⟩ := (HP.out.below HB.out).facts
        have hpl := (HP.out.below HB.out).lt
        have HBX : Hid (Below w.heap.size w wr) := bchain HBW.out HB.out
        by_cases hlt : k + 1 < n'
        · obtain ⟨b, off, x, y, rfl, hb, hdr, e0, e1⟩ := ((hr'.out k (by omega)).below HBX.out).two ((hr'.out (k + 1) hlt).below HBX.out)
          have HO2 : Hid (orderErr M = if y ≤ x then 10 else orderErr (M.drop (k + 1))) := by
            have h2 : M.drop (k + 1) = y :: M.drop (k + 2) := by
              have := congrArg (fun t => t.drop 1) hdr.out
              simpa using this
            rw [Hid, HOE.out, hdr.out, h2]; rfl
          by_cases hxy : y ≤ x
          · have hd : decide (y ≤ x) = true := by simpa using hxy
            have HR : Hid (chk ⟨S, L, M⟩ = 10) := by rw [Hid, HCH.out, HA0.out, HO2.out, if_pos hxy]; simp
            have HBX2 : Hid (∀ m, Below w.heap.size w (wr.drewN m)) := fun m => below_drewN HBX.out m
            clear hxy
            go_wp2_with fail
            go_quiet (fail)
            go_wp2_with fail
            go_ret
            exact ⟨by rw [HR.out]; rfl, HBX2.out _⟩
          · have hd : decide (y ≤ x) = false := by simpa using hxy
            have HO3 : Hid (orderErr M = orderErr (M.drop (k + 1))) := by rw [Hid, HO2.out, if_neg hxy]
            clear hxy
            go_wp2_with fail
            go_quiet (fail)
            go_wp2_with fail
            go_roundw
            case rel => exact ⟨k + 1, by omega, by go_num, HO3.out, by rw [Hid]; have := HB.out; repeat (first | assumption | exact Below.refl _ _ | refine Below.alloc ?_ (by first | omega | (simp; done) | (simp; omega)) _ | refine Below.drew ?_ | refine below_drewN ?_ _ | refine Below.setCell ?_ (by first | omega | (simp; done) | (simp; omega)) _)⟩
            case measure => simp [intOf]; omega
        · have HO0 : Hid (orderErr M = 0) := by
            rw [Hid, HOE.out]
            have hl : (M.drop k).length ≤ 1 := by rw [List.length_drop, hn'.out]; omega
            match M.drop k, hl with
            | [], _ => rfl
            | [x], _ => rfl
          obtain ⟨wo, rfl⟩ : ∃ wo : World, wo = wr := ⟨_, rfl⟩
          go_wp2_with fail
          have HBo := HB
          clear HB c0 c1 c2
          go_loopw [82] (fun i wr => ∃ k : Nat, k ≤ n' ∧ i = .int .i64 k ∧ Hid (finalErr S M = finalErr S (M.drop k)) ∧ Hid (Below W.heap.size W wr)) (fun i _ => n' - (intOf i).toNat)
          case atStart => exact ⟨0, Nat.zero_le _, rfl, rfl, HBo.out⟩
          case round =>
            obtain ⟨k, hk, rfl, HFE, HB⟩ := hrel
            have HBX : Hid (Below w.heap.size w wr) := bchain HBW.out HB.out
            by_cases hlt : k < n'
            · obtain ⟨b, off, x, rfl, hb, hdr, e0⟩ := (hr'.out k hlt).below HBX.out
              have HF2 : Hid (finalErr S M = if stateB S x then finalErr S (M.drop (k + 1)) else 2) := by rw [Hid, HFE.out, hdr.out]; rfl
              go_wp2_with fail
              refine (cstate_any x w.heap.size S _ _ _ (HP.out.below HB.out)).mono ?_
              rintro e w1 ⟨rfl, rfl⟩
              obtain ⟨s0, hs0⟩ : ∃ s, stateB S x = s := ⟨_, rfl⟩
              rw [hs0] at HF2 ⊢
              clear hs0
              cases s0
              · have HR : Hid (chk ⟨S, L, M⟩ = 2) := by rw [Hid, HCH.out, HA0.out, HO0.out, HF2.out]; simp
                go_wp2_with fail
                go_ret
                exact ⟨by rw [HR.out]; rfl, HBX.out⟩
              go_wp2_with fail
              go_roundw
              case rel => exact ⟨k + 1, by omega, by go_num, by rw [Hid, HF2.out]; rfl, HB.out⟩
              case measure => simp [intOf]; omega
            · have HR : Hid (chk ⟨S, L, M⟩ = 0) := by rw [Hid, HCH.out, HA0.out, HO0.out, HFE.out, List.drop_of_length_le (by rw [hn'.out]; omega)]; simp [finalErr]
              go_wp2_with fail
              go_ret
              exact ⟨by rw [HR.out]; rfl, HBX.out⟩
end Go.Proofs.Ytmejihlplbeekaa
