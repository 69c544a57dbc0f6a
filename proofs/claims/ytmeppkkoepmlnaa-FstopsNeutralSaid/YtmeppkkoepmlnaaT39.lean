/-
  Check of fst, at a right transducer.
-/
import Derived.Test.YtmeppkkoepmlnaaT37
namespace Go.Proofs.Ytmeppkkoepmlnaa
open Go.ChangeShapes Go.WideShapes Go.ChangeAt Go.RowKit
theorem List.pairwise_drop_of {l : List Int} (h : l.Pairwise (· < ·)) (k : Nat) : (l.drop k).Pairwise (· < ·) := h.sublist (List.drop_sublist k l)
theorem cstate_any (q : Int) (B : Nat) (n : Int) (y z : Value) (w : World) (hB : FBlk w B (.int .i64 n) y z) (h0 : 0 ≤ q) (h1 : q < n) :
    Calls Try.prog 55 #[.int .i64 q, .pointer (some ⟨B, 0, none⟩)] w fun e w' => e = .returned (.bool true) ∧ w = w' := by
  obtain ⟨m0, _, _, _, _, _⟩ := hB.facts
  have d0 : decide (0 ≤ q) = true := by simpa using h0
  have d1 : decide (q < n) = true := by simpa using h1
  clear hB
  go_enter Try.func55, Try.ntmps55
  go_wp2_with fail
  go_ret
  exact ⟨rfl, rfl⟩
set_option maxHeartbeats 2000000 in
set_option maxRecDepth 100000 in
theorem fcheck_ok (v : Value) (F : PFst) (w : World) (hv : RdF w v F) (hG : Good F) :
    Calls Try.prog 36 #[v] w fun e w' => e = .returned (.int .i64 0) ∧ Below w.heap.size w w' := by
  obtain ⟨va, vf, rfl, ha, hf⟩ := hv
  obtain ⟨A, n, c, rfl, h1, h2, hn, hr⟩ := ha.op
  obtain ⟨A', n', c', rfl, h1', h2', hn', hr'⟩ := hf.op
  have HG := Lib.hid hG
  obtain ⟨S, L, M⟩ := F
  simp only at hn hr hn' hr' ha hf ⊢
  have g1 : 1 ≤ S := hG.s1
  have g2 : S ≤ 4096 := hG.s2
  have g3 : n ≤ 262144 := by have := hG.len; rw [hn.out] at this; exact this
  clear ha hf hG
  have d1 : decide (S < 1) = false := by simp; omega
  have d2 : decide (4096 < S) = false := by simp; omega
  have d3 : decide (262144 < (n : Int)) = false := by simp; omega
  go_enter Try.func36, Try.ntmps36
  go_wp2_with fail
  generalize hW : World.alloc w _ = W
  have HP : Hid (FBlk W w.heap.size (.int .i64 S) (.slice A n c) (.slice A' n' c')) := by rw [← hW]; exact heap_alloc_new w _
  have HBW : Hid (Below w.heap.size w W) := by rw [← hW]; repeat (first | assumption | exact Below.refl _ _ | refine Below.alloc ?_ (by first | omega | (simp; done) | (simp; omega)) _ | refine Below.drew ?_ | refine below_drewN ?_ _ | refine Below.setCell ?_ (by first | omega | (simp; done) | (simp; omega)) _)
  clear hW
  go_loopw [25] (fun i wr => ∃ k : Nat, k ≤ n ∧ i = .int .i64 k ∧ Hid (Below W.heap.size W wr)) (fun i _ => n - (intOf i).toNat)
  case atStart => exact ⟨0, Nat.zero_le _, rfl, Below.refl _ _⟩
  case round =>
    obtain ⟨k, hk, rfl, HB⟩ := hrel
    by_cases hlt : k < n
    · obtain ⟨bb, off, x0, x1, x2, x3, rfl, hbl, hd, e0, e1, e2, e3⟩ := (hr.out k hlt).below (bchain HBW.out HB.out)
      obtain ⟨⟨a0, a1⟩, ⟨b0, b1⟩, ⟨i0, i1⟩, ⟨o0, o1⟩⟩ := HG.out.arc _ (List.mem_of_mem_drop (by rw [hd.out]; exact List.mem_cons_self))
      simp only at a0 a1 b0 b1 i0 i1 o0 o1
      have f1 : decide (x1 < 0) = false := by simp; omega
      have f2 : decide (1099511627776 < x1) = false := by simp; omega
      have f3 : decide (x2 < 0) = false := by simp; omega
      have f4 : decide (1099511627776 < x2) = false := by simp; omega
      go_wp2_with fail
      generalize hX : World.alloc wr _ = X
      have HXB : Hid (Below W.heap.size W X) := by rw [← hX]; exact HB.out.alloc HB.out.size _
      have HXA : Hid (ABlk X wr.heap.size x0 x1 x2 x3) := by rw [← hX]; exact heap_alloc_new _ _
      have hgl := (Array.getElem?_eq_some_iff.1 HXA.out).1
      obtain ⟨t0, t1, t2, t3⟩ := HXA.out.cells
      clear hX e0 e1 e2 e3
      generalize wr.heap.size = gx at hgl t0 t1 t2 t3 ⊢
      refine (cstate_any x0 w.heap.size S _ _ _ (HP.out.below HXB.out) a0 a1).mono ?_
      rintro e w1 ⟨rfl, rfl⟩
      go_wp2_with fail
      refine (cstate_any x3 w.heap.size S _ _ _ (HP.out.below HXB.out) b0 b1).mono ?_
      rintro e w1 ⟨rfl, rfl⟩
      go_wp2_with fail
      go_roundw
      case rel => exact ⟨k + 1, by omega, by go_num, HXB.out⟩
      case measure => simp [intOf]; omega
    · obtain ⟨wo, rfl⟩ : ∃ wo : World, wo = wr := ⟨_, rfl⟩
      go_wp2_with fail
      have HBo := HB
      clear HB
      go_loopw [6] (fun i wr => ∃ k : Nat, (k + 1 ≤ n' ∨ k = 0) ∧ i = .int .i64 (k + 1) ∧ Hid (Below W.heap.size W wr)) (fun i _ => n' - (intOf i).toNat)
      case atStart => exact ⟨0, Or.inr rfl, rfl, HBo.out⟩
      case round =>
        obtain ⟨k, hk, rfl, HB⟩ := hrel
        obtain ⟨c0, c1, c2, _, _, _⟩ := (HP.out.below HB.out).facts
        have hpl := (HP.out.below HB.out).lt
        by_cases hlt : k + 1 < n'
        · obtain ⟨b, off, x, y, rfl, hb, hdr, e0, e1⟩ := ((hr'.out k (by omega)).below (bchain HBW.out HB.out)).two ((hr'.out (k + 1) hlt).below (bchain HBW.out HB.out))
          have hxy : x < y := by
            have hp := HG.out.ord
            have h2 := (List.pairwise_drop_of hp k)
            rw [hdr.out] at h2
            exact (List.pairwise_cons.1 h2).1 y (by simp)
          have hd : decide (y ≤ x) = false := by simp; omega
          go_wp2_with fail
          go_quiet (fail)
          go_wp2_with fail
          go_roundw
          case rel => exact ⟨k + 1, by omega, by go_num, by rw [Hid]; have := HB.out; repeat (first | assumption | exact Below.refl _ _ | refine Below.alloc ?_ (by first | omega | (simp; done) | (simp; omega)) _ | refine Below.drew ?_ | refine below_drewN ?_ _ | refine Below.setCell ?_ (by first | omega | (simp; done) | (simp; omega)) _)⟩
          case measure => simp [intOf]; omega
        · obtain ⟨wo, rfl⟩ : ∃ wo : World, wo = wr := ⟨_, rfl⟩
          go_wp2_with fail
          have HBo := HB
          clear HB c0 c1 c2
          go_loopw [82] (fun i wr => ∃ k : Nat, k ≤ n' ∧ i = .int .i64 k ∧ Hid (Below W.heap.size W wr)) (fun i _ => n' - (intOf i).toNat)
          case atStart => exact ⟨0, Nat.zero_le _, rfl, HBo.out⟩
          case round =>
            obtain ⟨k, hk, rfl, HB⟩ := hrel
            by_cases hlt : k < n'
            · obtain ⟨b, off, x, rfl, hb, hdr, e0⟩ := (hr'.out k hlt).below (bchain HBW.out HB.out)
              obtain ⟨xa0, xa1⟩ := HG.out.fin x (List.mem_of_mem_drop (by rw [hdr.out]; exact List.mem_cons_self))
              simp only at xa1
              go_wp2_with fail
              refine (cstate_any x w.heap.size S _ _ _ (HP.out.below HB.out) xa0 xa1).mono ?_
              rintro e w1 ⟨rfl, rfl⟩
              go_wp2_with fail
              go_roundw
              case rel => exact ⟨k + 1, by omega, by go_num, HB.out⟩
              case measure => simp [intOf]; omega
            · go_wp2_with fail
              go_ret
              exact ⟨rfl, bchain HBW.out HB.out⟩
end Go.Proofs.Ytmeppkkoepmlnaa
