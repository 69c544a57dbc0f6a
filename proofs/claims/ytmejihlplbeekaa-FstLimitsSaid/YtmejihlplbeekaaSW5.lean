/-
  FstLimits: the walk.
-/
import Derived.Test.YtmejihlplbeekaaSW1
namespace Go.Proofs.Ytmejihlplbeekaa
open Go.ChangeShapes Go.WideShapes Go.ChangeAt Go.RowKit
theorem wr_in (n : Int) (h : -9223372036854775808 ≤ n) (h2 : n ≤ 9223372036854775807) : wrap64 n = n := by unfold wrap64; omega
theorem open_u8 {z : Int} (h : (Lit.int .u8 z).wf = true) : ∃ k : Nat, z = (k : Int) ∧ k < 256 := by
  have h2 : 0 ≤ z ∧ z ≤ 255 := by
    simp only [Lit.wf, IntKind.min, IntKind.max, IntKind.signed, IntKind.bits, Bool.and_eq_true] at h
    simp at h
    omega
  exact ⟨z.toNat, by omega, by omega⟩
def zArc : PArc := ⟨0, 0, 0, 0⟩
def zerosF (N : Nat) : PFst := ⟨1, List.replicate N zArc, []⟩
def wideF (Q : Nat) : PFst := ⟨Q, [], []⟩
theorem arcs_zero (N : Nat) : arcsErr 1 (List.replicate N zArc) = 0 := by
  rw [arcsErr_ok]
  intro a ha
  rw [List.eq_of_mem_replicate ha]
  exact ⟨⟨by decide, by decide⟩, ⟨by decide, by decide⟩, ⟨by decide, by decide⟩, by decide, by decide⟩
theorem zeros_chk (N : Nat) : chk (zerosF N) = if 262144 < N then 11 else 0 := by
  unfold chk zerosF
  simp only [List.length_replicate, arcs_zero]
  rw [if_neg (by omega)]
  split
  · rfl
  · simp [orderErr, finalErr]
theorem wide_chk (Q : Nat) (hQ : 1 ≤ Q) : chk (wideF Q) = if 4096 < Q then 2 else 0 := by
  unfold chk wideF
  by_cases h : 4096 < Q
  · rw [if_pos (by simp only; omega), if_pos h]
  · rw [if_neg (by simp only; omega), if_neg h]
    simp [arcsErr, orderErr, finalErr]
theorem infoAx : ∃ i, Try.prog.info? 42 = some i ∧ i.zero = some (.agg #[.int .i64 0, .int .i64 0, .int .i64 0, .int .i64 0]) ∧ i.size = 4 ∧ i.bytes = 32 := by
  obtain ⟨i0, hi, hz0, hz1, hz2⟩ := info_parts infoA0
  exact ⟨i0, hi, hz0, hz1, hz2⟩
theorem arcs_rep (N : Nat) : arcsCells (List.replicate N zArc) = List.replicate (N * 4) (.int .i64 0) := by
  induction N with
  | zero => rfl
  | succ N ih =>
    rw [List.replicate_succ, show (N + 1) * 4 = N * 4 + 1 + 1 + 1 + 1 by omega]
    simp only [List.replicate_succ]
    rw [← ih]
    rfl
theorem made_arcs (N : Nat) : madeCells (Value.agg #[.int .i64 0, .int .i64 0, .int .i64 0, .int .i64 0]).cells (N * 4) = (arcsCells (List.replicate N zArc)).toArray := by
  rw [arcs_rep]
  apply Array.ext
  · simp [madeCells]
  · intro i h1 h2
    have h4 : i % 4 < 4 := Nat.mod_lt _ (by omega)
    simp only [madeCells, Array.getElem_map, Array.getElem_range, List.getElem_toArray, List.getElem_replicate]
    have hz : ∀ j, j < 4 → (Value.agg #[.int .i64 0, .int .i64 0, .int .i64 0, .int .i64 0]).cells[j]! = .int .i64 0 := fun j hj => by
      match j, hj with
      | 0, _ => rfl
      | 1, _ => rfl
      | 2, _ => rfl
      | 3, _ => rfl
    exact hz _ h4
set_option maxHeartbeats 4000000 in
set_option maxRecDepth 100000 in
theorem limits_walk (k : Nat) (w : World) (hk : k < 256) :
    Calls Try.prog 4 #[.int .u8 (k : Int)] w fun e w' => e = .returned (.bool true) ∧ Below w.heap.size w w' := by
  obtain ⟨r, hr⟩ : ∃ r, k % 3 = r := ⟨_, rfl⟩
  have hr3 : r < 3 := by rw [← hr]; exact Nat.mod_lt _ (by omega)
  have hw : wrap64 (k : Int) = (k : Int) := wr_in _ (by omega) (by omega)
  have ht : (wrap64 (k : Int)).tmod 3 = (r : Int) := by rw [hw, Int.tmod_eq_emod_of_nonneg (by omega)]; omega
  obtain ⟨N, hNr⟩ : ∃ N : Nat, N = 262143 + r := ⟨_, rfl⟩
  obtain ⟨Q, hQr⟩ : ∃ Q : Nat, Q = 4095 + r := ⟨_, rfl⟩
  have hN : wrap64 (262143 + (wrap64 (k : Int)).tmod 3) = (N : Int) := by rw [ht, wr_in _ (by omega) (by omega)]; omega
  have hQ : wrap64 (4095 + (wrap64 (k : Int)).tmod 3) = (Q : Int) := by rw [ht, wr_in _ (by omega) (by omega)]; omega
  have HNR := Lib.hid hNr
  have HQR := Lib.hid hQr
  have HNL : Hid (N ≤ 300000) := by unfold Hid; omega
  clear hw ht hk
  have HZ := Lib.hid (zeros_chk N)
  have HW := Lib.hid (wide_chk Q (by omega))
  have hmk := fun W => run_make_rowN (P := Try.prog) 22 42 infoAx.choose (.agg #[.int .i64 0, .int .i64 0, .int .i64 0, .int .i64 0]) Try.underlying22 infoAx.choose_spec.1 infoAx.choose_spec.2.1 .i64 .i64 N N (Nat.le_refl _) (by rw [infoAx.choose_spec.2.2.2]; omega) (by omega) W
  rw [infoAx.choose_spec.2.2.1, made_arcs] at hmk
  clear hNr hQr hr
  go_enter Try.func4, Try.ntmps4
  go_upto_region 2 with (fail)
  clear hmk hN
  generalize hw1 : World.alloc w _ = W1
  have HL1 : Hid (RdA W1 (.slice (some ⟨w.heap.size, 0, none⟩) N N) (List.replicate N zArc)) := by
    rw [← hw1]
    have h := rdA_row w _ rfl (List.replicate N zArc) (by rw [List.length_replicate]; have := HNL.out; omega)
    rw [List.length_replicate] at h
    exact h
  have HB1 : Hid (Below w.heap.size w W1) := by rw [← hw1]; exact al_below _ _
  have hs1 : W1.heap.size = w.heap.size + 1 := by rw [← hw1]; simp
  generalize hw2 : World.alloc W1 _ = W2
  have HX2 : Hid (Below W1.heap.size W1 W2) := by rw [← hw2]; exact al_below _ _
  have HP2a : Hid (FBlk W2 (w.heap.size + 1) (.int .i64 1) (.slice (some ⟨w.heap.size, 0, none⟩) N N) (.slice none 0 0)) := by rw [← hw2, ← hs1]; exact heap_alloc_new W1 _
  have hs2 : W2.heap.size = w.heap.size + 1 + 1 := by rw [← hw2, World.size_alloc, hs1]
  clear hw1 hw2
  obtain ⟨p0, p1, p2, _, _, _⟩ := HP2a.out.facts
  have hl1 := HP2a.out.lt
  go_upto_region 4 with (fail)
  clear p0 p1 p2 hl1
  generalize hw3 : World.alloc W2 _ = W
  have HX3 : Hid (Below W2.heap.size W2 W) := by rw [← hw3]; exact al_below _ _
  have HP2 : Hid (FBlk W (w.heap.size + 1 + 1) (.int .i64 (Q : Int)) (.slice none 0 0) (.slice none 0 0)) := by rw [← hw3, ← hs2]; exact heap_alloc_new W2 _
  have HP1 := Lib.hid (HP2a.out.below HX3.out)
  have HBW : Hid (Below w.heap.size w W) := bchain HB1.out (bchain HX2.out HX3.out)
  have HF1 : Hid (RdF W (.agg #[.int .i64 1, .slice (some ⟨w.heap.size, 0, none⟩) N N, .slice none 0 0]) (zerosF N)) := ⟨_, _, rfl, HL1.out.below (bchain HX2.out HX3.out), rdI_nil _⟩
  have HF2 : Hid (RdF W (.agg #[.int .i64 (Q : Int), .slice none 0 0, .slice none 0 0]) (wideF Q)) := ⟨_, _, rfl, rdA_nil _, rdI_nil _⟩
  clear hw3 hs1 hs2 HL1 HB1 HX2 HX3 HP2a hQ
  have HB0 : Hid (Below W.heap.size W W) := Below.refl _ _
  obtain ⟨p0, p1, p2, _, _, _⟩ := HP1.out.facts
  obtain ⟨q0, q1, q2, _, _, _⟩ := HP2.out.facts
  have hl1 := HP1.out.lt
  have hl2 := HP2.out.lt
  have hNr := HNR.out
  have hQr := HQR.out
  by_cases h2 : r = 2
  · have HZ1 : Hid (chk (zerosF N) = 11) := by rw [Hid, HZ.out, if_pos (by omega)]
    have HW1 : Hid (chk (wideF Q) = 2) := by rw [Hid, HW.out, if_pos (by omega)]
    have d1 : decide ((262144 : Int) < (N : Int)) = true := by simp; omega
    have d2 : decide ((4096 : Int) < (Q : Int)) = true := by simp; omega
    have d3 : decide (262144 < N) = true := by simp; omega
    have d4 : decide (4096 < Q) = true := by simp; omega
    clear h2 hNr hQr hr3
    go_wp2_with fail
    clear p0 p1 p2 q0 q1 q2 hl1 hl2
    refine (fcheck_any _ (zerosF N) _ (HF1.out.below HB0.out)).mono ?_
    rintro e Y1 ⟨rfl, hb⟩
    rw [HZ1.out]
    have HBY1 : Hid (Below W.heap.size W Y1) := bchain HB0.out hb
    clear hb
    obtain ⟨p0, p1, p2, _, _, _⟩ := (HP1.out.below HBY1.out).facts
    obtain ⟨q0, q1, q2, _, _, _⟩ := (HP2.out.below HBY1.out).facts
    have hl1 := (HP1.out.below HBY1.out).lt
    have hl2 := (HP2.out.below HBY1.out).lt
    go_wp2_with fail
    clear p0 p1 p2 q0 q1 q2 hl1 hl2
    refine (fcheck_any _ (zerosF N) _ (HF1.out.below HBY1.out)).mono ?_
    rintro e Y2 ⟨rfl, hb⟩
    rw [HZ1.out]
    have HBY2 : Hid (Below W.heap.size W Y2) := bchain HBY1.out hb
    clear hb
    obtain ⟨p0, p1, p2, _, _, _⟩ := (HP1.out.below HBY2.out).facts
    obtain ⟨q0, q1, q2, _, _, _⟩ := (HP2.out.below HBY2.out).facts
    have hl1 := (HP1.out.below HBY2.out).lt
    have hl2 := (HP2.out.below HBY2.out).lt
    go_wp2_with fail
    clear p0 p1 p2 q0 q1 q2 hl1 hl2
    refine (fcheck_any _ (wideF Q) _ (HF2.out.below HBY2.out)).mono ?_
    rintro e Y3 ⟨rfl, hb⟩
    rw [HW1.out]
    have HBY3 : Hid (Below W.heap.size W Y3) := bchain HBY2.out hb
    clear hb
    obtain ⟨p0, p1, p2, _, _, _⟩ := (HP1.out.below HBY3.out).facts
    obtain ⟨q0, q1, q2, _, _, _⟩ := (HP2.out.below HBY3.out).facts
    have hl1 := (HP1.out.below HBY3.out).lt
    have hl2 := (HP2.out.below HBY3.out).lt
    go_wp2_with fail
    clear p0 p1 p2 q0 q1 q2 hl1 hl2
    refine (fcheck_any _ (wideF Q) _ (HF2.out.below HBY3.out)).mono ?_
    rintro e Y4 ⟨rfl, hb⟩
    rw [HW1.out]
    have HBY4 : Hid (Below W.heap.size W Y4) := bchain HBY3.out hb
    clear hb
    obtain ⟨p0, p1, p2, _, _, _⟩ := (HP1.out.below HBY4.out).facts
    obtain ⟨q0, q1, q2, _, _, _⟩ := (HP2.out.below HBY4.out).facts
    have hl1 := (HP1.out.below HBY4.out).lt
    have hl2 := (HP2.out.below HBY4.out).lt
    go_wp2_with fail
    clear p0 p1 p2 q0 q1 q2 hl1 hl2
    refine (awake_any _).mono ?_
    rintro e wz ⟨rfl, hbz⟩
    have HBZ : Hid (Below w.heap.size w wz) := bchain HBW.out (bchain HBY4.out hbz)
    clear hbz
    go_wp2_with fail
    go_ret
    exact ⟨rfl, HBZ.out⟩
  · have HZ1 : Hid (chk (zerosF N) = 0) := by rw [Hid, HZ.out, if_neg (by omega)]
    have HW1 : Hid (chk (wideF Q) = 0) := by rw [Hid, HW.out, if_neg (by omega)]
    have d1 : decide ((262144 : Int) < (N : Int)) = false := by simp; omega
    have d2 : decide ((4096 : Int) < (Q : Int)) = false := by simp; omega
    have d3 : decide (262144 < N) = false := by simp; omega
    have d4 : decide (4096 < Q) = false := by simp; omega
    clear h2 hNr hQr hr3
    go_wp2_with fail
    clear p0 p1 p2 q0 q1 q2 hl1 hl2
    refine (fcheck_any _ (zerosF N) _ (HF1.out.below HB0.out)).mono ?_
    rintro e Y1 ⟨rfl, hb⟩
    rw [HZ1.out]
    have HBY1 : Hid (Below W.heap.size W Y1) := bchain HB0.out hb
    clear hb
    obtain ⟨p0, p1, p2, _, _, _⟩ := (HP1.out.below HBY1.out).facts
    obtain ⟨q0, q1, q2, _, _, _⟩ := (HP2.out.below HBY1.out).facts
    have hl1 := (HP1.out.below HBY1.out).lt
    have hl2 := (HP2.out.below HBY1.out).lt
    go_wp2_with fail
    clear p0 p1 p2 q0 q1 q2 hl1 hl2
    refine (fcheck_any _ (wideF Q) _ (HF2.out.below HBY1.out)).mono ?_
    rintro e Y2 ⟨rfl, hb⟩
    rw [HW1.out]
    have HBY2 : Hid (Below W.heap.size W Y2) := bchain HBY1.out hb
    clear hb
    obtain ⟨p0, p1, p2, _, _, _⟩ := (HP1.out.below HBY2.out).facts
    obtain ⟨q0, q1, q2, _, _, _⟩ := (HP2.out.below HBY2.out).facts
    have hl1 := (HP1.out.below HBY2.out).lt
    have hl2 := (HP2.out.below HBY2.out).lt
    go_wp2_with fail
    clear p0 p1 p2 q0 q1 q2 hl1 hl2
    refine (awake_any _).mono ?_
    rintro e wz ⟨rfl, hbz⟩
    have HBZ : Hid (Below w.heap.size w wz) := bchain HBW.out (bchain HBY2.out hbz)
    clear hbz
    go_wp2_with fail
    go_ret
    exact ⟨rfl, HBZ.out⟩
end Go.Proofs.Ytmejihlplbeekaa
