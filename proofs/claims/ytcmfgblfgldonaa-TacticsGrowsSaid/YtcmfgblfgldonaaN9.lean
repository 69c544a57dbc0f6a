/-
  The reference 23: sets as lists of marks: set, both, after.
-/
import Derived.Test.YtcmfgblfgldonaaN6
namespace Go.Proofs.Ytcmfgblfgldonaa
open Go.ChangeShapes Go.WideShapes Go.ChangeAt Go.RowKit
def bl (S m : Nat) : List Bool := (List.range S).map fun q => m.testBit q
theorem bl_len (S m : Nat) : (bl S m).length = S := by simp [bl]
theorem bl_get (S m q : Nat) (h : q < S) : (bl S m).getD q false = m.testBit q := by simp [bl, h]
theorem bl_zero (S : Nat) : bl S 0 = List.replicate S false := by
  apply List.ext_getElem
  · simp [bl]
  · intro i h1 h2; simp [bl]
theorem bl_set (S m q : Nat) : (bl S m).set q true = bl S (m ||| 1 <<< q) := by
  apply List.ext_getElem
  · simp [bl]
  · intro i h1 h2
    simp only [bl, List.length_set, List.length_map, List.length_range] at h1
    simp only [bl, List.getElem_set, List.getElem_map, List.getElem_range, Nat.testBit_or, Nat.one_shiftLeft, Nat.testBit_two_pow]
    by_cases e : q = i <;> simp [e]
/-- a list of marks in memory -/
def RB (w : World) (v : Value) (S m : Nat) : Prop := ∃ (b off c : Nat), v = .slice (some ⟨b, off, none⟩) S c ∧ S ≤ c ∧ c ≤ 9223372036854775807 ∧ b < w.heap.size ∧ ∀ q, q < S → w.cell? ⟨b, off + q, none⟩ = some (.bool (m.testBit q))
theorem RB.below {w w' : World} {v : Value} {S m : Nat} (h : RB w v S m) (hb : Below w.heap.size w w') : RB w' v S m := by
  obtain ⟨b, off, c, rfl, h1, h2, h3, h4⟩ := h
  exact ⟨b, off, c, rfl, h1, h2, by have := hb.size; omega, fun q hq => (hb.cell h3).trans (h4 q hq)⟩
theorem RB.of {w : World} {g S m : Nat} (h : Bls w g (bl S m)) (hS : S ≤ 24) : RB w (.slice (some ⟨g, 0, none⟩) S S) S m := by
  refine ⟨g, 0, S, rfl, Nat.le_refl _, by omega, h.lt, fun q hq => ?_⟩
  rw [Nat.zero_add, h.cell (by rw [bl_len]; exact hq), bl_get S m q hq]
theorem Bls.below {w w' : World} {g : Nat} {M : List Bool} (h : Bls w g M) (hb : Below w.heap.size w w') : Bls w' g M := (hb.block g h.lt).trans h
theorem Bls.other {w : World} {g g' j : Nat} {M : List Bool} {u : Value} (h : Bls w g M) (hne : g ≠ g') : Bls (w.setCell ⟨g', j, none⟩ u) g M := (Below.heap_setCell w ⟨g', j, none⟩ u g hne).trans h
theorem make_marks (S : Nat) (hS : S ≤ 24) (W : World) : (Instr.makeSlice 51 (.int .i64 (S : Int)) (.int .i64 (S : Int))).run Try.prog W = .ok (.slice (some ⟨W.heap.size, 0, none⟩) S S) (W.alloc (.cells (bArr (List.replicate S false)) 4)) := by
  obtain ⟨i0, hi, hz0, hz1, hz2⟩ := info_parts infoB0
  have h := run_make_rowN (P := Try.prog) 51 4 i0 (.bool false) Try.underlying51 hi hz0 .i64 .i64 S S (Nat.le_refl _) (by rw [hz2]; omega) (by omega) W
  rw [hz1, made_bools] at h
  exact h
theorem new_marks (W : World) (S : Nat) : Bls (W.alloc (.cells (bArr (List.replicate S false)) 4)) W.heap.size (bl S 0) := by rw [bl_zero]; exact heap_alloc_new W _
set_option maxHeartbeats 2000000 in
theorem set_any (v u : Value) (N : PNet) (S : Nat) (l : List Int) (w : World) (hv : RdN w v N) (hu : RdI w u l) (hS : N.states = (S : Int)) (hS24 : S ≤ 24) (hl : ∀ q, q ∈ l → 0 ≤ q ∧ q < (S : Int)) :
    Calls Try.prog 37 #[v, u] w fun e w' => (∃ vm, e = .returned vm ∧ RB w' vm S (finalF l)) ∧ Below w.heap.size w w' := by
  obtain ⟨vs, vf, rfl, hs, hf⟩ := hv
  obtain ⟨A1, n1, c1, rfl, _, _, _, _⟩ := hs.op
  obtain ⟨A2, n2, c2, rfl, _, _, _, _⟩ := hf.op
  obtain ⟨L1, nl, cl, rfl, h1, h2, HN, HR⟩ := hu.op
  have HL := Lib.hid hl
  rw [hS]
  have hmk := make_marks S hS24
  clear hs hf hS hu hl
  go_enter Try.func37, Try.ntmps37
  go_wp2_with fail
  generalize hW : World.alloc w _ = W
  have HBW : Hid (Below w.heap.size w W) := by rw [← hW]; repeat (first | assumption | exact Below.refl _ _ | refine Below.alloc ?_ (by first | omega | (simp; done) | (simp; omega)) _ | refine Below.drew ?_ | refine below_drewN ?_ _ | refine Below.setCell ?_ (by first | omega | (simp; done) | (simp; omega)) _)
  have hz : w.heap.size + 1 = W.heap.size := by rw [← hW]; simp
  simp only [hz]
  clear hW hz
  generalize hX : World.alloc W _ = X
  have HM0 : Hid (Bls X W.heap.size (bl S 0)) := by rw [← hX]; exact new_marks W S
  have HBX : Hid (Below W.heap.size W X) := by rw [← hX]; repeat (first | assumption | exact Below.refl _ _ | refine Below.alloc ?_ (by first | omega | (simp; done) | (simp; omega)) _ | refine Below.drew ?_ | refine below_drewN ?_ _ | refine Below.setCell ?_ (by first | omega | (simp; done) | (simp; omega)) _)
  obtain ⟨g, hg⟩ : ∃ g, W.heap.size = g := ⟨_, rfl⟩
  rw [hg] at HM0 HBX ⊢
  have HG := Lib.hid hg
  clear hX hmk hg
  go_loopw [6] (fun i wr => ∃ k : Nat, k ≤ nl ∧ i = .int .i64 k ∧ Hid (Bls wr g (bl S (finalF (l.take k)))) ∧ Hid (Below g W wr)) (fun i _ => nl - (intOf i).toNat)
  case atStart => exact ⟨0, Nat.zero_le _, rfl, HM0.out, HBX.out⟩
  case round =>
    obtain ⟨k, hk, rfl, HM, HB⟩ := hrel
    have HBR := Lib.hid (bchain HBW.out (by rw [HG.out]; exact HB.out))
    by_cases hlt : k < nl
    · obtain ⟨b, off, x, rfl, hb, hd, hck⟩ := (HR.out k hlt).below HBR.out
      obtain ⟨hx0, hx1⟩ := HL.out x (List.mem_of_mem_drop (by rw [hd.out]; exact List.mem_cons_self))
      obtain ⟨q, rfl⟩ : ∃ q : Nat, x = (q : Int) := ⟨x.toNat, by omega⟩
      have hqS : q < S := by omega
      have HF : Hid (finalF (l.take (k + 1)) = finalF (l.take k) ||| 1 <<< q) := by rw [Hid, take_of_dropI hd.out, finalF, List.foldl_append]; simp [withB, finalF]
      have hck2 := HM.out.cell (j := q) (by rw [bl_len]; exact hqS)
      have hfr := HM.out.free q
      have hgl := HM.out.lt
      go_wp2_with fail
      go_roundw
      case rel => exact ⟨k + 1, by omega, by go_num, by rw [Hid, HF.out, ← bl_set]; exact HM.out.set_ q, HB.out.setCell (p := ⟨g, q, none⟩) (Nat.le_refl _) _⟩
      case measure => simp [intOf]; omega
    · go_wp2_with fail
      go_ret
      refine ⟨⟨_, rfl, ?_⟩, HBR.out⟩
      have h := HM.out
      rw [List.take_of_length_le (by rw [HN.out]; omega)] at h
      exact RB.of h hS24
def bothB (a b S : Nat) : Bool := (List.range S).any fun q => a.testBit q && b.testBit q
theorem bothB_eq {a b S : Nat} (ha : a < 2 ^ S) : bothB a b S = ((a &&& b) != 0) := by
  rw [Bool.eq_iff_iff, bothB, List.any_eq_true]
  simp only [List.mem_range, Bool.and_eq_true, bne_iff_ne, ne_eq]
  constructor
  · rintro ⟨q, _, h1, h2⟩ h0
    have := congrArg (fun z => z.testBit q) h0
    simp [h1, h2] at this
  · intro h
    obtain ⟨q, hq⟩ := Nat.exists_testBit_of_ne_zero h
    rw [Nat.testBit_and, Bool.and_eq_true] at hq
    refine ⟨q, ?_, hq.1, hq.2⟩
    rcases Nat.lt_or_ge q S with h1 | h1
    · exact h1
    · have := Nat.testBit_lt_two_pow (Nat.lt_of_lt_of_le ha (Nat.pow_le_pow_right (by decide) h1))
      rw [this] at hq; cases hq.1
theorem both_any (v u : Value) (S a b : Nat) (w : World) (hv : RB w v S a) (hu : RB w u S b) (hS24 : S ≤ 24) (ha : a < 2 ^ S) :
    Calls Try.prog 35 #[v, u] w fun e w' => e = .returned (.bool ((a &&& b) != 0)) ∧ w = w' := by
  rw [← bothB_eq ha]
  obtain ⟨b1, o1, c1, rfl, h1, h2, h3, h4⟩ := hv
  obtain ⟨b2, o2, c2, rfl, k1, k2, k3, k4⟩ := hu
  have H4 := Lib.hid h4
  have K4 := Lib.hid k4
  clear h4 k4 ha
  go_enter Try.func35, Try.ntmps35
  go_wp2_with fail
  go_loop [5] (fun i => ∃ k : Nat, k ≤ S ∧ i = .int .i64 k ∧ Hid ((List.range k).any (fun q => a.testBit q && b.testBit q) = false)) (fun i => S - (intOf i).toNat)
  case atStart => exact ⟨0, Nat.zero_le _, rfl, rfl⟩
  case round =>
    obtain ⟨k, hk, rfl, HP⟩ := hrel
    by_cases hlt : k < S
    · have hc1 := H4.out k hlt
      have hc2 := K4.out k hlt
      have HA : Hid ((List.range (k + 1)).any (fun q => a.testBit q && b.testBit q) = (a.testBit k && b.testBit k)) := by rw [Hid, List.range_succ, List.any_append, HP.out]; simp
      have HM : Hid (a.testBit k = true → b.testBit k = true → bothB a b S = true) := by
        intro e1 e2
        rw [bothB, List.any_eq_true]
        exact ⟨k, by simp [hlt], by simp [e1, e2]⟩
      generalize a.testBit k = x at hc1 HA HM
      generalize b.testBit k = y at hc2 HA HM
      cases x
      · go_wp2_with fail
        go_round
        case rel => exact ⟨k + 1, by omega, by go_num, HA.out⟩
        case measure => simp [intOf]; omega
      · cases y
        · go_wp2_with fail
          go_round
          case rel => exact ⟨k + 1, by omega, by go_num, HA.out⟩
          case measure => simp [intOf]; omega
        · go_wp2_with fail
          go_ret
          exact ⟨by rw [HM.out (by trivial) (by trivial)]; rfl, rfl⟩
    · obtain rfl : k = S := by omega
      go_wp2_with fail
      go_ret
      exact ⟨by rw [bothB, HP.out]; rfl, rfl⟩
end Go.Proofs.Ytcmfgblfgldonaa
