/-
  The part of older texts that this seat needs (printed by shake.py): N9 N10 N11 N12 N19 N16 N20
-/
import Derived.Test.YtiopgbbggeimaaaGreatY4
import Derived.Laws.EntriesVeiled
/-
  The reference 23: sets as lists of marks: set, both, after.
-/
namespace Go.Proofs.YtiopgbbggeimaaaGreat
open Go.ChangeShapes Go.WideShapes Go.ChangeAt Go.RowKit
def bl (S m : Nat) : List Bool := (List.range S).map fun q => m.testBit q
theorem bl_len (S m : Nat) : (bl S m).length = S := by simp [bl]
theorem bl_get (S m q : Nat) (h : q < S) : (bl S m).getD q false = m.testBit q := by simp [bl, h]
theorem bl_zero (S : Nat) : bl S 0 = List.replicate S false := by
  apply List.ext_getElem
  · simp [bl]
  · intro i h1 h2; simp [bl]
theorem bl_set (S m q : Nat) : (bl S m).set q true = bl S (m ||| 1 <<< q) := by
  apply List.ext_getElem
  · simp [bl]
  · intro i h1 h2
    simp only [bl, List.length_set, List.length_map, List.length_range] at h1
    simp only [bl, List.getElem_set, List.getElem_map, List.getElem_range, Nat.testBit_or, Nat.one_shiftLeft, Nat.testBit_two_pow]
    by_cases e : q = i <;> simp [e]
/-- a list of marks in memory -/
def RB (w : World) (v : Value) (S m : Nat) : Prop := ∃ (b off c : Nat), v = .slice (some ⟨b, off, none⟩) S c ∧ S ≤ c ∧ c ≤ 9223372036854775807 ∧ b < w.heap.size ∧ ∀ q, q < S → w.cell? ⟨b, off + q, none⟩ = some (.bool (m.testBit q))
theorem RB.below {w w' : World} {v : Value} {S m : Nat} (h : RB w v S m) (hb : Below w.heap.size w w') : RB w' v S m := by
  obtain ⟨b, off, c, rfl, h1, h2, h3, h4⟩ := h
  exact ⟨b, off, c, rfl, h1, h2, by have := hb.size; omega, fun q hq => (hb.cell h3).trans (h4 q hq)⟩
theorem RB.of {w : World} {g S m : Nat} (h : Bls w g (bl S m)) (hS : S ≤ 24) : RB w (.slice (some ⟨g, 0, none⟩) S S) S m := by
  refine ⟨g, 0, S, rfl, Nat.le_refl _, by omega, h.lt, fun q hq => ?_⟩
  rw [Nat.zero_add, h.cell (by rw [bl_len]; exact hq), bl_get S m q hq]
theorem Bls.below {w w' : World} {g : Nat} {M : List Bool} (h : Bls w g M) (hb : Below w.heap.size w w') : Bls w' g M := (hb.block g h.lt).trans h
theorem Bls.other {w : World} {g g' j : Nat} {M : List Bool} {u : Value} (h : Bls w g M) (hne : g ≠ g') : Bls (w.setCell ⟨g', j, none⟩ u) g M := (Below.heap_setCell w ⟨g', j, none⟩ u g hne).trans h
theorem make_marks (S : Nat) (hS : S ≤ 24) (W : World) : (Instr.makeSlice 126 (.int .i64 (S : Int)) (.int .i64 (S : Int))).run Tryz.prog W = .ok (.slice (some ⟨W.heap.size, 0, none⟩) S S) (W.alloc (.cells (bArr (List.replicate S false)) 4)) := by
  obtain ⟨i0, hi, hz0, hz1, hz2⟩ := info_parts infoB0
  have h := run_make_rowN (P := Tryz.prog) 126 4 i0 (.bool false) Tryz.underlying126 hi hz0 .i64 .i64 S S (Nat.le_refl _) (by rw [hz2]; omega) (by omega) W
  rw [hz1, made_bools] at h
  exact h
theorem new_marks (W : World) (S : Nat) : Bls (W.alloc (.cells (bArr (List.replicate S false)) 4)) W.heap.size (bl S 0) := by rw [bl_zero]; exact heap_alloc_new W _
set_option maxHeartbeats 2000000 in
theorem set_any (v u : Value) (N : PNet) (S : Nat) (l : List Int) (w : World) (hv : RdN w v N) (hu : RdI w u l) (hS : N.states = (S : Int)) (hS24 : S ≤ 24) (hl : ∀ q, q ∈ l → 0 ≤ q ∧ q < (S : Int)) :
    Calls Tryz.prog 63 #[v, u] w fun e w' => (∃ vm, e = .returned vm ∧ RB w' vm S (finalF l)) ∧ Below w.heap.size w w' := by
  obtain ⟨vs, vf, rfl, hs, hf⟩ := hv
  obtain ⟨A1, n1, c1, rfl, _, _, _, _⟩ := hs.op
  obtain ⟨A2, n2, c2, rfl, _, _, _, _⟩ := hf.op
  obtain ⟨L1, nl, cl, rfl, h1, h2, HN, HR⟩ := hu.op
  have HL := Lib.hid hl
  rw [hS]
  have hmk := make_marks S hS24
  clear hs hf hS hu hl
  go_enter Tryz.func63, Tryz.ntmps63
  go_wp2_with fail
  generalize hW : World.alloc w _ = W
  have HBW : Hid (Below w.heap.size w W) := by rw [← hW]; repeat (first | assumption | exact Below.refl _ _ | refine Below.alloc ?_ (by first | omega | (simp; done) | (simp; omega)) _ | refine Below.drew ?_ | refine below_drewN ?_ _ | refine Below.setCell ?_ (by first | omega | (simp; done) | (simp; omega)) _)
  have hz : w.heap.size + 1 = W.heap.size := by rw [← hW]; simp
  simp only [hz]
  clear hW hz
  generalize hX : World.alloc W _ = X
  have HM0 : Hid (Bls X W.heap.size (bl S 0)) := by rw [← hX]; exact new_marks W S
  have HBX : Hid (Below W.heap.size W X) := by rw [← hX]; repeat (first | assumption | exact Below.refl _ _ | refine Below.alloc ?_ (by first | omega | (simp; done) | (simp; omega)) _ | refine Below.drew ?_ | refine below_drewN ?_ _ | refine Below.setCell ?_ (by first | omega | (simp; done) | (simp; omega)) _)
  obtain ⟨g, hg⟩ : ∃ g, W.heap.size = g := ⟨_, rfl⟩
  rw [hg] at HM0 HBX ⊢
  have HG := Lib.hid hg
  clear hX hmk hg
  go_loopw [6] (fun i wr => ∃ k : Nat, k ≤ nl ∧ i = .int .i64 k ∧ Hid (Bls wr g (bl S (finalF (l.take k)))) ∧ Hid (Below g W wr)) (fun i _ => nl - (intOf i).toNat)
  case atStart => exact ⟨0, Nat.zero_le _, rfl, HM0.out, HBX.out⟩
  case round =>
    obtain ⟨k, hk, rfl, HM, HB⟩ := hrel
    have HBR := Lib.hid (bchain HBW.out (by rw [HG.out]; exact HB.out))
    by_cases hlt : k < nl
    · obtain ⟨b, off, x, rfl, hb, hd, hck⟩ := (HR.out k hlt).below HBR.out
      obtain ⟨hx0, hx1⟩ := HL.out x (List.mem_of_mem_drop (by rw [hd.out]; exact List.mem_cons_self))
      obtain ⟨q, rfl⟩ : ∃ q : Nat, x = (q : Int) := ⟨x.toNat, by omega⟩
      have hqS : q < S := by omega
      have HF : Hid (finalF (l.take (k + 1)) = finalF (l.take k) ||| 1 <<< q) := by rw [Hid, take_of_dropI hd.out, finalF, List.foldl_append]; simp [withB, finalF]
      have hck2 := HM.out.cell (j := q) (by rw [bl_len]; exact hqS)
      have hfr := HM.out.free q
      have hgl := HM.out.lt
      go_wp2_with fail
      go_roundw
      case rel => exact ⟨k + 1, by omega, by go_num, by rw [Hid, HF.out, ← bl_set]; exact HM.out.set_ q, HB.out.setCell (p := ⟨g, q, none⟩) (Nat.le_refl _) _⟩
      case measure => simp [intOf]; omega
    · go_wp2_with fail
      go_ret
      refine ⟨⟨_, rfl, ?_⟩, HBR.out⟩
      have h := HM.out
      rw [List.take_of_length_le (by rw [HN.out]; omega)] at h
      exact RB.of h hS24
def bothB (a b S : Nat) : Bool := (List.range S).any fun q => a.testBit q && b.testBit q
theorem bothB_eq {a b S : Nat} (ha : a < 2 ^ S) : bothB a b S = ((a &&& b) != 0) := by
  rw [Bool.eq_iff_iff, bothB, List.any_eq_true]
  simp only [List.mem_range, Bool.and_eq_true, bne_iff_ne, ne_eq]
  constructor
  · rintro ⟨q, _, h1, h2⟩ h0
    have := congrArg (fun z => z.testBit q) h0
    simp [h1, h2] at this
  · intro h
    obtain ⟨q, hq⟩ := Nat.exists_testBit_of_ne_zero h
    rw [Nat.testBit_and, Bool.and_eq_true] at hq
    refine ⟨q, ?_, hq.1, hq.2⟩
    rcases Nat.lt_or_ge q S with h1 | h1
    · exact h1
    · have := Nat.testBit_lt_two_pow (Nat.lt_of_lt_of_le ha (Nat.pow_le_pow_right (by decide) h1))
      rw [this] at hq; cases hq.1
theorem both_any (v u : Value) (S a b : Nat) (w : World) (hv : RB w v S a) (hu : RB w u S b) (hS24 : S ≤ 24) (ha : a < 2 ^ S) :
    Calls Tryz.prog 61 #[v, u] w fun e w' => e = .returned (.bool ((a &&& b) != 0)) ∧ w = w' := by
  rw [← bothB_eq ha]
  obtain ⟨b1, o1, c1, rfl, h1, h2, h3, h4⟩ := hv
  obtain ⟨b2, o2, c2, rfl, k1, k2, k3, k4⟩ := hu
  have H4 := Lib.hid h4
  have K4 := Lib.hid k4
  clear h4 k4 ha
  go_enter Tryz.func61, Tryz.ntmps61
  go_wp2_with fail
  go_loop [5] (fun i => ∃ k : Nat, k ≤ S ∧ i = .int .i64 k ∧ Hid ((List.range k).any (fun q => a.testBit q && b.testBit q) = false)) (fun i => S - (intOf i).toNat)
  case atStart => exact ⟨0, Nat.zero_le _, rfl, rfl⟩
  case round =>
    obtain ⟨k, hk, rfl, HP⟩ := hrel
    by_cases hlt : k < S
    · have hc1 := H4.out k hlt
      have hc2 := K4.out k hlt
      have HA : Hid ((List.range (k + 1)).any (fun q => a.testBit q && b.testBit q) = (a.testBit k && b.testBit k)) := by rw [Hid, List.range_succ, List.any_append, HP.out]; simp
      have HM : Hid (a.testBit k = true → b.testBit k = true → bothB a b S = true) := by
        intro e1 e2
        rw [bothB, List.any_eq_true]
        exact ⟨k, by simp [hlt], by simp [e1, e2]⟩
      generalize a.testBit k = x at hc1 HA HM
      generalize b.testBit k = y at hc2 HA HM
      cases x
      · go_wp2_with fail
        go_round
        case rel => exact ⟨k + 1, by omega, by go_num, HA.out⟩
        case measure => simp [intOf]; omega
      · cases y
        · go_wp2_with fail
          go_round
          case rel => exact ⟨k + 1, by omega, by go_num, HA.out⟩
          case measure => simp [intOf]; omega
        · go_wp2_with fail
          go_ret
          exact ⟨by rw [HM.out (by trivial) (by trivial)]; rfl, rfl⟩
    · obtain rfl : k = S := by omega
      go_wp2_with fail
      go_ret
      exact ⟨by rw [bothB, HP.out]; rfl, rfl⟩
end Go.Proofs.YtiopgbbggeimaaaGreat

/-
  The reference 23: after, reached.
-/
namespace Go.Proofs.YtiopgbbggeimaaaGreat
open Go.ChangeShapes Go.WideShapes Go.ChangeAt Go.RowKit
def cOk (c : Int) (s : PStep) : Bool := (c == 0) || (s.cls == c)
def afterR (L : List PStep) (m : Nat) (c : Int) : Nat := L.foldl (fun o s => if bitI m s.fr && cOk c s then withB o s.tgt else o) 0
theorem afterR_bit (L : List PStep) (m : Nat) (c : Int) (q : Nat) : (afterR L m c).testBit q = L.any fun s => (bitI m s.fr && cOk c s) && decide (s.tgt.toNat = q) := by
  rw [afterR, fold_bit (fun s => bitI m s.fr && cOk c s)]
  simp
theorem afterR_eq (L : List PStep) (m : Nat) (c : Int) (hc : c ≠ 0) : afterR L m c = afterF L m c := by
  refine Nat.eq_of_testBit_eq fun q => ?_
  rw [afterR_bit, after_bit]
  congr 1
  funext s
  have : cOk c s = decide (s.cls = c) := by by_cases h : s.cls = c <;> simp [cOk, hc, h]
  rw [this, Bool.and_assoc]
set_option maxHeartbeats 4000000 in
set_option maxRecDepth 100000 in
theorem rafter_any (v u : Value) (N : PNet) (S m : Nat) (c : Int) (w : World) (hv : RdN w v N) (hu : RB w u S m) (hG : GoodN N) (hS : N.states = (S : Int)) :
    Calls Tryz.prog 95 #[v, u, .int .i64 c] w fun e w' => (∃ vm, e = .returned vm ∧ ∃ g, vm = .slice (some ⟨g, 0, none⟩) S S ∧ w.heap.size ≤ g ∧ Bls w' g (bl S (afterR N.steps m c))) ∧ Below w.heap.size w w' := by
  obtain ⟨vs, vf, rfl, hs, hf⟩ := hv
  obtain ⟨A1, n1, c1, rfl, _, _, HN, HR⟩ := hs.op
  obtain ⟨A2, n2, c2, rfl, _, _, _, _⟩ := hf.op
  obtain ⟨bu, ou, cu, rfl, hu1, hu2, hu3, hu4⟩ := hu
  have HU := Lib.hid hu4
  have hS24 : S ≤ 24 := by have := hG.s2; omega
  have HS' := Lib.hid hS
  rw [hS]
  have hmk := make_marks S hS24
  clear hs hf hS hu4
  go_enter Tryz.func95, Tryz.ntmps95
  go_wp2_with fail
  generalize hW : World.alloc w _ = W
  have HBW : Hid (Below w.heap.size w W) := by rw [← hW]; repeat (first | assumption | exact Below.refl _ _ | refine Below.alloc ?_ (by first | omega | (simp; done) | (simp; omega)) _ | refine Below.drew ?_ | refine below_drewN ?_ _ | refine Below.setCell ?_ (by first | omega | (simp; done) | (simp; omega)) _)
  have HNB : Hid (NBlk W w.heap.size (.int .i64 S) (.slice A1 n1 c1) (.slice A2 n2 c2)) := by rw [← hW]; exact heap_alloc_new w _
  have hz : w.heap.size + 1 = W.heap.size := by rw [← hW]; simp
  simp only [hz]
  have hwW : w.heap.size < W.heap.size := by omega
  clear hW hz
  generalize hX : World.alloc W _ = X
  have HM0 : Hid (Bls X W.heap.size (bl S 0)) := by rw [← hX]; exact new_marks W S
  have HBX : Hid (Below W.heap.size W X) := by rw [← hX]; repeat (first | assumption | exact Below.refl _ _ | refine Below.alloc ?_ (by first | omega | (simp; done) | (simp; omega)) _ | refine Below.drew ?_ | refine below_drewN ?_ _ | refine Below.setCell ?_ (by first | omega | (simp; done) | (simp; omega)) _)
  obtain ⟨g, hg⟩ : ∃ g, W.heap.size = g := ⟨_, rfl⟩
  rw [hg] at HM0 HBX hwW ⊢
  have HG := Lib.hid hg
  clear hX hmk hg
  go_loopw [8] (fun i wr => ∃ k : Nat, k ≤ n1 ∧ i = .int .i64 k ∧ Hid (Bls wr g (bl S (afterR (N.steps.take k) m c))) ∧ Hid (Below g W wr)) (fun i _ => n1 - (intOf i).toNat)
  case atStart => exact ⟨0, Nat.zero_le _, rfl, HM0.out, HBX.out⟩
  case round =>
    obtain ⟨k, hk, rfl, HM, HB⟩ := hrel
    have HBR := Lib.hid (bchain HBW.out (by rw [HG.out]; exact HB.out))
    obtain ⟨p0, p1, p2, hpl⟩ := (HNB.out.below (by rw [HG.out]; exact HB.out)).facts
    by_cases hlt : k < n1
    · obtain ⟨b, off, x0, x1, x2, rfl, hb, hd, e0, e1, e2⟩ := (HR.out k hlt).below HBR.out
      have hok := hG.step _ (List.mem_of_mem_drop (by rw [hd.out]; exact List.mem_cons_self))
      obtain ⟨y0, y1, y2, y3, _, _⟩ := hok
      simp only at y0 y1 y2 y3
      obtain ⟨q0, rfl⟩ : ∃ q : Nat, x0 = (q : Int) := ⟨x0.toNat, by omega⟩
      obtain ⟨q2, rfl⟩ : ∃ q : Nat, x2 = (q : Int) := ⟨x2.toNat, by omega⟩
      have hq0 : q0 < S := by have := HS'.out; omega
      have hq2 : q2 < S := by have := HS'.out; omega
      clear y0 y1 y2 y3
      have HF : Hid (afterR (N.steps.take (k + 1)) m c = if m.testBit q0 && ((c == 0) || (x1 == c)) then afterR (N.steps.take k) m c ||| 1 <<< q2 else afterR (N.steps.take k) m c) := by
        rw [Hid, take_of_dropS hd.out, afterR, List.foldl_append]; simp [withB, afterR, bitI, cOk]
      have hcu := ((bchain HBW.out (by rw [HG.out]; exact HB.out)).cell (p := ⟨bu, ou + q0, none⟩) hu3).trans (HU.out q0 hq0)
      have hbul : bu < wr.heap.size := by have := HBR.out.size; omega
      generalize m.testBit q0 = bt at hcu HF
      have HMl := Lib.hid HM.out.lt
      cases bt
      · have HF2 : Hid (afterR (N.steps.take (k + 1)) m c = afterR (N.steps.take k) m c) := HF.out
        go_wp2_with fail
        go_roundw
        case rel => exact ⟨k + 1, by omega, by go_num, by rw [Hid, HF2.out]; exact HM.out.alloc _, HB.out.alloc (by have := HMl.out; omega) _⟩
        case measure => simp [intOf]; omega
      · cases hcc : ((c == 0) || (x1 == c))
        · have HF2 : Hid (afterR (N.steps.take (k + 1)) m c = afterR (N.steps.take k) m c) := by rw [Hid, HF.out, hcc]; rfl
          simp only [Bool.or_eq_false_iff] at hcc
          obtain ⟨hc0, hc1⟩ := hcc
          go_wp2_with fail
          go_roundw
          case rel => exact ⟨k + 1, by omega, by go_num, by rw [Hid, HF2.out]; exact HM.out.alloc _, HB.out.alloc (by have := HMl.out; omega) _⟩
          case measure => simp [intOf]; omega
        · have HF2 : Hid (afterR (N.steps.take (k + 1)) m c = afterR (N.steps.take k) m c ||| 1 <<< q2) := by rw [Hid, HF.out, hcc]; rfl
          have hck2 := HM.out.cell (j := q2) (by rw [bl_len]; exact hq2)
          have hfr := HM.out.free q2
          have hgl := HM.out.lt
          have hI1 : (0 : Int) ≤ (q2 : Int) := by omega
          cases hc0 : (c == 0)
          · have hc1 : (x1 == c) = true := by rw [hc0] at hcc; simpa using hcc
            clear hcc
            go_wp2_with fail
            go_roundw
            case rel => exact ⟨k + 1, by omega, by go_num, by rw [Hid, HF2.out, ← bl_set]; exact (HM.out.set_ q2).alloc _, (HB.out.setCell (p := ⟨g, q2, none⟩) (Nat.le_refl _) _).alloc (by have := HMl.out; simp; omega) _⟩
            case measure => simp [intOf]; omega
          · clear hcc
            go_wp2_with fail
            go_roundw
            case rel => exact ⟨k + 1, by omega, by go_num, by rw [Hid, HF2.out, ← bl_set]; exact (HM.out.set_ q2).alloc _, (HB.out.setCell (p := ⟨g, q2, none⟩) (Nat.le_refl _) _).alloc (by have := HMl.out; simp; omega) _⟩
            case measure => simp [intOf]; omega
    · go_wp2_with fail
      go_ret
      refine ⟨⟨_, rfl, g, rfl, by have := HBW.out.size; have := HG.out; omega, ?_⟩, HBR.out⟩
      have h := HM.out
      rwa [List.take_of_length_le (by rw [HN.out]; omega)] at h
/-- marks of which the first j have been joined with those of M -/
def mixB (S a M j : Nat) : List Bool := (List.range S).map fun q => a.testBit q || (decide (q < j) && M.testBit q)
end Go.Proofs.YtiopgbbggeimaaaGreat

/-
  The reference 23: ends, run, Accepts, Follow.
-/
namespace Go.Proofs.YtiopgbbggeimaaaGreat
open Go.ChangeShapes Go.WideShapes Go.ChangeAt Go.RowKit
theorem rd_new1 (w : World) (g : Nat) (hg : w.heap.size = g) (x : Int) : RdI (w.alloc (.cells #[.int .i64 x] 3)) (.slice (some ⟨g, 0, none⟩) 1 1) [x] := by
  subst hg
  refine ⟨_, 1, rfl, Nat.le_refl _, by decide, rfl, fun _ => ⟨w.heap.size, 0, rfl, by simp, fun j u hu => ?_⟩⟩
  rw [cell_of_row _ _ _ _ _ (0, 0) (heap_alloc_new w _)]
  simpa using hu
theorem finalF_one (q : Nat) : finalF [(q : Int)] = 1 <<< q := by simp [finalF, withB]
theorem after_none {N : PNet} (hG : GoodN N) (m : Nat) (c : Int) (hc : c < 1) : afterF N.steps m c = 0 := by
  refine Nat.eq_of_testBit_eq fun q => ?_
  rw [after_bit, Nat.zero_testBit, List.any_eq_false]
  intro s hs
  have := (hG.step s hs).c0
  have hne : ¬ s.cls = c := by omega
  simp [hne]
theorem after_zero (L : List PStep) (c : Int) : afterF L 0 c = 0 := by
  refine Nat.eq_of_testBit_eq fun q => ?_
  rw [after_bit, Nat.zero_testBit, List.any_eq_false]
  intro s _
  simp [bitI]
theorem runF_zero (L : List PStep) (l : List Int) : runF L 0 l = 0 := by
  induction l with
  | nil => rfl
  | cons c l ih => rw [runF, List.foldl_cons, after_zero]; exact ih
theorem runF_split (L : List PStep) (m : Nat) (l : List Int) (k : Nat) : runF L m l = runF L (runF L m (l.take k)) (l.drop k) := by
  have h : l = l.take k ++ l.drop k := (List.take_append_drop k l).symm
  conv => lhs; rw [h]
  rw [runF, List.foldl_append]; rfl
set_option maxHeartbeats 4000000 in
set_option maxRecDepth 100000 in
theorem rrun_any (v u : Value) (N : PNet) (S : Nat) (l : List Int) (w : World) (hv : RdN w v N) (hu : RdI w u l) (hG : GoodN N) (hS : N.states = (S : Int)) :
    Calls Tryz.prog 62 #[v, u] w fun e w' => (∃ vm, e = .returned vm ∧ RB w' vm S (runF N.steps 1 l)) ∧ Below w.heap.size w w' := by
  have HV := Lib.hid hv
  obtain ⟨vs, vf, rfl, hs, hf⟩ := hv
  obtain ⟨A1, n1, c1, rfl, _, _, _, _⟩ := hs.op
  obtain ⟨A2, n2, c2, rfl, _, _, _, _⟩ := hf.op
  obtain ⟨L1, nl, cl, rfl, _, _, HN, HR⟩ := hu.op
  have hS24 : S ≤ 24 := by have := hG.s2; omega
  have HS' := Lib.hid hS
  have HO1 : Hid (∀ q, q ∈ [(((0 : Nat) : Int))] → 0 ≤ q ∧ q < (S : Int)) := by intro q hq; simp at hq; have := hG.s1; omega
  rw [hS] at HV ⊢
  have hmk := make_marks S hS24
  have HMK := Lib.hid hmk
  clear hs hf hS hu hmk
  go_enter Tryz.func62, Tryz.ntmps62
  go_wp2_with fail
  generalize hW : World.alloc w _ = W
  have HBW : Hid (Below w.heap.size w W) := by rw [← hW]; repeat (first | assumption | exact Below.refl _ _ | refine Below.alloc ?_ (by first | omega | (simp; done) | (simp; omega)) _ | refine Below.drew ?_ | refine below_drewN ?_ _ | refine Below.setCell ?_ (by first | omega | (simp; done) | (simp; omega)) _)
  have HNB : Hid (NBlk W w.heap.size (.int .i64 S) (.slice A1 n1 c1) (.slice A2 n2 c2)) := by rw [← hW]; exact heap_alloc_new w _
  have hz : w.heap.size + 1 = W.heap.size := by rw [← hW]; simp
  simp only [hz]
  clear hW hz
  have HR1 := Lib.hid (rd_new1 W _ rfl (((0 : Nat) : Int)))
  have HBX0 : Hid (Below W.heap.size W (W.alloc (.cells #[.int .i64 0] 3))) := by repeat (first | assumption | exact Below.refl _ _ | refine Below.alloc ?_ (by first | omega | (simp; done) | (simp; omega)) _ | refine Below.drew ?_ | refine below_drewN ?_ _ | refine Below.setCell ?_ (by first | omega | (simp; done) | (simp; omega)) _)
  generalize hX : World.alloc W _ = X0
  have HR1' : Hid (RdI X0 (.slice (some ⟨W.heap.size, 0, none⟩) 1 1) [((0 : Nat) : Int)]) := by rw [← hX]; exact HR1.out
  rw [hX] at HBX0
  clear hX HR1
  refine (set_any _ _ N S [((0 : Nat) : Int)] _ (HV.out.below (bchain HBW.out HBX0.out)) HR1'.out HS'.out hS24 HO1.out).mono ?_
  rintro e Y1 ⟨⟨vm, rfl, hm⟩, hb⟩
  rw [finalF_one] at hm
  have HM := Lib.hid hm
  have HBY := Lib.hid (bchain HBX0.out hb)
  obtain ⟨b0, o0, c0, rfl, _, _, _, _⟩ := hm
  clear hb HR1'
  go_wp2_with fail
  go_loopw [5, 6] (fun u i wr => ∃ (k b o c : Nat), k ≤ nl ∧ i = .int .i64 k ∧ u = .slice (some ⟨b, o, none⟩) S c ∧ Hid (RB wr (.slice (some ⟨b, o, none⟩) S c) S (runF N.steps 1 (l.take k))) ∧ Hid (Below W.heap.size W wr)) (fun _ i _ => nl - (intOf i).toNat)
  case atStart => exact ⟨0, _, _, _, Nat.zero_le _, rfl, rfl, HM.out, HBY.out⟩
  case round =>
    obtain ⟨k, b, o, c, hk, rfl, rfl, HRB, HB⟩ := hrel
    obtain ⟨p0, p1, p2, hpl⟩ := (HNB.out.below HB.out).facts
    by_cases hlt : k < nl
    · obtain ⟨bb, off, x, rfl, hbb, hd, hck⟩ := HR.out k hlt
      have HCK := Lib.hid hck
      have hckr := ((bchain HBW.out HB.out).cell (p := ⟨bb, off + k, none⟩) hbb).trans hck
      have HRS := Lib.hid (runF_split N.steps 1 l k)
      have HRT : Hid (runF N.steps 1 (l.take (k + 1)) = afterF N.steps (runF N.steps 1 (l.take k)) x) := by rw [Hid, take_of_dropI hd.out, runF, List.foldl_append]; rfl
      have HDR := Lib.hid hd.out
      clear hck
      by_cases hx1 : x < 1
      · have d1 : decide (x < 1) = true := by simpa using hx1
        have HZ : Hid (runF N.steps 1 l = 0) := by
          rw [Hid, HRS.out, HDR.out, runF, List.foldl_cons, after_none hG _ _ hx1]
          exact runF_zero _ _
        have hmk := HMK.out
        go_wp2_with fail
        go_ret
        refine ⟨⟨_, rfl, ?_⟩, ?_⟩
        · rw [HZ.out]; exact RB.of (new_marks wr S) hS24
        · exact (bchain HBW.out HB.out).alloc (bchain HBW.out HB.out).size _
      · have d1 : decide (x < 1) = false := by simpa using hx1
        have HAE := Lib.hid (afterR_eq N.steps (runF N.steps 1 (l.take k)) x (by omega))
        have hk0 : (0 : Int) ≤ (k : Int) := by omega
        have hk1 : (k : Int) < (nl : Int) := by omega
        go_wp2_with fail
        clear p0 p1 p2 hckr d1
        refine wp_region_ord 6 [0, 1, 2, 3, 4, 5] [] [0, 1, 2, 3, 4, 5] [6, 7] (fun w' => Below wr.heap.size wr w') (by kernel_rfl) (by kernel_rfl) ?_
        rintro D hD
        have HSD : Hid (Below wr.heap.size wr D) := by rw [hD]; exact (Below.refl _ _).drew
        clear hD
        refine ⟨HSD.out, ?_⟩
        have HS : Hid (∀ w' : World, Below wr.heap.size wr w' → w'.cell? ⟨w.heap.size, 0, none⟩ = some (.int .i64 S) ∧ w'.cell? ⟨w.heap.size, 1, none⟩ = some (.slice A1 n1 c1) ∧ w'.cell? ⟨w.heap.size, 2, none⟩ = some (.slice A2 n2 c2) ∧ w'.cell? ⟨bb, off + k, none⟩ = some (.int .i64 x)) := by
          intro w' h
          obtain ⟨f0, f1, f2, _⟩ := (HNB.out.below (bchain HB.out h)).facts
          exact ⟨f0, f1, f2, ((bchain HBW.out (bchain HB.out h)).cell (p := ⟨bb, off + k, none⟩) hbb).trans HCK.out⟩
        iterate 6 (refine wpHead_cons (v := ?_) rfl rfl (fun w' hS => ?_) ?_; rotate_left; (focus ((try obtain ⟨s0, s1, s2, s3⟩ := HS.out _ (hS rfl)); clear hS; go_simp; try with_reducible rfl; done)); (try simp only [Act.put, List.setIfInBounds_toArray, List.set_cons_zero, List.set_cons_succ]))
        refine wpHead_nil ?_
        clear hk0 hk1
        refine wpTail_cons rfl rfl (fun K hK => ?_)
        go_simp
        refine (rafter_any _ _ N S _ x _ (HV.out.below (bchain HBW.out (bchain HB.out HSD.out))) (HRB.out.below HSD.out) hG HS'.out).mono ?_
        rintro e Y2 ⟨⟨vm, rfl, g2, rfl, _, hM⟩, hb⟩
        have HM2 : Hid (RB Y2 (.slice (some ⟨g2, 0, none⟩) S S) S (runF N.steps 1 (l.take (k + 1)))) := by rw [Hid, HRT.out, ← HAE.out]; exact RB.of hM hS24
        refine hK.out _ _ (fun h => absurd h (by decide)) ?_
        clear hK K hM
        (try simp only [Act.put, List.setIfInBounds_toArray, List.set_cons_zero, List.set_cons_succ])
        have HB2 := Lib.hid (bchain HB.out (bchain HSD.out hb))
        clear hb
        refine wpTail_rest 7 rfl ?_
        simp only [List.drop_succ_cons, List.drop_zero]
        go_wp2_with fail
        refine NoPanic.normal ?_
        go_wp2_with fail
        go_roundw
        case rel => exact ⟨k + 1, _, _, _, by omega, by go_num, rfl, HM2.out, HB2.out⟩
        case measure => simp [intOf]; omega
    · go_wp2_with fail
      go_ret
      refine ⟨⟨_, rfl, ?_⟩, bchain HBW.out HB.out⟩
      have h := HRB.out
      rwa [List.take_of_length_le (by rw [HN.out]; omega)] at h
end Go.Proofs.YtiopgbbggeimaaaGreat

/-
  The reference 23: Accepts, Follow, Classes.
-/
namespace Go.Proofs.YtiopgbbggeimaaaGreat
open Go.ChangeShapes Go.WideShapes Go.ChangeAt Go.RowKit
set_option maxHeartbeats 2000000 in
theorem raccepts_any (v u : Value) (N : PNet) (S : Nat) (l : List Int) (w : World) (hv : RdN w v N) (hu : RdI w u l) (hG : GoodN N) (hS : N.states = (S : Int)) :
    Calls Tryz.prog 27 #[v, u] w fun e w' => e = .returned (.bool (accF N l)) ∧ Below w.heap.size w w' := by
  have HV := Lib.hid hv
  obtain ⟨vs, vf, rfl, hs, hf⟩ := hv
  have HF := Lib.hid hf
  obtain ⟨A1, n1, c1, rfl, _, _, _, _⟩ := hs.op
  obtain ⟨A2, n2, c2, rfl, _, _, _, _⟩ := hf.op
  have hS24 : S ≤ 24 := by have := hG.s2; omega
  have HS' := Lib.hid hS
  have HFI : Hid (∀ q, q ∈ N.final → 0 ≤ q ∧ q < (S : Int)) := fun q hq => by have := hG.fin q hq; omega
  have HO1 : Hid (∀ q, q ∈ [(((0 : Nat) : Int))] → 0 ≤ q ∧ q < (S : Int)) := by intro q hq; simp at hq; have := hG.s1; omega
  have H1S : Hid ((1 : Nat) < 2 ^ S) := by have := hG.s1; exact Nat.one_lt_two_pow (by omega)
  rw [hS] at HV ⊢
  clear hs hf hS
  obtain ⟨L1, nl, cl, rfl, _, _, _, _⟩ := hu.op
  have HU := Lib.hid hu
  have HRL := Lib.hid (runF_lt hG HS'.out l 1 H1S.out)
  clear hu
  go_enter Tryz.func27, Tryz.ntmps27
  go_wp2_with fail
  generalize hW : World.alloc w _ = W
  have HBW : Hid (Below w.heap.size w W) := by rw [← hW]; repeat (first | assumption | exact Below.refl _ _ | refine Below.alloc ?_ (by first | omega | (simp; done) | (simp; omega)) _ | refine Below.drew ?_ | refine below_drewN ?_ _ | refine Below.setCell ?_ (by first | omega | (simp; done) | (simp; omega)) _)
  have HNB : Hid (NBlk W w.heap.size (.int .i64 S) (.slice A1 n1 c1) (.slice A2 n2 c2)) := by rw [← hW]; exact heap_alloc_new w _
  clear hW
  refine wp_region_ord 6 [0, 1, 2, 3, 4, 5] [] [0, 1, 3, 4, 5] [2, 6, 7, 8] (fun w' => Below W.heap.size W w') (by kernel_rfl) (by kernel_rfl) ?_
  rintro D hD
  have HSD : Hid (Below W.heap.size W D) := by rw [hD]; exact (Below.refl _ _).drew
  clear hD
  refine ⟨HSD.out, ?_⟩
  have HS : Hid (∀ w' : World, Below W.heap.size W w' → w'.cell? ⟨w.heap.size, 0, none⟩ = some (.int .i64 S) ∧ w'.cell? ⟨w.heap.size, 1, none⟩ = some (.slice A1 n1 c1) ∧ w'.cell? ⟨w.heap.size, 2, none⟩ = some (.slice A2 n2 c2)) := by
    intro w' h
    obtain ⟨f0, f1, f2, _⟩ := (HNB.out.below h).facts
    exact ⟨f0, f1, f2⟩
  iterate 5 (refine wpHead_cons (v := ?_) rfl rfl (fun w' hS => ?_) ?_; rotate_left; (focus ((try obtain ⟨s0, s1, s2⟩ := HS.out _ (hS rfl)); clear hS; go_simp; try with_reducible rfl; done)); (try simp only [Act.put, List.setIfInBounds_toArray, List.set_cons_zero, List.set_cons_succ]))
  refine wpHead_nil ?_
  refine wpTail_cons rfl rfl (fun K hK => ?_)
  go_simp
  refine (rrun_any _ _ N S l _ (HV.out.below (bchain HBW.out HSD.out)) (HU.out.below (bchain HBW.out HSD.out)) hG HS'.out).mono ?_
  rintro e Y1 ⟨⟨vmY1, rfl, hm⟩, hb⟩
  have RY1 := Lib.hid hm
  obtain ⟨_, _, _, rfl, _, _, _, _⟩ := hm
  refine hK.out _ _ (fun _ => bchain HSD.out hb) ?_
  clear hK K
  (try simp only [Act.put, List.setIfInBounds_toArray, List.set_cons_zero, List.set_cons_succ])
  have HSY1 := Lib.hid (bchain HSD.out hb)
  have HXY1 := Lib.hid hb
  clear hb
  refine wpTail_cons rfl rfl (fun K hK => ?_)
  go_simp
  refine (set_any _ _ N S N.final _ (HV.out.below (bchain HBW.out HSY1.out)) (HF.out.below (bchain HBW.out HSY1.out)) HS'.out hS24 HFI.out).mono ?_
  rintro e Y2 ⟨⟨vmY2, rfl, hm⟩, hb⟩
  have RY2 := Lib.hid hm
  obtain ⟨_, _, _, rfl, _, _, _, _⟩ := hm
  refine hK.out _ _ (fun h => absurd h (by decide)) ?_
  clear hK K
  (try simp only [Act.put, List.setIfInBounds_toArray, List.set_cons_zero, List.set_cons_succ])
  have HSY2 := Lib.hid (bchain HSY1.out hb)
  have HXY2 := Lib.hid hb
  clear hb
  refine wpTail_cons rfl rfl (fun K hK => ?_)
  go_simp
  refine (both_any _ _ S (runF N.steps 1 l) (finalF N.final) _ (RY1.out.below HXY2.out) RY2.out hS24 HRL.out).mono ?_
  rintro e wz ⟨rfl, rfl⟩
  refine hK.out _ _ (fun h => absurd h (by decide)) ?_
  clear hK K
  (try simp only [Act.put, List.setIfInBounds_toArray, List.set_cons_zero, List.set_cons_succ])
  refine wpTail_rest 8 rfl ?_
  simp only [List.drop_succ_cons, List.drop_zero]
  go_wp2_with fail
  refine NoPanic.normal ?_
  go_wp2_with fail
  go_ret
  exact ⟨rfl, bchain HBW.out HSY2.out⟩
end Go.Proofs.YtiopgbbggeimaaaGreat

/-
  Small functions: Same, Has, less.
-/
namespace Go.Proofs.YtiopgbbggeimaaaGreat
open Go.ChangeShapes Go.WideShapes Go.ChangeAt Go.RowKit
end Go.Proofs.YtiopgbbggeimaaaGreat

/-
  Lists of lists: rows of the call's own whose elements are rows of the call's own; slices.Clone of ints; the words in plain terms.
-/
namespace Go.Proofs.YtiopgbbggeimaaaGreat
open Go.ChangeShapes Go.WideShapes Go.ChangeAt Go.RowKit Go.Shelf
theorem own_slice {w : World} {base : Nat} {v : Value} {l : List Int} (h : OwnI w base v l) : v.oneCell' = true ∧ ∃ A c, v = .slice A l.length c := by
  rcases h.2 with ⟨rfl, h0⟩ | ⟨g, cap, cur, rfl, _⟩
  · exact ⟨rfl, none, 0, by rw [h0]⟩
  · exact ⟨rfl, _, _, rfl⟩
/-- a row of slices, each a row of the call's own -/
def OwnL (w : World) (base : Nat) (v : Value) (Ls : List (List Int)) : Prop :=
  ∃ us : List Value, w.ownsRow base 31 1 v Ls.length us ∧ us.length = Ls.length ∧ ∀ (i : Nat) (u : Value) (l : List Int), us[i]? = some u → Ls[i]? = some l → OwnI w base u l
theorem OwnL.nil (w : World) (base : Nat) : OwnL w base (.slice none 0 0) [] := ⟨[], World.ownsRow_nil _ _ _ _, rfl, fun i u l h => by simp at h⟩
theorem OwnL.below {w w' : World} {base : Nat} {v : Value} {Ls : List (List Int)} (h : OwnL w base v Ls) (hb : Below w.heap.size w w') : OwnL w' base v Ls := by
  obtain ⟨us, h1, h2, h3⟩ := h
  exact ⟨us, own_below h1 hb, h2, fun i u l hu hl => own_below (h3 i u l hu hl) hb⟩
theorem OwnL.base {w : World} {base base' : Nat} {v : Value} {Ls : List (List Int)} (h : OwnL w base v Ls) (hb : base' ≤ base) : OwnL w base' v Ls := by
  obtain ⟨us, h1, h2, h3⟩ := h
  exact ⟨us, own_base h1 hb, h2, fun i u l hu hl => own_base (h3 i u l hu hl) hb⟩
/-- cells of other types than lists of lists lie as they lay -/
def Gr (n₀ : Nat) (w w' : World) : Prop := Below n₀ w w' ∧ ∀ (k : Nat) (cs : Array Value) (t : TypeId) (m : Nat × Nat), w.heap[k]? = some (.cells cs t m) → t ≠ 80 → t ≠ 31 → w'.heap[k]? = some (.cells cs t m)
theorem Gr.refl (n₀ : Nat) (w : World) : Gr n₀ w w := ⟨Below.refl _ _, fun _ _ _ _ h _ _ => h⟩
theorem Gr.trans {n₀ : Nat} {a b c : World} (h : Gr n₀ a b) (k : Gr n₀ b c) : Gr n₀ a c := ⟨h.1.trans k.1, fun i cs t m h1 h2 h3 => k.2 i cs t m (h.2 i cs t m h1 h2 h3) h2 h3⟩
theorem Gr.of_below {n₀ : Nat} {w w' : World} (h : Below w.heap.size w w') (hn : n₀ ≤ w.heap.size) : Gr n₀ w w' := ⟨h.mono hn, fun k _ _ _ h1 _ _ => (h.block k (Array.getElem?_eq_some_iff.1 h1).1).trans h1⟩
theorem Gr.boxed {n₀ B : Nat} {w w' : World} {t : TypeId} {v : Value} (h : Gr n₀ w w') (hb : Boxed w B t v) (h1 : t ≠ 80) (h2 : t ≠ 31) : Boxed w' B t v := h.2 B _ _ _ hb h1 h2
/-! the words, in plain terms -/
end Go.Proofs.YtiopgbbggeimaaaGreat

/-
  The reference's Check.
-/
namespace Go.Proofs.YtiopgbbggeimaaaGreat
open Go.ChangeShapes Go.WideShapes Go.ChangeAt Go.RowKit
theorem state_any (q S : Int) (y z : Value) (w : World) :
    Calls Tryz.prog 68 #[.agg #[.int .i64 S, y, z], .int .i64 q] w fun e w' => e = .returned (.bool (stB S q)) ∧ Below w.heap.size w w' := by
  by_cases h0 : 0 ≤ q
  · by_cases h1 : q < S
    · have d0 : decide (0 ≤ q) = true := by simpa using h0
      have d1 : decide (q < S) = true := by simpa using h1
      go_enter Tryz.func68, Tryz.ntmps68
      go_wp2_with fail
      go_ret
      exact ⟨by simp [stB, h0, h1], by repeat (first | assumption | exact Below.refl _ _ | refine Below.alloc ?_ (by first | omega | (simp; done) | (simp; omega)) _ | refine Below.drew ?_ | refine below_drewN ?_ _ | refine Below.setCell ?_ (by first | omega | (simp; done) | (simp; omega)) _)⟩
    · have d0 : decide (0 ≤ q) = true := by simpa using h0
      have d1 : decide (q < S) = false := by simpa using h1
      go_enter Tryz.func68, Tryz.ntmps68
      go_wp2_with fail
      go_ret
      exact ⟨by simp [stB, h0, h1], by repeat (first | assumption | exact Below.refl _ _ | refine Below.alloc ?_ (by first | omega | (simp; done) | (simp; omega)) _ | refine Below.drew ?_ | refine below_drewN ?_ _ | refine Below.setCell ?_ (by first | omega | (simp; done) | (simp; omega)) _)⟩
  · have d0 : decide (0 ≤ q) = false := by simpa using h0
    go_enter Tryz.func68, Tryz.ntmps68
    go_wp2_with fail
    go_ret
    exact ⟨by rw [stB, d0]; rfl, by repeat (first | assumption | exact Below.refl _ _ | refine Below.alloc ?_ (by first | omega | (simp; done) | (simp; omega)) _ | refine Below.drew ?_ | refine below_drewN ?_ _ | refine Below.setCell ?_ (by first | omega | (simp; done) | (simp; omega)) _)⟩
set_option maxHeartbeats 4000000 in
set_option maxRecDepth 100000 in
theorem rcheck_any (v : Value) (N : PNet) (w : World) (hv : RdN w v N) :
    Calls Tryz.prog 37 #[v] w fun e w' => e = .returned (.int .i64 (chkN N)) ∧ Below w.heap.size w w' := by
  obtain ⟨va, vf, rfl, ha, hf⟩ := hv
  obtain ⟨A, n, c, rfl, h1, h2, hn, hr⟩ := ha.op
  obtain ⟨A', n', c', rfl, h1', h2', hn', hr'⟩ := hf.op
  obtain ⟨S, L, M⟩ := N
  simp only at hn hr hn' hr' ha hf ⊢
  have HA := Lib.hid ha
  clear ha hf
  by_cases h0 : S < 1
  · go_enter Tryz.func37, Tryz.ntmps37
    go_wp2_with fail
    go_ret
    exact ⟨by simp [chkN, h0], (Below.refl _ _).alloc (Nat.le_refl _) _⟩
  have hd0 : decide (S < 1) = false := by simpa using h0
  by_cases h4 : 24 < S
  · have hd4 : decide (24 < S) = true := by simpa using h4
    go_enter Tryz.func37, Tryz.ntmps37
    go_wp2_with fail
    go_ret
    exact ⟨by simp [chkN, h4], (Below.refl _ _).alloc (Nat.le_refl _) _⟩
  have hd4 : decide (24 < S) = false := by simpa using h4
  by_cases h5 : 200 < n
  · have hd5 : decide (200 < (n : Int)) = true := by simp; omega
    go_enter Tryz.func37, Tryz.ntmps37
    go_wp2_with fail
    go_ret
    exact ⟨by simp [chkN, h0, h4, hn.out, h5], (Below.refl _ _).alloc (Nat.le_refl _) _⟩
  have hd5 : decide (200 < (n : Int)) = false := by simp; omega
  have HC := Lib.hid (chkN_of S L M (by omega) (by omega) (by rw [hn.out]; omega))
  go_enter Tryz.func37, Tryz.ntmps37
  go_wp2_with fail
  generalize hW : World.alloc w _ = W
  have HP : Hid (NBlk W w.heap.size (.int .i64 S) (.slice A n c) (.slice A' n' c')) := by rw [← hW]; exact heap_alloc_new w _
  have HBW : Hid (Below w.heap.size w W) := by rw [← hW]; repeat (first | assumption | exact Below.refl _ _ | refine Below.alloc ?_ (by first | omega | (simp; done) | (simp; omega)) _ | refine Below.drew ?_ | refine below_drewN ?_ _ | refine Below.setCell ?_ (by first | omega | (simp; done) | (simp; omega)) _)
  clear hW hd0 hd4 hd5
  go_loopw [3] (fun i wr => ∃ k : Nat, k ≤ n ∧ i = .int .i64 k ∧ Hid (stepsErr S [] L = stepsErr S (L.take k) (L.drop k)) ∧ Hid (Below W.heap.size W wr)) (fun i _ => n - (intOf i).toNat)
  case atStart => exact ⟨0, Nat.zero_le _, rfl, rfl, Below.refl _ _⟩
  case round =>
    obtain ⟨k, hk, rfl, HE, HB⟩ := hrel
    obtain ⟨p0, p1, p2, hpl⟩ := (HP.out.below HB.out).facts
    by_cases hlt : k < n
    · obtain ⟨bb, off, x0, x1, x2, rfl, hbl, hd, e0, e1, e2⟩ := (hr.out k hlt).below (bchain HBW.out HB.out)
      have HE2 : Hid (stepsErr S [] L = if stB S x0 && stB S x2 then (if x1 < 1 ∨ 20 < x1 then 21 else if (⟨x0, x1, x2⟩ : PStep) ∈ L.take k then 8 else stepsErr S (L.take (k + 1)) (L.drop (k + 1))) else 2) := by rw [Hid, HE.out, hd.out, take_of_dropS hd.out]; rfl
      go_wp2_with fail
      generalize hX : World.alloc wr _ = X
      have HXB : Hid (Below W.heap.size W X) := by rw [← hX]; exact HB.out.alloc HB.out.size _
      have HXS : Hid (SBlk X wr.heap.size ⟨x0, x1, x2⟩) := by rw [← hX]; exact heap_alloc_new _ _
      have hwx : W.heap.size ≤ wr.heap.size := HB.out.size
      clear hX e0 e1 e2 p0 p1 p2 hpl
      generalize wr.heap.size = gx at HXS hwx ⊢
      refine (state_any x0 S _ _ _).mono ?_
      rintro e X1 ⟨rfl, hb2⟩
      have HXB2 := Lib.hid (bchain HXB.out hb2)
      have HXS2 : Hid (SBlk X1 gx ⟨x0, x1, x2⟩) := (hb2.block gx (Array.getElem?_eq_some_iff.1 HXS.out).1).trans HXS.out
      clear HXB HXS hb2
      have HXB := HXB2
      have HXS := HXS2
      clear HXB2 HXS2
      obtain ⟨t0, t1, t2, t3⟩ := HXS.out.facts
      dsimp only at t0 t1 t2
      obtain ⟨p0, p1, p2, hpl⟩ := (HP.out.below HXB.out).facts
      cases hs0 : stB S x0
      · have HR : Hid (stepsErr S [] L = 2) := by rw [Hid, HE2.out, hs0]; rfl
        clear hs0
        go_wp2_with fail
        go_ret
        exact ⟨by rw [HC.out, HR.out]; rfl, bchain HBW.out HXB.out⟩
      go_wp2_with fail
      clear t0 t1 t2 t3 p0 p1 p2 hpl
      refine (state_any x2 S _ _ _).mono ?_
      rintro e X2 ⟨rfl, hb2⟩
      have HXB2 := Lib.hid (bchain HXB.out hb2)
      have HXS2 : Hid (SBlk X2 gx ⟨x0, x1, x2⟩) := (hb2.block gx (Array.getElem?_eq_some_iff.1 HXS.out).1).trans HXS.out
      clear HXB HXS hb2
      have HXB := HXB2
      have HXS := HXS2
      clear HXB2 HXS2
      obtain ⟨t0, t1, t2, t3⟩ := HXS.out.facts
      dsimp only at t0 t1 t2
      obtain ⟨p0, p1, p2, hpl⟩ := (HP.out.below HXB.out).facts
      cases hs2 : stB S x2
      · have HR : Hid (stepsErr S [] L = 2) := by rw [Hid, HE2.out, hs2]; simp
        clear hs2
        go_wp2_with fail
        go_ret
        exact ⟨by rw [HC.out, HR.out]; rfl, bchain HBW.out HXB.out⟩
      have HE3 : Hid (stepsErr S [] L = if x1 < 1 ∨ 20 < x1 then 21 else if (⟨x0, x1, x2⟩ : PStep) ∈ L.take k then 8 else stepsErr S (L.take (k + 1)) (L.drop (k + 1))) := by rw [Hid, HE2.out, hs0, hs2]; rfl
      clear hs0 hs2
      by_cases g1 : x1 < 1
      · have d1 : decide (x1 < 1) = true := by simpa using g1
        have HR : Hid (stepsErr S [] L = 21) := by rw [Hid, HE3.out, if_pos (.inl g1)]
        go_wp2_with fail
        go_ret
        exact ⟨by rw [HC.out, HR.out]; rfl, bchain HBW.out HXB.out⟩
      have d1 : decide (x1 < 1) = false := by simpa using g1
      by_cases g2 : 20 < x1
      · have d2 : decide (20 < x1) = true := by simpa using g2
        have HR : Hid (stepsErr S [] L = 21) := by rw [Hid, HE3.out, if_pos (.inr g2)]
        go_wp2_with fail
        go_ret
        exact ⟨by rw [HC.out, HR.out]; rfl, bchain HBW.out HXB.out⟩
      have d2 : decide (20 < x1) = false := by simpa using g2
      have HE4 : Hid (stepsErr S [] L = if (⟨x0, x1, x2⟩ : PStep) ∈ L.take k then 8 else stepsErr S (L.take (k + 1)) (L.drop (k + 1))) := by rw [Hid, HE3.out, if_neg (by omega)]
      go_wp2_with fail
      clear t0 t1 t2 t3 d1 d2 p0 p1 p2 hpl
      obtain ⟨wo, rfl⟩ : ∃ wo : World, wo = X2 := ⟨_, rfl⟩
      have HXB0 := HXB
      have HXS0 := HXS
      clear HXB HXS
      go_loopw [5] (fun i wr => ∃ j : Nat, j ≤ k ∧ i = .int .i64 j ∧ Hid ((⟨x0, x1, x2⟩ : PStep) ∉ L.take j) ∧ Hid (Below W.heap.size W wr) ∧ Hid (SBlk wr gx ⟨x0, x1, x2⟩)) (fun i _ => k - (intOf i).toNat)
      case atStart => exact ⟨0, Nat.zero_le _, rfl, by simp [Hid], HXB0.out, HXS0.out⟩
      case round =>
        obtain ⟨j, hj, rfl, HN2, HXB, HXS⟩ := hrel
        obtain ⟨p0, p1, p2, hpl⟩ := (HP.out.below HXB.out).facts
        obtain ⟨t0, t1, t2, t3⟩ := HXS.out.facts
        dsimp only at t0 t1 t2
        by_cases hjk : j < k
        · obtain ⟨b2, off2, y0, y1, y2, he2, hb2, hd2, e0, e1, e2⟩ := (hr.out j (by omega)).below (bchain HBW.out HXB.out)
          cases he2
          have HT := Lib.hid (take_of_dropS hd2.out)
          have heq := fun W => eqS W y0 y1 y2 x0 x1 x2
          have hgd := fun (W : World) x y xs ys => run_eqGuard_agg (P := Tryz.prog) W .eql 97 x y xs ys (by kernel_rfl)
          have HBB : Hid ((y0 == x0 && (y1 == x1 && y2 == x2)) = decide ((⟨y0, y1, y2⟩ : PStep) = ⟨x0, x1, x2⟩)) := by rw [Hid, Bool.eq_iff_iff]; simp
          generalize (y0 == x0 && (y1 == x1 && y2 == x2)) = bb at heq HBB
          have HMEM : Hid ((⟨y0, y1, y2⟩ : PStep) ∈ L.take (j + 1)) := by rw [Hid, HT.out]; simp
          have HSUB : Hid (∀ s, s ∈ L.take (j + 1) → s ∈ L.take k) := fun s hs => by
            rw [← List.take_append_drop (j + 1) (L.take k), List.take_take, Nat.min_eq_left (by omega)]
            exact List.mem_append_left _ hs
          cases bb
          · have HNE : Hid (¬ (⟨x0, x1, x2⟩ : PStep) = ⟨y0, y1, y2⟩) := by have h := HBB.out; rw [Hid]; intro h2; rw [h2] at h; simp at h
            go_wp2_with fail
            go_quiet (fail)
            clear heq hgd
            go_wp2_with fail
            go_roundw
            case rel => exact ⟨j + 1, by omega, by go_num, by rw [Hid, HT.out]; simp only [List.mem_append, List.mem_singleton, not_or]; exact ⟨HN2.out, HNE.out⟩, by rw [Hid]; have := HXB.out; repeat (first | assumption | exact Below.refl _ _ | refine Below.alloc ?_ (by first | omega | (simp; done) | (simp; omega)) _ | refine Below.drew ?_ | refine below_drewN ?_ _ | refine Below.setCell ?_ (by first | omega | (simp; done) | (simp; omega)) _), HXS.out⟩
            case measure => simp [intOf]; omega
          · have HEQ : Hid ((⟨x0, x1, x2⟩ : PStep) = ⟨y0, y1, y2⟩) := by have h := HBB.out; rw [Hid]; exact (of_decide_eq_true h.symm).symm
            have HR : Hid (stepsErr S [] L = 8) := by rw [Hid, HE4.out, if_pos (by rw [HEQ.out]; exact HSUB.out _ HMEM.out)]
            go_wp2_with fail
            go_quiet (fail)
            clear heq hgd
            go_wp2_with fail
            go_ret
            exact ⟨by rw [HC.out, HR.out]; rfl, by have h1 := bchain HBW.out HXB.out; repeat (first | assumption | exact Below.refl _ _ | refine Below.alloc ?_ (by first | omega | (simp; done) | (simp; omega)) _ | refine Below.drew ?_ | refine below_drewN ?_ _ | refine Below.setCell ?_ (by first | omega | (simp; done) | (simp; omega)) _)⟩
        · obtain rfl : j = k := by omega
          have HR : Hid (stepsErr S [] L = stepsErr S (L.take (j + 1)) (L.drop (j + 1))) := by rw [Hid, HE4.out, if_neg HN2.out]
          go_wp2_with fail
          go_roundw
          case rel => exact ⟨j + 1, by omega, by go_num, HR.out, HXB.out⟩
          case measure => simp [intOf]; omega
    · have HR : Hid (stepsErr S [] L = 0) := by rw [Hid, HE.out, List.drop_of_length_le (by rw [hn.out]; omega)]; rfl
      have HC2 : Hid (chkN ⟨S, L, M⟩ = if ordE M ≠ 0 then 10 else finE S M) := by rw [Hid, HC.out, HR.out]; rfl
      obtain ⟨wo, rfl⟩ : ∃ wo : World, wo = wr := ⟨_, rfl⟩
      go_wp2_with fail
      have HBo := HB
      clear HB p0 p1 p2 hpl
      go_loopw [6] (fun i wr => ∃ k : Nat, (k + 1 ≤ n' ∨ k = 0) ∧ i = .int .i64 (k + 1) ∧ Hid (ordE M = ordE (M.drop k)) ∧ Hid (Below W.heap.size W wr)) (fun i _ => n' - (intOf i).toNat)
      case atStart => exact ⟨0, Or.inr rfl, rfl, rfl, HBo.out⟩
      case round =>
        obtain ⟨k, hk, rfl, HO, HB⟩ := hrel
        obtain ⟨c0, c1, c2, hpl⟩ := (HP.out.below HB.out).facts
        by_cases hlt : k + 1 < n'
        · obtain ⟨b, off, x, y, rfl, hb, hdr, e0, e1⟩ := ((hr'.out k (by omega)).below (bchain HBW.out HB.out)).two ((hr'.out (k + 1) hlt).below (bchain HBW.out HB.out))
          have HO2 : Hid (ordE M = if y ≤ x then 10 else ordE (M.drop (k + 1))) := by
            have h3 : M.drop (k + 1) = y :: M.drop (k + 2) := by
              have := congrArg (List.drop 1) hdr.out
              simpa using this
            rw [Hid, HO.out, hdr.out, h3, ordE]
          have hw1 : IntKind.i64.wrap ((k : Int) + 1 - 1) = (k : Int) := by rw [show (k : Int) + 1 - 1 = (k : Int) by omega]; exact IntWalk.i64_in _ (by omega)
          have hk0 : (0 : Int) ≤ (k : Int) := by omega
          go_wp2_with fail
          go_quiet (fail)
          clear hw1
          by_cases hyx : y ≤ x
          · have HR : Hid (ordE M ≠ 0) := by rw [Hid, HO2.out, if_pos hyx]; decide
            go_wp2_with fail
            go_ret
            exact ⟨by rw [HC2.out, if_pos HR.out]; rfl, by have h1 := bchain HBW.out HB.out; repeat (first | assumption | exact Below.refl _ _ | refine Below.alloc ?_ (by first | omega | (simp; done) | (simp; omega)) _ | refine Below.drew ?_ | refine below_drewN ?_ _ | refine Below.setCell ?_ (by first | omega | (simp; done) | (simp; omega)) _)⟩
          · have HR : Hid (ordE M = ordE (M.drop (k + 1))) := by rw [Hid, HO2.out, if_neg hyx]
            go_wp2_with fail
            go_roundw
            case rel => exact ⟨k + 1, by omega, by go_num, HR.out, by rw [Hid]; have := HB.out; repeat (first | assumption | exact Below.refl _ _ | refine Below.alloc ?_ (by first | omega | (simp; done) | (simp; omega)) _ | refine Below.drew ?_ | refine below_drewN ?_ _ | refine Below.setCell ?_ (by first | omega | (simp; done) | (simp; omega)) _)⟩
            case measure => simp [intOf]; omega
        · have HR : Hid (ordE M = 0) := by
            rw [Hid, HO.out]
            have hl : (M.drop k).length ≤ 1 := by rw [List.length_drop, hn'.out]; omega
            match M.drop k, hl with
            | [], _ => rfl
            | [_], _ => rfl
          have HC3 : Hid (chkN ⟨S, L, M⟩ = finE S M) := by rw [Hid, HC2.out, HR.out]; rfl
          obtain ⟨wo, rfl⟩ : ∃ wo : World, wo = wr := ⟨_, rfl⟩
          go_wp2_with fail
          have HBo := HB
          clear HB c0 c1 c2 hpl
          go_loopw [7] (fun i wr => ∃ k : Nat, k ≤ n' ∧ i = .int .i64 k ∧ Hid (finE S M = finE S (M.drop k)) ∧ Hid (Below W.heap.size W wr)) (fun i _ => n' - (intOf i).toNat)
          case atStart => exact ⟨0, Nat.zero_le _, rfl, rfl, HBo.out⟩
          case round =>
            obtain ⟨k, hk, rfl, HF, HB⟩ := hrel
            by_cases hlt : k < n'
            · obtain ⟨b, off, x, rfl, hb, hdr, e0⟩ := (hr'.out k hlt).below (bchain HBW.out HB.out)
              have HF2 : Hid (finE S M = if stB S x then finE S (M.drop (k + 1)) else 2) := by rw [Hid, HF.out, hdr.out]; rfl
              obtain ⟨p0, p1, p2, hpl⟩ := (HP.out.below HB.out).facts
              go_wp2_with fail
              clear p0 p1 p2 hpl
              have hk0 : (0 : Int) ≤ (k : Int) := by omega
              have HSX : Hid (∀ w' : World, Below wr.heap.size wr w' → (w'.cell? ⟨w.heap.size, 0, none⟩ = some (.int .i64 S) ∧ w'.cell? ⟨w.heap.size, 1, none⟩ = some (.slice A n c) ∧ w'.cell? ⟨w.heap.size, 2, none⟩ = some (.slice (some ⟨b, off, none⟩) n' c')) ∧ w'.cell? ⟨b, off + k, none⟩ = some (.int .i64 x)) := by
                intro w' h
                obtain ⟨f0, f1, f2, _⟩ := (HP.out.below (bchain HB.out h)).facts
                exact ⟨⟨f0, f1, f2⟩, (h.cell hb).trans e0⟩
              have HS := HSX
              refine wp_region_ord 6 [0, 1, 2, 3, 4, 5] [] [0, 1, 2, 3, 4, 5] [6, 7] (fun w' => Below wr.heap.size wr w') (by kernel_rfl) (by kernel_rfl) ?_
              rintro D hD
              have HSD : Hid (Below wr.heap.size wr D) := by rw [hD]; exact (Below.refl _ _).drew
              clear hD e0
              refine ⟨HSD.out, ?_⟩
              iterate 6 (refine wpHead_cons (v := ?_) rfl rfl (fun w' hS => ?_) ?_; rotate_left; (focus ((try obtain ⟨⟨s0, s1, s2⟩, sx⟩ := HS.out _ (hS rfl)); clear hS; go_simp; try with_reducible rfl; done)); (try simp only [Act.put, List.setIfInBounds_toArray, List.set_cons_zero, List.set_cons_succ]))
              refine wpHead_nil ?_
              refine wpTail_cons rfl rfl (fun K hK => ?_)
              go_simp
              refine (state_any x S _ _ _).mono ?_
              rintro e Y1 ⟨rfl, hb2⟩
              refine hK.out _ _ (fun h => absurd h (by decide)) ?_
              clear hK K
              (try simp only [Act.put, List.setIfInBounds_toArray, List.set_cons_zero, List.set_cons_succ])
              have HB1 := Lib.hid (bchain HB.out (bchain HSD.out hb2))
              clear hb2 HB
              have HB := HB1
              refine wpTail_rest 7 rfl ?_
              simp only [List.drop_succ_cons, List.drop_zero]
              cases hs : stB S x
              · have HR : Hid (finE S M = 2) := by rw [Hid, HF2.out, hs]; rfl
                clear hs
                go_wp2_with fail
                refine NoPanic.normal ?_
                go_wp2_with fail
                go_ret
                exact ⟨by rw [HC3.out, HR.out]; rfl, bchain HBW.out HB.out⟩
              · have HR : Hid (finE S M = finE S (M.drop (k + 1))) := by rw [Hid, HF2.out, hs]; rfl
                clear hs
                go_wp2_with fail
                refine NoPanic.normal ?_
                go_wp2_with fail
                go_roundw
                case rel => exact ⟨k + 1, by omega, by go_num, HR.out, HB.out⟩
                case measure => simp [intOf]; omega
            · have HR : Hid (finE S M = 0) := by rw [Hid, HF.out, List.drop_of_length_le (by rw [hn'.out]; omega)]; rfl
              obtain ⟨p0, p1, p2, hpl⟩ := (HP.out.below HB.out).facts
              go_wp2_with fail
              go_ret
              exact ⟨by rw [HC3.out, HR.out]; rfl, bchain HBW.out HB.out⟩
end Go.Proofs.YtiopgbbggeimaaaGreat

