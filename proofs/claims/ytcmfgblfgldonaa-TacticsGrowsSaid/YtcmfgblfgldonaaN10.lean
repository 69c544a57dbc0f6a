/-
  The reference 23: after, reached.
-/
import Derived.Test.YtcmfgblfgldonaaN9
import Derived.Test.YtcmfgblfgldonaaN8
namespace Go.Proofs.Ytcmfgblfgldonaa
open Go.ChangeShapes Go.WideShapes Go.ChangeAt Go.RowKit
def cOk (c : Int) (s : PStep) : Bool := (c == 0) || (s.cls == c)
def afterR (L : List PStep) (m : Nat) (c : Int) : Nat := L.foldl (fun o s => if bitI m s.fr && cOk c s then withB o s.tgt else o) 0
theorem afterR_bit (L : List PStep) (m : Nat) (c : Int) (q : Nat) : (afterR L m c).testBit q = L.any fun s => (bitI m s.fr && cOk c s) && decide (s.tgt.toNat = q) := by
  rw [afterR, fold_bit (fun s => bitI m s.fr && cOk c s)]
  simp
theorem afterR_eq (L : List PStep) (m : Nat) (c : Int) (hc : c ≠ 0) : afterR L m c = afterF L m c := by
  refine Nat.eq_of_testBit_eq fun q => ?_
  rw [afterR_bit, after_bit]
  congr 1
  funext s
  have : cOk c s = decide (s.cls = c) := by by_cases h : s.cls = c <;> simp [cOk, hc, h]
  rw [this, Bool.and_assoc]
theorem afterR_or (L : List PStep) (m : Nat) : afterR L m 0 ||| m = roundF L m := by
  refine Nat.eq_of_testBit_eq fun q => ?_
  rw [Nat.testBit_or, afterR_bit, round_bit, Bool.or_comm]
  congr 2
  funext s
  simp [cOk]
theorem afterR_lt {N : PNet} (hG : GoodN N) {S : Nat} (hS : N.states = (S : Int)) (m : Nat) (c : Int) : afterR N.steps m c < 2 ^ S :=
  fold_lt hG _ (fun o s h1 h2 => by split; exact withB_lt h2 (by have := h1.t1; omega) h1.t0; exact h2) _ (fun _ h => h) 0 (Nat.two_pow_pos S)
set_option maxHeartbeats 4000000 in
set_option maxRecDepth 100000 in
theorem rafter_any (v u : Value) (N : PNet) (S m : Nat) (c : Int) (w : World) (hv : RdN w v N) (hu : RB w u S m) (hG : GoodN N) (hS : N.states = (S : Int)) :
    Calls Try.prog 41 #[v, u, .int .i64 c] w fun e w' => (∃ vm, e = .returned vm ∧ ∃ g, vm = .slice (some ⟨g, 0, none⟩) S S ∧ w.heap.size ≤ g ∧ Bls w' g (bl S (afterR N.steps m c))) ∧ Below w.heap.size w w' := by
  obtain ⟨vs, vf, rfl, hs, hf⟩ := hv
  obtain ⟨A1, n1, c1, rfl, _, _, HN, HR⟩ := hs.op
  obtain ⟨A2, n2, c2, rfl, _, _, _, _⟩ := hf.op
  obtain ⟨bu, ou, cu, rfl, hu1, hu2, hu3, hu4⟩ := hu
  have HU := Lib.hid hu4
  have hS24 : S ≤ 24 := by have := hG.s2; omega
  have HS' := Lib.hid hS
  rw [hS]
  have hmk := make_marks S hS24
  clear hs hf hS hu4
  go_enter Try.func41, Try.ntmps41
  go_wp2_with fail
  generalize hW : World.alloc w _ = W
  have HBW : Hid (Below w.heap.size w W) := by rw [← hW]; repeat (first | assumption | exact Below.refl _ _ | refine Below.alloc ?_ (by first | omega | (simp; done) | (simp; omega)) _ | refine Below.drew ?_ | refine below_drewN ?_ _ | refine Below.setCell ?_ (by first | omega | (simp; done) | (simp; omega)) _)
  have HNB : Hid (NBlk W w.heap.size (.int .i64 S) (.slice A1 n1 c1) (.slice A2 n2 c2)) := by rw [← hW]; exact heap_alloc_new w _
  have hz : w.heap.size + 1 = W.heap.size := by rw [← hW]; simp
  simp only [hz]
  have hwW : w.heap.size < W.heap.size := by omega
  clear hW hz
  generalize hX : World.alloc W _ = X
  have HM0 : Hid (Bls X W.heap.size (bl S 0)) := by rw [← hX]; exact new_marks W S
  have HBX : Hid (Below W.heap.size W X) := by rw [← hX]; repeat (first | assumption | exact Below.refl _ _ | refine Below.alloc ?_ (by first | omega | (simp; done) | (simp; omega)) _ | refine Below.drew ?_ | refine below_drewN ?_ _ | refine Below.setCell ?_ (by first | omega | (simp; done) | (simp; omega)) _)
  obtain ⟨g, hg⟩ : ∃ g, W.heap.size = g := ⟨_, rfl⟩
  rw [hg] at HM0 HBX hwW ⊢
  have HG := Lib.hid hg
  clear hX hmk hg
  go_loopw [8] (fun i wr => ∃ k : Nat, k ≤ n1 ∧ i = .int .i64 k ∧ Hid (Bls wr g (bl S (afterR (N.steps.take k) m c))) ∧ Hid (Below g W wr)) (fun i _ => n1 - (intOf i).toNat)
  case atStart => exact ⟨0, Nat.zero_le _, rfl, HM0.out, HBX.out⟩
  case round =>
    obtain ⟨k, hk, rfl, HM, HB⟩ := hrel
    have HBR := Lib.hid (bchain HBW.out (by rw [HG.out]; exact HB.out))
    obtain ⟨p0, p1, p2, hpl⟩ := (HNB.out.below (by rw [HG.out]; exact HB.out)).facts
    by_cases hlt : k < n1
    · obtain ⟨b, off, x0, x1, x2, rfl, hb, hd, e0, e1, e2⟩ := (HR.out k hlt).below HBR.out
      have hok := hG.step _ (List.mem_of_mem_drop (by rw [hd.out]; exact List.mem_cons_self))
      obtain ⟨y0, y1, y2, y3, _, _⟩ := hok
      simp only at y0 y1 y2 y3
      obtain ⟨q0, rfl⟩ : ∃ q : Nat, x0 = (q : Int) := ⟨x0.toNat, by omega⟩
      obtain ⟨q2, rfl⟩ : ∃ q : Nat, x2 = (q : Int) := ⟨x2.toNat, by omega⟩
      have hq0 : q0 < S := by have := HS'.out; omega
      have hq2 : q2 < S := by have := HS'.out; omega
      clear y0 y1 y2 y3
      have HF : Hid (afterR (N.steps.take (k + 1)) m c = if m.testBit q0 && ((c == 0) || (x1 == c)) then afterR (N.steps.take k) m c ||| 1 <<< q2 else afterR (N.steps.take k) m c) := by
        rw [Hid, take_of_dropS hd.out, afterR, List.foldl_append]; simp [withB, afterR, bitI, cOk]
      have hcu := ((bchain HBW.out (by rw [HG.out]; exact HB.out)).cell (p := ⟨bu, ou + q0, none⟩) hu3).trans (HU.out q0 hq0)
      have hbul : bu < wr.heap.size := by have := HBR.out.size; omega
      generalize m.testBit q0 = bt at hcu HF
      have HMl := Lib.hid HM.out.lt
      cases bt
      · have HF2 : Hid (afterR (N.steps.take (k + 1)) m c = afterR (N.steps.take k) m c) := HF.out
        go_wp2_with fail
        go_roundw
        case rel => exact ⟨k + 1, by omega, by go_num, by rw [Hid, HF2.out]; exact HM.out.alloc _, HB.out.alloc (by have := HMl.out; omega) _⟩
        case measure => simp [intOf]; omega
      · cases hcc : ((c == 0) || (x1 == c))
        · have HF2 : Hid (afterR (N.steps.take (k + 1)) m c = afterR (N.steps.take k) m c) := by rw [Hid, HF.out, hcc]; rfl
          simp only [Bool.or_eq_false_iff] at hcc
          obtain ⟨hc0, hc1⟩ := hcc
          go_wp2_with fail
          go_roundw
          case rel => exact ⟨k + 1, by omega, by go_num, by rw [Hid, HF2.out]; exact HM.out.alloc _, HB.out.alloc (by have := HMl.out; omega) _⟩
          case measure => simp [intOf]; omega
        · have HF2 : Hid (afterR (N.steps.take (k + 1)) m c = afterR (N.steps.take k) m c ||| 1 <<< q2) := by rw [Hid, HF.out, hcc]; rfl
          have hck2 := HM.out.cell (j := q2) (by rw [bl_len]; exact hq2)
          have hfr := HM.out.free q2
          have hgl := HM.out.lt
          have hI1 : (0 : Int) ≤ (q2 : Int) := by omega
          cases hc0 : (c == 0)
          · have hc1 : (x1 == c) = true := by rw [hc0] at hcc; simpa using hcc
            clear hcc
            go_wp2_with fail
            go_roundw
            case rel => exact ⟨k + 1, by omega, by go_num, by rw [Hid, HF2.out, ← bl_set]; exact (HM.out.set_ q2).alloc _, (HB.out.setCell (p := ⟨g, q2, none⟩) (Nat.le_refl _) _).alloc (by have := HMl.out; simp; omega) _⟩
            case measure => simp [intOf]; omega
          · clear hcc
            go_wp2_with fail
            go_roundw
            case rel => exact ⟨k + 1, by omega, by go_num, by rw [Hid, HF2.out, ← bl_set]; exact (HM.out.set_ q2).alloc _, (HB.out.setCell (p := ⟨g, q2, none⟩) (Nat.le_refl _) _).alloc (by have := HMl.out; simp; omega) _⟩
            case measure => simp [intOf]; omega
    · go_wp2_with fail
      go_ret
      refine ⟨⟨_, rfl, g, rfl, by have := HBW.out.size; have := HG.out; omega, ?_⟩, HBR.out⟩
      have h := HM.out
      rwa [List.take_of_length_le (by rw [HN.out]; omega)] at h
/-- marks of which the first j have been joined with those of M -/
def mixB (S a M j : Nat) : List Bool := (List.range S).map fun q => a.testBit q || (decide (q < j) && M.testBit q)
theorem mixB_len (S a M j : Nat) : (mixB S a M j).length = S := by simp [mixB]
theorem mixB_zero (S a M : Nat) : mixB S a M 0 = bl S a := by simp [mixB, bl]
theorem mixB_at (S a M j : Nat) (h : j < S) : (mixB S a M j).getD j false = a.testBit j := by simp [mixB, h]
theorem mixB_all (S a M : Nat) : mixB S a M S = bl S (a ||| M) := by
  apply List.ext_getElem
  · simp [mixB, bl]
  · intro i h1 h2
    simp only [mixB, List.length_map, List.length_range] at h1
    simp [mixB, bl, h1]
theorem mixB_set (S a M j : Nat) (_ : j < S) : mixB S a M (j + 1) = (mixB S a M j).set j (a.testBit j || M.testBit j) := by
  apply List.ext_getElem
  · simp [mixB]
  · intro i h1 h2
    simp only [List.getElem_set, mixB, List.getElem_map, List.getElem_range]
    by_cases e : j = i
    · subst e; simp
    · have : decide (i < j + 1) = decide (i < j) := by rw [Bool.eq_iff_iff]; simp; omega
      simp [e, this]
theorem Bls.setv {w : World} {g : Nat} {M : List Bool} (h : Bls w g M) (j : Nat) (z : Bool) : Bls (w.setCell ⟨g, j, none⟩ (.bool z)) g (M.set j z) := by
  unfold Bls at h ⊢
  simp [World.setCell, Array.getElem?_modify, h, List.map_set]
set_option maxHeartbeats 4000000 in
set_option maxRecDepth 100000 in
theorem rreached_any (v u : Value) (N : PNet) (S m : Nat) (w : World) (hv : RdN w v N) (hu : RB w u S m) (hG : GoodN N) (hS : N.states = (S : Int)) :
    Calls Try.prog 50 #[v, u] w fun e w' => (∃ vm, e = .returned vm ∧ RB w' vm S (reachF N.steps S m)) ∧ Below w.heap.size w w' := by
  have HV := Lib.hid hv
  obtain ⟨vs, vf, rfl, hs, hf⟩ := hv
  obtain ⟨A1, n1, c1, rfl, _, _, _, _⟩ := hs.op
  obtain ⟨A2, n2, c2, rfl, _, _, _, _⟩ := hf.op
  have HU := Lib.hid hu
  obtain ⟨bu, ou, cu, rfl, _, _, _, _⟩ := hu
  have hS24 : S ≤ 24 := by have := hG.s2; omega
  have HS' := Lib.hid hS
  rw [hS] at HV ⊢
  clear hs hf hS
  go_enter Try.func50, Try.ntmps50
  go_wp2_with fail
  generalize hW : World.alloc w _ = W
  have HBW : Hid (Below w.heap.size w W) := by rw [← hW]; repeat (first | assumption | exact Below.refl _ _ | refine Below.alloc ?_ (by first | omega | (simp; done) | (simp; omega)) _ | refine Below.drew ?_ | refine below_drewN ?_ _ | refine Below.setCell ?_ (by first | omega | (simp; done) | (simp; omega)) _)
  have HNB : Hid (NBlk W w.heap.size (.int .i64 S) (.slice A1 n1 c1) (.slice A2 n2 c2)) := by rw [← hW]; exact heap_alloc_new w _
  clear hW
  go_loopw [1, 5] (fun u i wr => ∃ (k b o c : Nat), k ≤ S ∧ i = .int .i64 k ∧ u = .slice (some ⟨b, o, none⟩) S c ∧ Hid (RB wr (.slice (some ⟨b, o, none⟩) S c) S (iterF N.steps k m)) ∧ Hid (Below W.heap.size W wr)) (fun _ i _ => S - (intOf i).toNat)
  case atStart => exact ⟨0, _, _, _, Nat.zero_le _, rfl, rfl, HU.out.below HBW.out, Below.refl _ _⟩
  case round =>
    obtain ⟨k, b, o, c, hk, rfl, rfl, HR, HB⟩ := hrel
    obtain ⟨p0, p1, p2, hpl⟩ := (HNB.out.below HB.out).facts
    by_cases hlt : k < S
    · have HIT : Hid (iterF N.steps (k + 1) m = afterR N.steps (iterF N.steps k m) 0 ||| iterF N.steps k m) := by rw [Hid, iterF_succ, afterR_or]
      generalize iterF N.steps k m = M at HR HIT
      go_wp2_with fail
      refine (rafter_any _ _ N S M 0 _ (HV.out.below (bchain HBW.out HB.out)) HR.out hG HS'.out).mono ?_
      rintro e w1 ⟨⟨vm, rfl, g, rfl, hgw, hM⟩, hb⟩
      have HM := Lib.hid hM
      have HB1 := Lib.hid (bchain HB.out hb)
      have HR1 := Lib.hid (HR.out.below hb)
      have hbg : b ≠ g := by obtain ⟨_, _, _, he, _, _, h3, _⟩ := HR.out; cases he; omega
      have hWg : W.heap.size ≤ g := by have := HB.out.size; omega
      clear hM hb p0 p1 p2 hpl hgw
      have HIT2 : Hid (∀ j, j ≤ S → ((bl S (afterR N.steps M 0)).take j).length = j) := fun j hj => by rw [List.length_take, bl_len]; omega
      go_wp2_with fail
      obtain ⟨wo, rfl⟩ : ∃ wo : World, wo = w1 := ⟨_, rfl⟩
      go_loopw [7] (fun i wr => ∃ j : Nat, j ≤ S ∧ i = .int .i64 j ∧ Hid (Bls wr g (mixB S (afterR N.steps M 0) M j)) ∧ Hid (∀ k, k < wo.heap.size → k ≠ g → wr.heap[k]? = wo.heap[k]?) ∧ Hid (Below W.heap.size W wr)) (fun i _ => S - (intOf i).toNat)
      case atStart => exact ⟨0, Nat.zero_le _, rfl, by rw [Hid, mixB_zero]; exact HM.out, fun _ _ _ => rfl, HB1.out⟩
      case round =>
        obtain ⟨j, hj, rfl, HMJ, HK, HBJ⟩ := hrel
        obtain ⟨p0, p1, p2, hpl⟩ := (HNB.out.below HBJ.out).facts
        by_cases hltj : j < S
        · have HNX := Lib.hid (mixB_set S (afterR N.steps M 0) M j hltj)
          have hck := HMJ.out.cell (j := j) (by rw [mixB_len]; exact hltj)
          rw [mixB_at S _ _ j hltj] at hck
          have hfr := HMJ.out.free j
          have hgl := HMJ.out.lt
          obtain ⟨_, _, _, he, _, _, hb3, hb4⟩ := HR1.out
          cases he
          have hcu := (World.cell?_of_block (a := ⟨b, o + j, none⟩) (HK.out b hb3 hbg)).trans (hb4 j hltj)
          generalize (afterR N.steps M 0).testBit j = x at hck HNX
          generalize M.testBit j = y at hcu HNX
          have HSET : Hid (∀ z : Bool, Bls (wr.setCell ⟨g, j, none⟩ (.bool z)) g ((mixB S (afterR N.steps M 0) M j).set j z)) := fun z => HMJ.out.setv j z
          have HKS : Hid (∀ z : Value, ∀ k, k < wo.heap.size → k ≠ g → (wr.setCell ⟨g, j, none⟩ z).heap[k]? = wo.heap[k]?) := fun z k h1 h2 => (Below.heap_setCell wr ⟨g, j, none⟩ z k h2).trans (HK.out k h1 h2)
          clear hb3 hb4
          cases x
          · cases y
            · go_wp2_with fail
              go_roundw
              case rel => exact ⟨j + 1, by omega, by go_num, by rw [Hid, HNX.out]; exact HSET.out _, HKS.out _, HBJ.out.setCell (p := ⟨g, j, none⟩) hWg _⟩
              case measure => simp [intOf]; omega
            · go_wp2_with fail
              go_roundw
              case rel => exact ⟨j + 1, by omega, by go_num, by rw [Hid, HNX.out]; exact HSET.out _, HKS.out _, HBJ.out.setCell (p := ⟨g, j, none⟩) hWg _⟩
              case measure => simp [intOf]; omega
          · go_wp2_with fail
            go_roundw
            case rel => exact ⟨j + 1, by omega, by go_num, by rw [Hid, HNX.out]; exact HSET.out _, HKS.out _, HBJ.out.setCell (p := ⟨g, j, none⟩) hWg _⟩
            case measure => simp [intOf]; omega
        · obtain rfl : j = S := by omega
          have HDONE : Hid (RB wr (.slice (some ⟨g, 0, none⟩) j j) j (iterF N.steps (k + 1) m)) := by
            rw [Hid, HIT.out]
            have h := HMJ.out
            rw [mixB_all] at h
            exact RB.of h hS24
          go_wp2_with fail
          go_roundw
          case rel => exact ⟨k + 1, _, _, _, by omega, by go_num, rfl, HDONE.out, HBJ.out⟩
          case measure => simp [intOf]; omega
    · obtain rfl : k = S := by omega
      go_wp2_with fail
      go_ret
      exact ⟨⟨_, rfl, HR.out⟩, bchain HBW.out HB.out⟩
end Go.Proofs.Ytcmfgblfgldonaa
