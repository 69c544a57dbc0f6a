/-
  label of the reference of orthographies; Check of the reference of phonemes.
-/
import Derived.Test.YtokbclpdpegicaaW5
namespace Go.Proofs.Ytokbclpdpegicaa
open Go.ChangeShapes Go.WideShapes Go.ChangeAt Go.RowKit
set_option maxHeartbeats 4000000 in
set_option maxRecDepth 100000 in
theorem label17_any (s : ByteArray) (w : World) (hs : s.size ≤ 1048576) : Calls Try.prog 54 #[.string s] w fun e w' => RetB (LabQ s) e ∧ Below w.heap.size w w' := by
  go_enter Try.func54, Try.ntmps54
  go_wp2_with fail
  go_loop [3] (fun i => ∃ k : Nat, k ≤ s.size ∧ i = .int .i64 k) (fun i => s.size - (intOf i).toNat)
  case atStart => exact ⟨0, Nat.zero_le _, rfl⟩
  case round =>
    obtain ⟨k, hk, rfl⟩ := hrel
    by_cases hlt : k < s.size
    · cases hd2 : ((((s[k]'hlt).toNat : Nat) : Int) == 32)
      · go_wp2_with fail
        go_round
        case rel => exact ⟨k + 1, by omega, by go_num⟩
        case measure => simp [intOf]; omega
      · go_wp2_with fail
        go_ret
        exact ⟨RetB.mk (b := false) (by simp [LabQ]), Below.refl _ _⟩
    · go_wp2_with fail
      refine (label_any s _ hs).mono ?_
      rintro e w2 ⟨⟨b, rfl, hq⟩, hb⟩
      have HQ := Lib.hid hq
      clear hq
      go_wp2_with fail
      go_ret
      exact ⟨RetB.mk HQ.out, hb⟩
theorem cell_keep {w w' : World} {b o : Nat} {x : Value} (hb : b < w.heap.size) (hc : w.cell? ⟨b, o, none⟩ = some x) (h : Below w.heap.size w w') : w'.cell? ⟨b, o, none⟩ = some x := (h.cell (p := ⟨b, o, none⟩) hb).trans hc
/-- the call returns a number of which Q holds -/
def RetE (Q : Int → Prop) (e : Ending) : Prop := ∃ x, e = .returned (.int .i64 x) ∧ Q x
theorem RetE.mk {Q : Int → Prop} {x : Int} (h : Q x) : RetE Q (.returned (.int .i64 x)) := ⟨x, rfl, h⟩
def AnyE (_ : Int) : Prop := True
set_option maxHeartbeats 8000000 in
set_option maxRecDepth 100000 in
theorem check16_any (v : Value) (L : List PPh) (w : World) (hv : RdPh w v L) (hl : L.length ≤ 1048576) (hs : ∀ p ∈ L, SmS p.name) :
    Calls Try.prog 38 #[.agg #[v]] w fun e w' => RetE AnyE e ∧ Below w.heap.size w w' := by
  have HV := Lib.hid hv
  have HSM := Lib.hid hs
  obtain ⟨A, n, c, rfl, hnc, hcm, HN, HR⟩ := hv.op
  rw [HN.out] at hl
  clear hv hs
  go_enter Try.func38, Try.ntmps38
  go_upto_region 1 with (fail)
  generalize hW : World.alloc w _ = W
  have HBW : Hid (Below w.heap.size w W) := by rw [← hW]; repeat (first | assumption | exact Below.refl _ _ | refine Below.alloc ?_ (by first | omega | (simp; done) | (simp; omega)) _ | refine Below.drew ?_ | refine below_drewN ?_ _ | refine Below.setCell ?_ (by first | omega | (simp; done) | (simp; omega)) _)
  have z0 : W.cell? ⟨w.heap.size, 0, none⟩ = some (.slice A n c) := by rw [← hW]; simp [go_sem]
  have hgW : w.heap.size < W.heap.size := by rw [← hW]; simp
  have HRW : Hid (∀ k, k < n → PhAt W A L k) := fun k hk => (HR.out k hk).below HBW.out
  clear hW HR HV
  have HZ := Lib.hid z0
  have HBO : Hid (∀ W' : World, Below W.heap.size W W' → Below w.heap.size w W') := fun W' h => bchain HBW.out h
  clear HBW
  generalize hg : w.heap.size = g at z0 hgW HZ HBO ⊢
  have HG := Lib.hid hg
  clear hg
  by_cases h60 : 60 < n
  · have d60 : decide (60 < (n : Int)) = true := by simp; omega
    go_wp2_with fail
    go_ret
    exact ⟨RetE.mk (Q := AnyE) trivial, by rw [HG.out]; exact HBO.out _ (Below.refl _ _)⟩
  have d60 : decide (60 < (n : Int)) = false := by simp; omega
  go_wp2_with fail
  clear z0 d60
  go_loopw [12] (fun i wr => ∃ k : Nat, k ≤ n ∧ i = .int .i64 k ∧ Hid (Below W.heap.size W wr)) (fun i _ => n - (intOf i).toNat)
  case atStart => exact ⟨0, Nat.zero_le _, rfl, Below.refl _ _⟩
  case round =>
    obtain ⟨k, hk, rfl, HB⟩ := hrel
    have z0 := cell_keep hgW HZ.out HB.out
    by_cases hlt : k < n
    · obtain ⟨b, off, p, rfl, hbl, hdr, c0, c1⟩ := (HRW.out k hlt).below HB.out
      have hps : p.name.size ≤ 1048576 := HSM.out p (List.mem_of_mem_drop (by rw [hdr.out]; exact List.mem_cons_self))
      have C1 := Lib.hid c1
      have C0 := Lib.hid c0
      clear hdr
      generalize p.feat = feat at c1 C1
      generalize p.name = nm at c0 C0 hps
      clear p
      go_wp2_with fail
      refine (label_any nm _ hps).mono ?_
      rintro e w2 ⟨⟨q, rfl, _⟩, hb⟩
      have HB2 := Lib.hid (bchain HB.out hb)
      have D0 := Lib.hid (cell_keep hbl C0.out hb)
      have D1 := Lib.hid (cell_keep hbl C1.out hb)
      have hb2 : b < w2.heap.size := Nat.lt_of_lt_of_le hbl hb.size
      clear hb c0 c1 C0 C1 z0
      have z0 := cell_keep hgW HZ.out HB2.out
      cases q
      · go_wp2_with fail
        go_ret
        exact ⟨RetE.mk (Q := AnyE) trivial, by rw [HG.out]; exact HBO.out _ HB2.out⟩
      go_wp2_with fail
      have hk0 : (0 : Int) ≤ (k : Int) := by omega
      have hk1 : (k : Int) < (n : Int) := by omega
      clear z0
      go_loopw [4] (fun i wr => ∃ j : Nat, j ≤ k ∧ i = .int .i64 j ∧ Hid (Below w2.heap.size w2 wr)) (fun i _ => k - (intOf i).toNat)
      case atStart => exact ⟨0, Nat.zero_le _, rfl, Below.refl _ _⟩
      case round =>
        obtain ⟨j, hj, rfl, HB3⟩ := hrel
        have z0 := cell_keep hgW HZ.out (bchain HB2.out HB3.out)
        have c0 := cell_keep hb2 D0.out HB3.out
        have c1 := cell_keep hb2 D1.out HB3.out
        by_cases hjt : j < k
        · obtain ⟨b', off', p, hA, hbl', _, e0, _⟩ := (HRW.out j (by omega)).below (bchain HB2.out HB3.out)
          cases hA
          generalize p.name = nm2 at e0
          have hj0 : (0 : Int) ≤ (j : Int) := by omega
          have hj1 : (j : Int) < (n : Int) := by omega
          go_wp2_with fail
          go_quiet (fail)
          generalize (nm2.toList == nm.toList) = q2
          cases q2
          · go_wp2_with fail
            go_roundw
            case rel => exact ⟨j + 1, by omega, by go_num, below_drewN HB3.out _⟩
            case measure => simp [intOf]; omega
          · go_wp2_with fail
            go_ret
            exact ⟨RetE.mk (Q := AnyE) trivial, by rw [HG.out]; exact HBO.out _ (bchain HB2.out (below_drewN HB3.out _))⟩
        · go_wp2_with fail
          all_goals first
            | (go_ret; exact ⟨RetE.mk (Q := AnyE) trivial, by rw [HG.out]; exact HBO.out _ (bchain HB2.out HB3.out)⟩)
            | (go_roundw
               case rel => exact ⟨k + 1, by omega, by go_num, bchain HB2.out HB3.out⟩
               case measure => simp [intOf]; omega)
    · go_wp2_with fail
      go_ret
      exact ⟨RetE.mk (Q := AnyE) trivial, by rw [HG.out]; exact HBO.out _ HB.out⟩
end Go.Proofs.Ytokbclpdpegicaa
