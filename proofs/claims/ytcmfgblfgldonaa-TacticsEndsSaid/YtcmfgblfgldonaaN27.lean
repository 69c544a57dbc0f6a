/-
  TacticsEnds: the walk.
-/
import Derived.Test.YtcmfgblfgldonaaN25
import Derived.Test.YtcmfgblfgldonaaNP5
namespace Go.Proofs.Ytcmfgblfgldonaa
open Go.ChangeShapes Go.WideShapes Go.ChangeAt Go.RowKit
set_option maxHeartbeats 4000000 in
set_option maxRecDepth 100000 in
theorem ends_walk (v u : Value) (N : PNet) (l : List Int) (w : World) (hv : RdN w v N) (hu : RdI w u l) :
    Calls Try.prog 10 #[v, u] w fun e w' => e = .returned (.bool true) ∧ Below w.heap.size w w' := by
  obtain ⟨A3, n3, c3, rfl, _, _, HL3, _⟩ := hu.op
  have HU := Lib.hid hu
  clear hu
  have HV := Lib.hid hv
  obtain ⟨vs, vf, rfl, hs, hf⟩ := hv
  obtain ⟨A1, n1, c1, rfl, _, _, HN1, _⟩ := hs.op
  obtain ⟨A2, n2, c2, rfl, _, _, HN2, _⟩ := hf.op
  clear hs hf
  obtain ⟨st, hst⟩ : ∃ st, N.states = st := ⟨_, rfl⟩
  have HST := Lib.hid hst
  rw [hst] at HV ⊢
  clear hst
  go_enter Try.func10, Try.ntmps10
  go_wp2_with fail
  generalize hW : World.alloc w _ = W
  have HBW : Hid (Below w.heap.size w W) := by rw [← hW]; repeat (first | assumption | exact Below.refl _ _ | refine Below.alloc ?_ (by first | omega | (simp; done) | (simp; omega)) _ | refine Below.drew ?_ | refine below_drewN ?_ _ | refine Below.setCell ?_ (by first | omega | (simp; done) | (simp; omega)) _)
  have HNB : Hid (NBlk W w.heap.size (.int .i64 st) (.slice A1 n1 c1) (.slice A2 n2 c2)) := by rw [← hW]; exact heap_alloc_new w _
  clear hW
  refine (small_any _ _ N l _ (HV.out.below HBW.out) (HU.out.below HBW.out)).mono ?_
  rintro e w1 ⟨rfl, hb⟩
  have HB1 := Lib.hid (bchain HBW.out hb)
  have HNB1 := Lib.hid (HNB.out.below hb)
  clear hb HNB HBW
  cases hsm : smallB N l
  · skip
    go_wp2_with fail
    refine (awake_any _).mono ?_
    rintro e wz ⟨rfl, hbz⟩
    have HBZ := Lib.hid (bchain (HB1).out hbz)
    clear hbz
    go_wp2_with fail
    go_ret
    exact ⟨rfl, HBZ.out⟩
  have hG := small_good hsm
  clear hsm
  obtain ⟨S, hS⟩ : ∃ S : Nat, N.states = (S : Int) := ⟨N.states.toNat, by have := hG.s1; omega⟩
  obtain rfl : st = (S : Int) := HST.out.symm.trans hS
  obtain ⟨p0, p1, p2, hpl⟩ := HNB1.out.facts
  go_wp2_with fail
  refine (endless_any _ N S _ (HV.out.below HB1.out) hG hS).mono ?_
  rintro e w2 ⟨rfl, hb⟩
  have HB2 := Lib.hid (bchain HB1.out hb)
  have HNB2 := Lib.hid (HNB1.out.below hb)
  clear hb p0 p1 p2 hpl
  obtain ⟨p0, p1, p2, hpl⟩ := HNB2.out.facts
  cases he : endF N S
  · by_cases hl : n3 < S
    · clear he
      go_wp2_with fail
      refine (awake_any _).mono ?_
      rintro e wz ⟨rfl, hbz⟩
      have HBZ := Lib.hid (bchain (HB2).out hbz)
      clear hbz
      go_wp2_with fail
      go_ret
      exact ⟨rfl, HBZ.out⟩
    · have HAC := Lib.hid (ends_law hG hS l he (by rw [HL3.out]; exact hl))
      clear he
      go_wp2_with fail
      refine (accepts_any _ _ N S l _ (HV.out.below HB2.out) (HU.out.below HB2.out) hG hS).mono ?_
      rintro e w3 ⟨rfl, hb⟩
      rw [HAC.out]
      have HB3 := Lib.hid (bchain HB2.out hb)
      clear hb p0 p1 p2 hpl
      go_wp2_with fail
      refine (awake_any _).mono ?_
      rintro e wz ⟨rfl, hbz⟩
      have HBZ := Lib.hid (bchain (HB3).out hbz)
      clear hbz
      go_wp2_with fail
      go_ret
      exact ⟨rfl, HBZ.out⟩
  · clear he
    go_wp2_with fail
    refine (awake_any _).mono ?_
    rintro e wz ⟨rfl, hbz⟩
    have HBZ := Lib.hid (bchain (HB2).out hbz)
    clear hbz
    go_wp2_with fail
    go_ret
    exact ⟨rfl, HBZ.out⟩
end Go.Proofs.Ytcmfgblfgldonaa
