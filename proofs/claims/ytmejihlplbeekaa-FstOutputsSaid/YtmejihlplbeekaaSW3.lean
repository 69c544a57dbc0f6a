/-
  FstOutputs: the walk.
-/
import Derived.Test.YtmejihlplbeekaaSW1
import Derived.Test.YtmejihlplbeekaaH6
namespace Go.Proofs.Ytmejihlplbeekaa
open Go.ChangeShapes Go.WideShapes Go.ChangeAt Go.RowKit
set_option maxHeartbeats 4000000 in
set_option maxRecDepth 100000 in
theorem outputs_walk (v vx : Value) (F : PFst) (xs : List Int) (n m : Int) (w : World) (hv : RdF w v F) (hx : RdI w vx xs) :
    Calls Try.prog 6 #[v, vx, .int .i64 n, .int .i64 m] w fun e w' => e = .returned (.bool true) ∧ Below w.heap.size w w' := by
  have HV := Lib.hid hv
  obtain ⟨va, vf, rfl, ha, hf⟩ := hv
  obtain ⟨A1, n1, c1, rfl, _, _, HN1, _⟩ := ha.op
  obtain ⟨A2, n2, c2, rfl, _, _, HN2, _⟩ := hf.op
  clear ha hf
  obtain ⟨Ax, nx, cx, rfl, _, _, HNX, _⟩ := hx.op
  have HX := Lib.hid hx
  clear hx
  go_enter Try.func6, Try.ntmps6
  go_wp2_with fail
  generalize hW : World.alloc w _ = W
  have HBW : Hid (Below w.heap.size w W) := by rw [← hW]; repeat (first | assumption | exact Below.refl _ _ | refine Below.alloc ?_ (by first | omega | (simp; done) | (simp; omega)) _ | refine Below.drew ?_ | refine below_drewN ?_ _ | refine Below.setCell ?_ (by first | omega | (simp; done) | (simp; omega)) _)
  have HP : Hid (FBlk W w.heap.size (.int .i64 F.states) (.slice A1 n1 c1) (.slice A2 n2 c2)) := by rw [← hW]; exact heap_alloc_new w _
  clear hW
  refine (light_any _ F _ (HV.out.below HBW.out)).mono ?_
  rintro e w1 ⟨rfl, hb⟩
  have HB1 : Hid (Below w.heap.size w w1) := bchain HBW.out hb
  have HP1 := Lib.hid (HP.out.below hb)
  clear hb HP HBW
  cases hl : lightB F
  · skip
    go_wp2_with fail
    refine (awake_any _).mono ?_
    rintro e wz ⟨rfl, hbz⟩
    have HBZ : Hid (Below w.heap.size w wz) := bchain (HB1.out) hbz
    clear hbz
    go_wp2_with fail
    go_ret
    exact ⟨rfl, HBZ.out⟩
  have HL := Lib.hid (lgt_of hl)
  clear hl
  by_cases h1 : 8 < nx
  · have d1 : decide (8 < nx) = true := by simpa using h1
    have d2 : decide ((8 : Int) < (nx : Int)) = true := by simp; omega
    clear h1
    go_wp2_with fail
    refine (awake_any _).mono ?_
    rintro e wz ⟨rfl, hbz⟩
    have HBZ : Hid (Below w.heap.size w wz) := bchain (HB1.out) hbz
    clear hbz
    go_wp2_with fail
    go_ret
    exact ⟨rfl, HBZ.out⟩
  have d1 : decide (8 < nx) = false := by simpa using h1
  have d2 : decide ((8 : Int) < (nx : Int)) = false := by simp; omega
  by_cases h2 : 300 < m
  · have d3 : decide (300 < m) = true := by simpa using h2
    clear h1 h2
    go_wp2_with fail
    refine (awake_any _).mono ?_
    rintro e wz ⟨rfl, hbz⟩
    have HBZ : Hid (Below w.heap.size w wz) := bchain (HB1.out) hbz
    clear hbz
    go_wp2_with fail
    go_ret
    exact ⟨rfl, HBZ.out⟩
  have d3 : decide (300 < m) = false := by simpa using h2
  have hxl : xs.length ≤ 1000 := by rw [HNX.out]; omega
  have hml : m ≤ 900000 := by omega
  clear h1 h2
  obtain ⟨p0, p1, p2, _, _, _⟩ := HP1.out.facts
  have hpl := HP1.out.lt
  go_wp2_with fail
  clear p0 p1 p2 hpl d1 d2 d3
  refine (foutputs_any _ _ F xs n m _ (HV.out.below HB1.out) (HX.out.below HB1.out) HL.out.fin hxl hml).mono ?_
  rintro e w2 ⟨⟨vl, rfl, hl1⟩, hb⟩
  obtain ⟨Al, nl, cl, rfl, _, _, _, _⟩ := hl1.op
  have HL1 := Lib.hid hl1
  have HB2 : Hid (Below w.heap.size w w2) := bchain HB1.out hb
  have HP2 := Lib.hid (HP1.out.below hb)
  clear hl1 hb
  obtain ⟨p0, p1, p2, _, _, _⟩ := HP2.out.facts
  have hpl := HP2.out.lt
  go_wp2_with fail
  clear p0 p1 p2 hpl
  refine (routputs_any _ _ F xs n m _ (HV.out.below HB2.out) (HX.out.below HB2.out) HL.out.fin hxl hml (lgt_fl HL.out)).mono ?_
  rintro e w3 ⟨⟨vr, rfl, hl2⟩, hb⟩
  obtain ⟨Ar, nr, cr, rfl, _, _, _, _⟩ := hl2.op
  have HL2 := Lib.hid hl2
  have HL3 := Lib.hid (HL1.out.below hb)
  have HB3 : Hid (Below w.heap.size w w3) := bchain HB2.out hb
  clear hl2 hb
  go_wp2_with fail
  refine (requal_any _ _ (outF F xs n m).1 (outF F xs n m).1 _ HL3.out HL2.out).mono ?_
  rintro e w4 ⟨rfl, hb⟩
  rw [show decide ((outF F xs n m).1 = (outF F xs n m).1) = true from decide_eq_true rfl]
  have HB4 : Hid (Below w.heap.size w w4) := bchain HB3.out hb
  have hq : ((outF F xs n m).2 == (outF F xs n m).2) = true := by simp
  clear hb
  go_wp2_with fail
  refine (awake_any _).mono ?_
  rintro e wz ⟨rfl, hbz⟩
  have HBZ : Hid (Below w.heap.size w wz) := bchain (HB4.out) hbz
  clear hbz
  go_wp2_with fail
  go_ret
  exact ⟨rfl, HBZ.out⟩
end Go.Proofs.Ytmejihlplbeekaa
