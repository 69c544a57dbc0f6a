/-
  The walks of the statements Converts and Same.
-/
import Derived.Test.YtokbclpdpegicaaW30
namespace Go.Proofs.Ytokbclpdpegicaa
open Go.ChangeShapes Go.WideShapes Go.ChangeAt Go.RowKit
theorem sameB_comm (xs ys : List Int) : sameB xs ys = sameB ys xs := by rw [Bool.eq_iff_iff, sameB_iff, sameB_iff]; exact eq_comm
theorem sameF_comm (a b : List PU) (s t : ByteArray) : sameF b a t s = sameF a b s t := by
  unfold sameF
  rw [sameB_comm, Bool.and_comm ((readF b t).2.2 == 0)]
set_option maxHeartbeats 8000000 in
set_option maxRecDepth 100000 in
theorem converts_any (v : Value) (x : PAsk) (w : World) (hv : RdK w v x) (hs : SmK x) :
    Calls Try.prog 3 #[v] w fun e w' => e = .returned (.bool true) ∧ Below w.heap.size w w' := by
  have HS := Lib.hid hs
  have HKV := Lib.hid hv
  obtain ⟨vi, ua, la, ub, lb, rfl, hi, ha, hb⟩ := hv
  have HA := Lib.hid ha
  have HB := Lib.hid hb
  obtain ⟨Ai, ni, ci, rfl, _, _, HNI, _⟩ := hi.op
  obtain ⟨A1, n1, c1, B1, m1, d1, he, _, _, _, _⟩ := ha.op
  obtain ⟨A2, n2, c2, B2, m2, d2, he2, _, _, _, _⟩ := hb.op
  cases he
  cases he2
  clear hi ha hb hs
  go_enter Try.func3, Try.ntmps3
  go_upto_region 1 with (fail)
  generalize hW : World.alloc w _ = W
  have HBW : Hid (Below w.heap.size w W) := by rw [← hW]; repeat (first | assumption | exact Below.refl _ _ | refine Below.alloc ?_ (by first | omega | (simp; done) | (simp; omega)) _ | refine Below.drew ?_ | refine below_drewN ?_ _ | refine Below.setCell ?_ (by first | omega | (simp; done) | (simp; omega)) _)
  have HK : Hid (W.heap[w.heap.size]? = some (.cells #[.slice Ai ni ci, .string x.a.name, .slice A1 n1 c1, .slice B1 m1 d1, .string x.b.name, .slice A2 n2 c2, .slice B2 m2 d2, .string x.s, .string x.t] 30 (0, 0))) := by rw [← hW]; exact heap_alloc_new w _
  have hgW : w.heap.size < W.heap.size := by rw [← hW]; simp
  have HKW : Hid (RdK W _ x) := HKV.out.below HBW.out
  have HVA : Hid (∀ W' : World, Below W.heap.size W W' → RdO W' (.agg #[.string x.a.name, .slice A1 n1 c1, .slice B1 m1 d1]) x.a) := fun W' h => (HA.out.below HBW.out).below h
  have HVB : Hid (∀ W' : World, Below W.heap.size W W' → RdO W' (.agg #[.string x.b.name, .slice A2 n2 c2, .slice B2 m2 d2]) x.b) := fun W' h => (HB.out.below HBW.out).below h
  have HBO : Hid (∀ W' : World, Below W.heap.size W W' → Below w.heap.size w W') := fun W' h => bchain HBW.out h
  clear HBW hW
  generalize hg : w.heap.size = g at HK HBO hgW ⊢
  have HG := Lib.hid hg
  clear hg
  have HZ : Hid (∀ W' : World, Below W.heap.size W W' → W'.cell? ⟨g, 0, none⟩ = some (.slice Ai ni ci) ∧ W'.cell? ⟨g, 1, none⟩ = some (.string x.a.name) ∧ W'.cell? ⟨g, 2, none⟩ = some (.slice A1 n1 c1) ∧ W'.cell? ⟨g, 3, none⟩ = some (.slice B1 m1 d1) ∧ W'.cell? ⟨g, 4, none⟩ = some (.string x.b.name) ∧ W'.cell? ⟨g, 5, none⟩ = some (.slice A2 n2 c2) ∧ W'.cell? ⟨g, 6, none⟩ = some (.slice B2 m2 d2) ∧ W'.cell? ⟨g, 7, none⟩ = some (.string x.s) ∧ W'.cell? ⟨g, 8, none⟩ = some (.string x.t)) := fun W' h => by
    have hk := (h.block g hgW).trans HK.out
    refine ⟨?_, ?_, ?_, ?_, ?_, ?_, ?_, ?_, ?_⟩ <;> (rw [cell_of_row W' g _ _ _ (0, 0) hk]; rfl)
  clear HK
  obtain ⟨z0, z1, z2, z3, z4, z5, z6, z7, z8⟩ := HZ.out W (Below.refl _ _)
  go_wp2_with fail
  refine (right_any _ x _ HKW.out HS.out).mono ?_
  rintro e w1 ⟨⟨ok, rfl, hq⟩, hb⟩
  have HQ := Lib.hid hq
  have HB1 := Lib.hid hb
  clear hq hb z0 z1 z2 z3 z4 z5 z6 z7 z8
  cases ok
  · go_wp2_with fail
    refine (awake_any _).mono ?_
    rintro e w2 ⟨rfl, hb⟩
    have HB2 := Lib.hid (bchain HB1.out hb)
    clear hb
    go_wp2_with fail
    go_ret
    exact ⟨rfl, by rw [HG.out]; exact HBO.out _ HB2.out⟩
  have hok := HQ.out rfl
  have hs200 : x.s.size ≤ 200 := hok.s
  have ht200 : x.t.size ≤ 200 := hok.t
  have hxs : x.s.size ≤ 67108864 := by omega
  have hxt : x.t.size ≤ 67108864 := by omega
  have HOK := Lib.hid hok
  clear hok HQ
  obtain ⟨z0, z1, z2, z3, z4, z5, z6, z7, z8⟩ := HZ.out w1 HB1.out
  obtain ⟨r, hr⟩ : ∃ r, convF x.a.units x.b.units x.s = r := ⟨_, rfl⟩
  have HR := Lib.hid hr
  clear hr
  go_wp2_with fail
  refine (convert_any _ _ x.a x.b x.s _ (HVA.out _ HB1.out) (HVB.out _ HB1.out) HS.out.a HS.out.b HOK.out.a.good HOK.out.b.good hxs).mono ?_
  rintro e w2 ⟨he, hb⟩
  rw [HR.out] at he
  obtain rfl := he
  have HB2 := Lib.hid (bchain HB1.out hb)
  clear hb
  clear z0 z1 z2 z3 z4 z5 z6 z7 z8
  obtain ⟨z0, z1, z2, z3, z4, z5, z6, z7, z8⟩ := HZ.out w2 HB2.out
  go_wp2_with fail
  refine (convert18_any _ _ x.a x.b x.s _ (HVA.out _ HB2.out) (HVB.out _ HB2.out) HS.out.a HS.out.b HOK.out.a.good HOK.out.b.good hxs).mono ?_
  rintro e w3 ⟨he, hb⟩
  rw [HR.out] at he
  obtain rfl := he
  have HB3 := Lib.hid (bchain HB2.out hb)
  clear hb
  clear z0 z1 z2 z3 z4 z5 z6 z7 z8
  obtain ⟨z0, z1, z2, z3, z4, z5, z6, z7, z8⟩ := HZ.out w3 HB3.out
  go_wp2_with fail
  refine (awake_any _).mono ?_
  rintro e wz ⟨rfl, hb⟩
  have HBZ := Lib.hid (bchain HB3.out hb)
  clear hb
  go_wp2_with fail
  go_ret
  exact ⟨rfl, by rw [HG.out]; exact HBO.out _ HBZ.out⟩
set_option maxHeartbeats 8000000 in
set_option maxRecDepth 100000 in
theorem same_law_any (v : Value) (x : PAsk) (w : World) (hv : RdK w v x) (hs : SmK x) :
    Calls Try.prog 4 #[v] w fun e w' => e = .returned (.bool true) ∧ Below w.heap.size w w' := by
  have HS := Lib.hid hs
  have HKV := Lib.hid hv
  obtain ⟨vi, ua, la, ub, lb, rfl, hi, ha, hb⟩ := hv
  have HA := Lib.hid ha
  have HB := Lib.hid hb
  obtain ⟨Ai, ni, ci, rfl, _, _, HNI, _⟩ := hi.op
  obtain ⟨A1, n1, c1, B1, m1, d1, he, _, _, _, _⟩ := ha.op
  obtain ⟨A2, n2, c2, B2, m2, d2, he2, _, _, _, _⟩ := hb.op
  cases he
  cases he2
  clear hi ha hb hs
  go_enter Try.func4, Try.ntmps4
  go_upto_region 1 with (fail)
  generalize hW : World.alloc w _ = W
  have HBW : Hid (Below w.heap.size w W) := by rw [← hW]; repeat (first | assumption | exact Below.refl _ _ | refine Below.alloc ?_ (by first | omega | (simp; done) | (simp; omega)) _ | refine Below.drew ?_ | refine below_drewN ?_ _ | refine Below.setCell ?_ (by first | omega | (simp; done) | (simp; omega)) _)
  have HK : Hid (W.heap[w.heap.size]? = some (.cells #[.slice Ai ni ci, .string x.a.name, .slice A1 n1 c1, .slice B1 m1 d1, .string x.b.name, .slice A2 n2 c2, .slice B2 m2 d2, .string x.s, .string x.t] 30 (0, 0))) := by rw [← hW]; exact heap_alloc_new w _
  have hgW : w.heap.size < W.heap.size := by rw [← hW]; simp
  have HKW : Hid (RdK W _ x) := HKV.out.below HBW.out
  have HVA : Hid (∀ W' : World, Below W.heap.size W W' → RdO W' (.agg #[.string x.a.name, .slice A1 n1 c1, .slice B1 m1 d1]) x.a) := fun W' h => (HA.out.below HBW.out).below h
  have HVB : Hid (∀ W' : World, Below W.heap.size W W' → RdO W' (.agg #[.string x.b.name, .slice A2 n2 c2, .slice B2 m2 d2]) x.b) := fun W' h => (HB.out.below HBW.out).below h
  have HBO : Hid (∀ W' : World, Below W.heap.size W W' → Below w.heap.size w W') := fun W' h => bchain HBW.out h
  clear HBW hW
  generalize hg : w.heap.size = g at HK HBO hgW ⊢
  have HG := Lib.hid hg
  clear hg
  have HZ : Hid (∀ W' : World, Below W.heap.size W W' → W'.cell? ⟨g, 0, none⟩ = some (.slice Ai ni ci) ∧ W'.cell? ⟨g, 1, none⟩ = some (.string x.a.name) ∧ W'.cell? ⟨g, 2, none⟩ = some (.slice A1 n1 c1) ∧ W'.cell? ⟨g, 3, none⟩ = some (.slice B1 m1 d1) ∧ W'.cell? ⟨g, 4, none⟩ = some (.string x.b.name) ∧ W'.cell? ⟨g, 5, none⟩ = some (.slice A2 n2 c2) ∧ W'.cell? ⟨g, 6, none⟩ = some (.slice B2 m2 d2) ∧ W'.cell? ⟨g, 7, none⟩ = some (.string x.s) ∧ W'.cell? ⟨g, 8, none⟩ = some (.string x.t)) := fun W' h => by
    have hk := (h.block g hgW).trans HK.out
    refine ⟨?_, ?_, ?_, ?_, ?_, ?_, ?_, ?_, ?_⟩ <;> (rw [cell_of_row W' g _ _ _ (0, 0) hk]; rfl)
  clear HK
  obtain ⟨z0, z1, z2, z3, z4, z5, z6, z7, z8⟩ := HZ.out W (Below.refl _ _)
  go_wp2_with fail
  refine (right_any _ x _ HKW.out HS.out).mono ?_
  rintro e w1 ⟨⟨ok, rfl, hq⟩, hb⟩
  have HQ := Lib.hid hq
  have HB1 := Lib.hid hb
  clear hq hb z0 z1 z2 z3 z4 z5 z6 z7 z8
  cases ok
  · go_wp2_with fail
    refine (awake_any _).mono ?_
    rintro e w2 ⟨rfl, hb⟩
    have HB2 := Lib.hid (bchain HB1.out hb)
    clear hb
    go_wp2_with fail
    go_ret
    exact ⟨rfl, by rw [HG.out]; exact HBO.out _ HB2.out⟩
  have hok := HQ.out rfl
  have hs200 : x.s.size ≤ 200 := hok.s
  have ht200 : x.t.size ≤ 200 := hok.t
  have hxs : x.s.size ≤ 67108864 := by omega
  have hxt : x.t.size ≤ 67108864 := by omega
  have HOK := Lib.hid hok
  clear hok HQ
  obtain ⟨z0, z1, z2, z3, z4, z5, z6, z7, z8⟩ := HZ.out w1 HB1.out
  obtain ⟨r, hr⟩ : ∃ r, sameF x.a.units x.b.units x.s x.t = r := ⟨_, rfl⟩
  have HR := Lib.hid hr
  clear hr
  go_wp2_with fail
  refine (same_any _ _ x.a x.b x.s x.t _ (HVA.out _ HB1.out) (HVB.out _ HB1.out) HS.out.a HS.out.b HOK.out.a.good HOK.out.b.good hxs hxt).mono ?_
  rw [HR.out]
  rintro e w2 ⟨rfl, hb⟩
  have HB2 := Lib.hid (bchain HB1.out hb)
  clear hb
  clear z0 z1 z2 z3 z4 z5 z6 z7 z8
  obtain ⟨z0, z1, z2, z3, z4, z5, z6, z7, z8⟩ := HZ.out w2 HB2.out
  go_wp2_with fail
  refine (same18_any _ _ x.a x.b x.s x.t _ (HVA.out _ HB2.out) (HVB.out _ HB2.out) HS.out.a HS.out.b HOK.out.a.good HOK.out.b.good hxs hxt).mono ?_
  rw [HR.out]
  rintro e w3 ⟨rfl, hb⟩
  have HB3 := Lib.hid (bchain HB2.out hb)
  clear hb
  clear z0 z1 z2 z3 z4 z5 z6 z7 z8
  obtain ⟨z0, z1, z2, z3, z4, z5, z6, z7, z8⟩ := HZ.out w3 HB3.out
  go_wp2_with fail
  refine (same_any _ _ x.b x.a x.t x.s _ (HVB.out _ HB3.out) (HVA.out _ HB3.out) HS.out.b HS.out.a HOK.out.b.good HOK.out.a.good hxt hxs).mono ?_
  rw [sameF_comm, HR.out]
  rintro e w4 ⟨rfl, hb⟩
  have HB4 := Lib.hid (bchain HB3.out hb)
  clear hb
  clear z0 z1 z2 z3 z4 z5 z6 z7 z8
  obtain ⟨z0, z1, z2, z3, z4, z5, z6, z7, z8⟩ := HZ.out w4 HB4.out
  go_wp2_with fail
  refine (awake_any _).mono ?_
  rintro e wz ⟨rfl, hb⟩
  have HBZ := Lib.hid (bchain HB4.out hb)
  clear hb
  go_wp2_with fail
  go_ret
  exact ⟨rfl, by rw [HG.out]; exact HBO.out _ HBZ.out⟩
end Go.Proofs.Ytokbclpdpegicaa
