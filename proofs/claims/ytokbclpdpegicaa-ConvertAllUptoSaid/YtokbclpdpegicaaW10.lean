/-
  right of the statements.
-/
import Derived.Test.YtokbclpdpegicaaW9
namespace Go.Proofs.Ytokbclpdpegicaa
open Go.ChangeShapes Go.WideShapes Go.ChangeAt Go.RowKit
/-- an Ask as plain data, and in memory -/
structure PAsk where
  inv : List PPh
  a : PO
  b : PO
  s : ByteArray
  t : ByteArray
def RdK (w : World) (v : Value) (x : PAsk) : Prop := ∃ vi ua la ub lb, v = .agg #[vi, .string x.a.name, ua, la, .string x.b.name, ub, lb, .string x.s, .string x.t] ∧ RdPh w vi x.inv ∧ RdO w (.agg #[.string x.a.name, ua, la]) x.a ∧ RdO w (.agg #[.string x.b.name, ub, lb]) x.b
theorem RdK.below {w w' : World} {v : Value} {x : PAsk} (h : RdK w v x) (hb : Below w.heap.size w w') : RdK w' v x := by
  obtain ⟨vi, ua, la, ub, lb, rfl, h1, h2, h3⟩ := h
  exact ⟨vi, ua, la, ub, lb, rfl, h1.below hb, h2.below hb, h3.below hb⟩
structure SmK (x : PAsk) : Prop where
  inv : x.inv.length ≤ 1048576
  names : ∀ p ∈ x.inv, SmS p.name
  a : SmO x.a
  b : SmO x.b
structure OkK (x : PAsk) : Prop where
  a : OkO x.a
  b : OkO x.b
  s : x.s.size ≤ 200
  t : x.t.size ≤ 200
def RightQ (x : PAsk) (b : Bool) : Prop := b = true → OkK x
theorem RightQ.no {x : PAsk} : RightQ x false := fun h => by cases h
set_option maxHeartbeats 8000000 in
set_option maxRecDepth 100000 in
theorem right_any (v : Value) (x : PAsk) (w : World) (hv : RdK w v x) (hs : SmK x) :
    Calls Try.prog 9 #[v] w fun e w' => RetB (RightQ x) e ∧ Below w.heap.size w w' := by
  have HS := Lib.hid hs
  obtain ⟨vi, ua, la, ub, lb, rfl, hi, ha, hb⟩ := hv
  have HI := Lib.hid hi
  have HA := Lib.hid ha
  have HB := Lib.hid hb
  obtain ⟨Ai, ni, ci, rfl, _, _, HNI, _⟩ := hi.op
  obtain ⟨A1, n1, c1, B1, m1, d1, he, _, _, _, _⟩ := ha.op
  obtain ⟨A2, n2, c2, B2, m2, d2, he2, _, _, _, _⟩ := hb.op
  cases he
  cases he2
  clear hi ha hb hs
  go_enter Try.func9, Try.ntmps9
  go_upto_region 1 with (fail)
  generalize hW : World.alloc w _ = W
  have HBW : Hid (Below w.heap.size w W) := by rw [← hW]; repeat (first | assumption | exact Below.refl _ _ | refine Below.alloc ?_ (by first | omega | (simp; done) | (simp; omega)) _ | refine Below.drew ?_ | refine below_drewN ?_ _ | refine Below.setCell ?_ (by first | omega | (simp; done) | (simp; omega)) _)
  have HK : Hid (W.heap[w.heap.size]? = some (.cells #[.slice Ai ni ci, .string x.a.name, .slice A1 n1 c1, .slice B1 m1 d1, .string x.b.name, .slice A2 n2 c2, .slice B2 m2 d2, .string x.s, .string x.t] 30 (0, 0))) := by rw [← hW]; exact heap_alloc_new w _
  have hgW : w.heap.size < W.heap.size := by rw [← hW]; simp
  have HI : Hid (RdPh W (.slice Ai ni ci) x.inv) := HI.out.below HBW.out
  have HA : Hid (RdO W (.agg #[.string x.a.name, .slice A1 n1 c1, .slice B1 m1 d1]) x.a) := HA.out.below HBW.out
  have HB : Hid (RdO W (.agg #[.string x.b.name, .slice A2 n2 c2, .slice B2 m2 d2]) x.b) := HB.out.below HBW.out
  have HBO : Hid (∀ W' : World, Below W.heap.size W W' → Below w.heap.size w W') := fun W' h => bchain HBW.out h
  clear HBW hW
  generalize hg : w.heap.size = g at HK HBO hgW ⊢
  have HG := Lib.hid hg
  clear hg
  have HZ : Hid (∀ W' : World, Below W.heap.size W W' → W'.cell? ⟨g, 0, none⟩ = some (.slice Ai ni ci) ∧ W'.cell? ⟨g, 1, none⟩ = some (.string x.a.name) ∧ W'.cell? ⟨g, 2, none⟩ = some (.slice A1 n1 c1) ∧ W'.cell? ⟨g, 3, none⟩ = some (.slice B1 m1 d1) ∧ W'.cell? ⟨g, 4, none⟩ = some (.string x.b.name) ∧ W'.cell? ⟨g, 5, none⟩ = some (.slice A2 n2 c2) ∧ W'.cell? ⟨g, 6, none⟩ = some (.slice B2 m2 d2) ∧ W'.cell? ⟨g, 7, none⟩ = some (.string x.s) ∧ W'.cell? ⟨g, 8, none⟩ = some (.string x.t)) := fun W' h => by
    have hk := (h.block g hgW).trans HK.out
    refine ⟨?_, ?_, ?_, ?_, ?_, ?_, ?_, ?_, ?_⟩ <;> (rw [cell_of_row W' g _ _ _ (0, 0) hk]; rfl)
  clear HK
  obtain ⟨z0, z1, z2, z3, z4, z5, z6, z7, z8⟩ := HZ.out W (Below.refl _ _)
  go_wp2_with fail
  refine (small_any _ _ x.inv x.a _ HI.out HA.out HS.out.a HS.out.inv HS.out.names).mono ?_
  rintro e w2 ⟨⟨q, rfl, hq⟩, hb⟩
  have HQ := Lib.hid hq
  have HB2 := Lib.hid hb
  clear hq hb z0 z1 z2 z3 z4 z5 z6 z7 z8
  obtain ⟨z0, z1, z2, z3, z4, z5, z6, z7, z8⟩ := HZ.out w2 HB2.out
  cases q
  · go_wp2_with fail
    go_ret
    exact ⟨RetB.mk RightQ.no, by rw [HG.out]; exact HBO.out _ HB2.out⟩
  go_wp2_with fail
  refine (small_any _ _ x.inv x.b _ (HI.out.below HB2.out) (HB.out.below HB2.out) HS.out.b HS.out.inv HS.out.names).mono ?_
  rintro e w3 ⟨⟨q, rfl, hq⟩, hb⟩
  have HQ2 := Lib.hid hq
  have HB3 := Lib.hid (bchain HB2.out hb)
  clear hq hb z0 z1 z2 z3 z4 z5 z6 z7 z8
  obtain ⟨z0, z1, z2, z3, z4, z5, z6, z7, z8⟩ := HZ.out w3 HB3.out
  cases q
  · go_wp2_with fail
    go_ret
    exact ⟨RetB.mk RightQ.no, by rw [HG.out]; exact HBO.out _ HB3.out⟩
  by_cases h1 : x.s.size ≤ 200
  rotate_left
  · have e1 : decide ((x.s.size : Int) ≤ 200) = false := by simp; omega
    go_wp2_with fail
    go_ret
    exact ⟨RetB.mk RightQ.no, by rw [HG.out]; exact HBO.out _ HB3.out⟩
  have e1 : decide ((x.s.size : Int) ≤ 200) = true := by simp; omega
  by_cases h2 : x.t.size ≤ 200
  rotate_left
  · have e2 : decide ((x.t.size : Int) ≤ 200) = false := by simp; omega
    go_wp2_with fail
    go_ret
    exact ⟨RetB.mk RightQ.no, by rw [HG.out]; exact HBO.out _ HB3.out⟩
  have e2 : decide ((x.t.size : Int) ≤ 200) = true := by simp; omega
  go_wp2_with fail
  go_ret
  exact ⟨RetB.mk (fun _ => ⟨HQ.out rfl, HQ2.out rfl, h1, h2⟩), by rw [HG.out]; exact HBO.out _ HB3.out⟩
end Go.Proofs.Ytokbclpdpegicaa
