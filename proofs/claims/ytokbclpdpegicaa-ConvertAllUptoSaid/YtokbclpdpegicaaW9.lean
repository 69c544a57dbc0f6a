/-
  small and right of the statements.
-/
import Derived.Test.YtokbclpdpegicaaW8
namespace Go.Proofs.Ytokbclpdpegicaa
open Go.ChangeShapes Go.WideShapes Go.ChangeAt Go.RowKit
/-- a small orthography that is right -/
structure OkO (o : PO) : Prop where
  n : o.units.length ≤ 12
  good : ∀ p ∈ o.units, GoodU p
  own : ∀ (j k : Nat) (p q : PU), j < k → o.units[j]? = some p → o.units[k]? = some q → (p.g.toList == q.g.toList) = false
def SmallQ (o : PO) (b : Bool) : Prop := b = true → OkO o
theorem SmallQ.no {o : PO} : SmallQ o false := fun h => by cases h
set_option maxHeartbeats 8000000 in
set_option maxRecDepth 100000 in
theorem small_any (vi vo : Value) (L : List PPh) (o : PO) (w : World) (hvi : RdPh w vi L) (hvo : RdO w vo o) (hso : SmO o) (hl : L.length ≤ 1048576) (hs : ∀ p ∈ L, SmS p.name) :
    Calls Try.prog 24 #[.agg #[vi], vo] w fun e w' => RetB (SmallQ o) e ∧ Below w.heap.size w w' := by
  have HVI := Lib.hid hvi
  have HVO := Lib.hid hvo
  have HSO := Lib.hid hso
  have HLL := Lib.hid hl
  have HLS := Lib.hid hs
  obtain ⟨Ai, ni, ci, rfl, _, _, HNI, _⟩ := hvi.op
  obtain ⟨A, n, c, B, m, d, rfl, _, _, HN, HM⟩ := hvo.op
  clear hvi hvo hso hl hs
  go_enter Try.func24, Try.ntmps24
  go_upto_region 1 with (fail)
  generalize hW : World.alloc (World.alloc w _) _ = W
  have HBW : Hid (Below w.heap.size w W) := by rw [← hW]; repeat (first | assumption | exact Below.refl _ _ | refine Below.alloc ?_ (by first | omega | (simp; done) | (simp; omega)) _ | refine Below.drew ?_ | refine below_drewN ?_ _ | refine Below.setCell ?_ (by first | omega | (simp; done) | (simp; omega)) _)
  have z0 : W.cell? ⟨w.heap.size, 0, none⟩ = some (.slice Ai ni ci) := by rw [← hW]; simp [go_sem]
  have z1 : W.cell? ⟨w.heap.size + 1, 0, none⟩ = some (.string o.name) := by rw [← hW]; simp [go_sem]
  have z2 : W.cell? ⟨w.heap.size + 1, 1, none⟩ = some (.slice A n c) := by rw [← hW]; simp [go_sem]
  have z3 : W.cell? ⟨w.heap.size + 1, 2, none⟩ = some (.slice B m d) := by rw [← hW]; simp [go_sem]
  have hgW : w.heap.size + 1 < W.heap.size := by rw [← hW]; simp
  clear hW
  have HZ : Hid (∀ W' : World, Below W.heap.size W W' → W'.cell? ⟨w.heap.size, 0, none⟩ = some (.slice Ai ni ci) ∧ W'.cell? ⟨w.heap.size + 1, 0, none⟩ = some (.string o.name) ∧ W'.cell? ⟨w.heap.size + 1, 1, none⟩ = some (.slice A n c) ∧ W'.cell? ⟨w.heap.size + 1, 2, none⟩ = some (.slice B m d)) := fun W' h =>
    ⟨cell_keep (by omega) z0 h, cell_keep (by omega) z1 h, cell_keep (by omega) z2 h, cell_keep (by omega) z3 h⟩
  have HVI : Hid (RdPh W (.slice Ai ni ci) L) := HVI.out.below HBW.out
  have HVO : Hid (RdO W (.agg #[.string o.name, .slice A n c, .slice B m d]) o) := HVO.out.below HBW.out
  have HBO : Hid (∀ W' : World, Below W.heap.size W W' → Below w.heap.size w W') := fun W' h => bchain HBW.out h
  clear HBW z0 z1 z2 z3 hgW
  generalize hg : w.heap.size = g at HZ HBO ⊢
  have HG := Lib.hid hg
  clear hg
  obtain ⟨z0, z1, z2, z3⟩ := HZ.out W (Below.refl _ _)
  by_cases h1 : 12 < ni
  · have d1 : decide ((ni : Int) ≤ 12) = false := by simp; omega
    go_wp2_with fail
    go_ret
    exact ⟨RetB.mk (SmallQ.no), by rw [HG.out]; exact HBO.out _ (Below.refl _ _)⟩
  have d1 : decide ((ni : Int) ≤ 12) = true := by simp; omega
  by_cases h2 : 12 < n
  · have d2 : decide ((n : Int) ≤ 12) = false := by simp; omega
    go_wp2_with fail
    go_ret
    exact ⟨RetB.mk (SmallQ.no), by rw [HG.out]; exact HBO.out _ (Below.refl _ _)⟩
  have d2 : decide ((n : Int) ≤ 12) = true := by simp; omega
  by_cases h3 : 12 < m
  · have d3 : decide ((m : Int) ≤ 12) = false := by simp; omega
    go_wp2_with fail
    go_ret
    exact ⟨RetB.mk (SmallQ.no), by rw [HG.out]; exact HBO.out _ (Below.refl _ _)⟩
  have d3 : decide ((m : Int) ≤ 12) = true := by simp; omega
  go_wp2_with fail
  refine (check16_any _ L _ HVI.out HLL.out HLS.out).mono ?_
  rintro e w2 ⟨⟨x, rfl, _⟩, hb⟩
  have HB2 := Lib.hid hb
  clear hb z0 z1 z2 z3 d1 d2 d3
  obtain ⟨z0, z1, z2, z3⟩ := HZ.out w2 HB2.out
  by_cases hx : x = 0
  rotate_left
  · have dx : (x == 0) = false := by simp [hx]
    go_wp2_with fail
    go_ret
    exact ⟨RetB.mk (SmallQ.no), by rw [HG.out]; exact HBO.out _ HB2.out⟩
  subst hx
  go_wp2_with fail
  refine (check17_any _ _ L o _ (HVI.out.below HB2.out) (HVO.out.below HB2.out) HSO.out).mono ?_
  rintro e w3 ⟨⟨x, rfl, hq⟩, hb⟩
  have HQ := Lib.hid hq
  have HB3 := Lib.hid (bchain HB2.out hb)
  clear hb hq z0 z1 z2 z3
  by_cases hx : x = 0
  rotate_left
  · have dx : (x == 0) = false := by simp [hx]
    go_wp2_with fail
    go_ret
    exact ⟨RetB.mk (SmallQ.no), by rw [HG.out]; exact HBO.out _ HB3.out⟩
  subst hx
  go_wp2_with fail
  go_ret
  exact ⟨RetB.mk (fun _ => ⟨by rw [HN.out]; omega, (HQ.out rfl).1, (HQ.out rfl).2⟩), by rw [HG.out]; exact HBO.out _ HB3.out⟩
end Go.Proofs.Ytokbclpdpegicaa
