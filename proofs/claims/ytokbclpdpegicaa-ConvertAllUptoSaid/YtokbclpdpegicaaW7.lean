/-
  unit of the reference of orthographies.
-/
import Derived.Test.YtokbclpdpegicaaW6
namespace Go.Proofs.Ytokbclpdpegicaa
open Go.ChangeShapes Go.WideShapes Go.ChangeAt Go.RowKit
def GoodU (p : PU) : Prop := 0 < p.g.size ∧ 1 ≤ p.s.length ∧ p.s.length ≤ 3
/-- what unit answers 0 at -/
def UnitQ (us : List PU) (i : Nat) (p : PU) (x : Int) : Prop := x = 0 → GoodU p ∧ ∀ (k : Nat) (q : PU), k < i → us[k]? = some q → (q.g.toList == p.g.toList) = false
theorem UnitQ.ne {us : List PU} {i : Nat} {p : PU} {x : Int} (h : x ≠ 0) : UnitQ us i p x := fun h' => absurd h' h
set_option maxHeartbeats 8000000 in
set_option maxRecDepth 100000 in
theorem unit17_any (vi vo : Value) (L : List PPh) (o : PO) (i : Nat) (p : PU) (w : World) (hvi : RdPh w vi L) (hvo : RdO w vo o) (hi : o.units[i]? = some p) (hso : SmO o) :
    Calls Try.prog 53 #[.agg #[vi], vo, .int .i64 i] w fun e w' => RetE (UnitQ o.units i p) e ∧ Below w.heap.size w w' := by
  obtain ⟨Ai, ni, ci, rfl, _, _, _, _⟩ := hvi.op
  obtain ⟨vu, vl, rfl, hu, hl⟩ := hvo
  obtain ⟨A, n, c, rfl, hnc, hcm, HN, HR⟩ := hu.op
  obtain ⟨B, m, d, rfl, _, _, _, _⟩ := hl.op
  have hlt : i < n := by rw [← HN.out]; exact (List.getElem?_eq_some_iff.1 hi).1
  have hn2 : n ≤ 1048576 := by rw [← HN.out]; exact hso.units
  have hgs : p.g.size ≤ 1048576 := hso.graph p (List.mem_of_getElem? hi)
  have HP : Hid (∀ q r, o.units.drop i = q :: r → q = p) := fun q r h => by
    have := congrArg (fun l => l[0]?) h
    simp only [List.getElem?_drop, Nat.add_zero, List.getElem?_cons_zero] at this
    rw [hi] at this
    exact (Option.some.inj this).symm
  clear hvi hu hl hi hso
  obtain ⟨b, off, Bu, mu, cu, q, rfl, hbl, hdr, c0, c1, hrs⟩ := HR.out i hlt
  obtain rfl := HP.out q _ hdr.out
  obtain ⟨_, _, _, h0, hmc, hcm2, HNS, HRS⟩ := hrs.out.op
  cases h0
  clear HP hdr
  go_enter Try.func53, Try.ntmps53
  go_upto_region 2 with (fail)
  generalize hW : World.alloc (World.alloc (World.alloc w _) _) _ = W
  have HBW : Hid (Below w.heap.size w W) := by rw [← hW]; repeat (first | assumption | exact Below.refl _ _ | refine Below.alloc ?_ (by first | omega | (simp; done) | (simp; omega)) _ | refine Below.drew ?_ | refine below_drewN ?_ _ | refine Below.setCell ?_ (by first | omega | (simp; done) | (simp; omega)) _)
  have z0 : W.cell? ⟨w.heap.size, 0, none⟩ = some (.slice Ai ni ci) := by rw [← hW]; simp [go_sem]
  have z1 : W.cell? ⟨w.heap.size + 1, 1, none⟩ = some (.slice (some ⟨b, off, none⟩) n c) := by rw [← hW]; simp [go_sem]
  have z2 : W.cell? ⟨w.heap.size + 1 + 1, 0, none⟩ = some (.string q.g) := by rw [← hW]; simp [go_sem]
  have z3 : W.cell? ⟨w.heap.size + 1 + 1, 1, none⟩ = some (.slice Bu mu cu) := by rw [← hW]; simp [go_sem]
  have hgW : w.heap.size + 1 + 1 < W.heap.size := by rw [← hW]; simp
  clear hW
  have HZ : Hid (∀ W' : World, Below W.heap.size W W' → W'.cell? ⟨w.heap.size, 0, none⟩ = some (.slice Ai ni ci) ∧ W'.cell? ⟨w.heap.size + 1, 1, none⟩ = some (.slice (some ⟨b, off, none⟩) n c) ∧ W'.cell? ⟨w.heap.size + 1 + 1, 0, none⟩ = some (.string q.g) ∧ W'.cell? ⟨w.heap.size + 1 + 1, 1, none⟩ = some (.slice Bu mu cu)) := fun W' h =>
    ⟨cell_keep (by omega) z0 h, cell_keep (by omega) z1 h, cell_keep (by omega) z2 h, cell_keep (by omega) z3 h⟩
  have HRW : Hid (∀ k, k < n → UAt W (some ⟨b, off, none⟩) o.units k) := fun k hk => (HR.out k hk).below HBW.out
  have HRI : Hid (∀ k, k < mu → IAt W Bu q.s k) := fun k hk => (HRS.out k hk).below HBW.out
  have HBO : Hid (∀ W' : World, Below W.heap.size W W' → Below w.heap.size w W') := fun W' h => bchain HBW.out h
  clear HBW HR HRS hrs c0 c1 z0 z1 z2 z3 hgW
  generalize hg : w.heap.size = g at HZ HBO ⊢
  have HG := Lib.hid hg
  clear hg
  obtain ⟨z0, z1, z2, z3⟩ := HZ.out W (Below.refl _ _)
  go_wp2_with fail
  refine (label17_any q.g _ hgs).mono ?_
  rintro e w2 ⟨⟨ok, rfl, hq⟩, hb⟩
  have HQ := Lib.hid hq
  have HB2 := Lib.hid hb
  clear hq hb z0 z1 z2 z3
  obtain ⟨z0, z1, z2, z3⟩ := HZ.out w2 HB2.out
  cases ok
  · go_wp2_with fail
    go_ret
    exact ⟨RetE.mk (UnitQ.ne (by decide)), by rw [HG.out]; exact HBO.out _ HB2.out⟩
  go_wp2_with fail
  clear z0 z1 z2 z3
  have hi0 : (0 : Int) ≤ (i : Int) := by omega
  go_loopw [8] (fun x wr => ∃ j : Nat, j ≤ i ∧ x = .int .i64 j ∧ Hid (∀ (k : Nat) (p' : PU), k < j → o.units[k]? = some p' → (p'.g.toList == q.g.toList) = false) ∧ Hid (Below W.heap.size W wr)) (fun x _ => i - (intOf x).toNat)
  case atStart => exact ⟨0, Nat.zero_le _, rfl, (fun k p' h => absurd h (by omega)), HB2.out⟩
  case round =>
    obtain ⟨j, hj, rfl, HNE, HB3⟩ := hrel
    obtain ⟨z0, z1, z2, z3⟩ := HZ.out wr HB3.out
    by_cases hjt : j < i
    · obtain ⟨b', off', B', m', c', p', hA, hbl', hdr', e0, _, _⟩ := (HRW.out j (by omega)).below HB3.out
      cases hA
      have HPJ : Hid (∀ p'' : PU, o.units[j]? = some p'' → p''.g = p'.g) := fun p'' h => by
        have := congrArg (fun l => l[0]?) hdr'.out
        simp only [List.getElem?_drop, Nat.add_zero, List.getElem?_cons_zero] at this
        rw [h] at this
        rw [Option.some.inj this]
      clear hdr'
      generalize p'.g = nm2 at e0 HPJ
      have hj0 : (0 : Int) ≤ (j : Int) := by omega
      have hj1 : (j : Int) < (n : Int) := by omega
      go_wp2_with fail
      go_quiet (fail)
      generalize hq2 : (nm2.toList == q.g.toList) = q2
      have HQ2 := Lib.hid hq2
      clear hq2
      cases q2
      · go_wp2_with fail
        go_roundw
        case rel => exact ⟨j + 1, by omega, by go_num, (fun k p'' hk hp => by
          by_cases hkj : k < j
          · exact HNE.out k p'' hkj hp
          · obtain rfl : k = j := by omega
            rw [HPJ.out p'' hp]; exact HQ2.out), below_drewN HB3.out _⟩
        case measure => simp [intOf]; omega
      · go_wp2_with fail
        go_ret
        exact ⟨RetE.mk (UnitQ.ne (by decide)), by rw [HG.out]; exact HBO.out _ (below_drewN HB3.out _)⟩
    · by_cases h1 : mu < 1
      · have d1 : decide ((mu : Int) < 1) = true := by simp; omega
        go_wp2_with fail
        go_ret
        exact ⟨RetE.mk (UnitQ.ne (by decide)), by rw [HG.out]; exact HBO.out _ HB3.out⟩
      have d1 : decide ((mu : Int) < 1) = false := by simp; omega
      by_cases h3 : 3 < mu
      · have d3 : decide ((3 : Int) < (mu : Int)) = true := by simp; omega
        go_wp2_with fail
        go_ret
        exact ⟨RetE.mk (UnitQ.ne (by decide)), by rw [HG.out]; exact HBO.out _ HB3.out⟩
      have d3 : decide ((3 : Int) < (mu : Int)) = false := by simp; omega
      go_wp2_with fail
      clear z0 z1 z2 z3 d1 d3
      obtain ⟨w3, rfl⟩ : ∃ w3 : World, w3 = wr := ⟨_, rfl⟩
      go_loopw [9] (fun x wr => ∃ j : Nat, j ≤ mu ∧ x = .int .i64 j ∧ Hid (Below W.heap.size W wr)) (fun x _ => mu - (intOf x).toNat)
      case atStart => exact ⟨0, Nat.zero_le _, rfl, HB3.out⟩
      case round =>
        obtain ⟨j2, hj2, rfl, HB4⟩ := hrel
        obtain ⟨z0, z1, z2, z3⟩ := HZ.out wr HB4.out
        by_cases hjt : j2 < mu
        · obtain ⟨b5, off5, x, rfl, hbl5, _, e0⟩ := (HRI.out j2 hjt).below HB4.out
          have hj0 : (0 : Int) ≤ (j2 : Int) := by omega
          have hj1 : (j2 : Int) < (mu : Int) := by omega
          by_cases hx : x < 1
          · have dx : decide (x < 1) = true := by simpa using hx
            go_wp2_with fail
            go_quiet (fail)
            go_wp2_with fail
            go_ret
            exact ⟨RetE.mk (UnitQ.ne (by decide)), by rw [HG.out]; exact HBO.out _ (below_drewN HB4.out _)⟩
          have dx : decide (x < 1) = false := by simpa using hx
          by_cases hx2 : (ni : Int) < x
          · have dx2 : decide ((ni : Int) < x) = true := by simpa using hx2
            go_wp2_with fail
            go_quiet (fail)
            go_wp2_with fail
            go_ret
            exact ⟨RetE.mk (UnitQ.ne (by decide)), by rw [HG.out]; exact HBO.out _ (below_drewN HB4.out _)⟩
          have dx2 : decide ((ni : Int) < x) = false := by simpa using hx2
          go_wp2_with fail
          go_quiet (fail)
          go_wp2_with fail
          go_roundw
          case rel => exact ⟨j2 + 1, by omega, by go_num, below_drewN HB4.out _⟩
          case measure => simp [intOf]; omega
        · go_wp2_with fail
          go_ret
          exact ⟨RetE.mk (Q := UnitQ o.units i q) (fun _ => ⟨⟨HQ.out rfl, by rw [HNS.out]; omega, by rw [HNS.out]; omega⟩, fun k p' hk hp => HNE.out k p' (by omega) hp⟩), by rw [HG.out]; exact HBO.out _ HB4.out⟩
end Go.Proofs.Ytokbclpdpegicaa
