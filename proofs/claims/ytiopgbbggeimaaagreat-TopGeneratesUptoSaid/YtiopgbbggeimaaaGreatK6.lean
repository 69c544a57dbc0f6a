/-
  The reference's Check of an entry, third part: links and references; the whole.
-/
import Derived.Test.YtiopgbbggeimaaaGreatK5
namespace Go.Proofs.YtiopgbbggeimaaaGreat
open Go.ChangeShapes Go.WideShapes Go.ChangeAt Go.RowKit
def LkBlk (w : World) (B : Nat) (t : TypeId) (x y : Int) : Prop := w.heap[B]? = some (.cells #[.int .i64 x, .int .i64 y] t (0, 0))
theorem LkBlk.facts {w : World} {B : Nat} {t : TypeId} {x y : Int} (h : LkBlk w B t x y) : w.cell? ⟨B, 0, none⟩ = some (.int .i64 x) ∧ w.cell? ⟨B, 1, none⟩ = some (.int .i64 y) ∧ B < w.heap.size := by
  refine ⟨?_, ?_, (Array.getElem?_eq_some_iff.1 h).1⟩ <;> rw [cell_of_row w B _ _ _ (0, 0) h] <;> rfl
theorem LkBlk.below {w w' : World} {B : Nat} {t : TypeId} {x y : Int} (h : LkBlk w B t x y) (hb : Below w.heap.size w w') : LkBlk w' B t x y := (hb.block B h.facts.2.2).trans h
set_option maxHeartbeats 8000000 in
set_option maxRecDepth 100000 in
theorem rlinks_any (e : EV) (p : PE) (w : World) (he : DpE w e p) :
    Calls Tryz.prog 102 #[.agg #[.int .i64 e.id, .slice e.f.A e.f.n e.f.c, .int .i64 e.cls, .slice e.a.A e.a.n e.a.c, .int .i64 e.main, .slice e.s.A e.s.n e.s.c, .slice e.l.A e.l.n e.l.c, .slice e.r.A e.r.n e.r.c]] w fun e' w' => RetE AnyE e' ∧ Below w.heap.size w w' := by
  have HE := Lib.hid he
  clear he
  go_enter Tryz.func102, Tryz.ntmps102
  go_upto_region 1 with (fail)
  generalize hW : World.alloc w _ = W
  have HBW : Hid (Below w.heap.size w W) := by rw [← hW]; exact al_below _ _
  have HQ : Hid (EBlk W w.heap.size e) := by rw [← hW]; exact heap_alloc_new w _
  clear hW
  obtain ⟨z0, z1, z2, z3, z4, z5, z6, z7, zl⟩ := HQ.out.facts
  by_cases hc3 : 12 < e.l.n
  · have d3 : decide ((12 : Int) < (e.l.n : Int)) = true := by simp; omega
    go_wp2_with fail
    go_ret
    exact ⟨RetE.mk trivial, HBW.out⟩
  have d3 : decide ((12 : Int) < (e.l.n : Int)) = false := by simp; omega
  go_wp2_with fail
  clear z0 z1 z2 z3 z4 z5 z6 z7 zl d3
  obtain ⟨_, _, _, h0, _, hcm, HN, HR⟩ := (HE.out.l.below HBW.out).op
  cases h0
  go_loopw [3] (fun vi wr => ∃ k : Nat, k ≤ e.l.n ∧ vi = .int .i64 k ∧ Hid (Below W.heap.size W wr)) (fun vi _ => e.l.n - (intOf vi).toNat)
  case atStart => exact ⟨0, Nat.zero_le _, rfl, Below.refl _ _⟩
  case round =>
    obtain ⟨k, hk, rfl, HBR⟩ := hrel
    obtain ⟨z0, z1, z2, z3, z4, z5, z6, z7, zl⟩ := (HQ.out.below HBR.out).facts
    by_cases hlt : k < e.l.n
    · obtain ⟨b, off, q, hA, hbl, hdl, c0, c1⟩ := (HR.out k hlt).below HBR.out
      have hk0 : (0 : Int) ≤ (k : Int) := by omega
      have HZA := Lib.hid hA
      rw [hA] at z6
      clear hA
      obtain ⟨wo, rfl⟩ : ∃ wo : World, wo = wr := ⟨_, rfl⟩
      go_upto_region 7 with (fail)
      generalize hX : World.alloc wo _ = X
      have HXB : Hid (Below W.heap.size W X) := by rw [← hX]; exact HBR.out.alloc HBR.out.size _
      have HXL : Hid (LkBlk X wo.heap.size 134 q.x q.y) := by rw [← hX]; exact heap_alloc_new wo _
      clear hX z0 z1 z2 z3 z4 z5 z6 z7 zl c0 c1
      generalize wo.heap.size = gx at HXL ⊢
      obtain ⟨z0, z1, z2, z3, z4, z5, z6, z7, zl⟩ := (HQ.out.below HXB.out).facts
      rw [HZA.out] at z6
      obtain ⟨t0, t1, tl⟩ := HXL.out.facts
      go_cut [28] (fun s28 wx => ∃ b : Bool, s28 = .bool b ∧ X = wx)
      case first =>
        cases hm : decide (q.x < 0)
        · cases hm2 : decide (5 < q.x)
          · go_wp2_with fail
            go_meet
            exact ⟨_, rfl, rfl⟩
          · go_wp2_with fail
            go_meet
            exact ⟨_, rfl, rfl⟩
        · go_wp2_with fail
          go_meet
          exact ⟨_, rfl, rfl⟩
      case rest =>
        obtain ⟨bb, rfl, rfl⟩ := hcut
        cases bb
        rotate_left
        · skip
          go_wp2_with fail
          go_ret
          exact ⟨RetE.mk trivial, bchain HBW.out HXB.out⟩
        go_wp2_with fail
        refine (ident_any q.y _).mono ?_
        rintro e' w1 ⟨rfl, rfl⟩
        cases idB q.y
        · skip
          go_wp2_with fail
          go_ret
          exact ⟨RetE.mk trivial, bchain HBW.out HXB.out⟩
        cases hm2 : (q.y == e.id)
        rotate_left
        · skip
          go_wp2_with fail
          go_ret
          exact ⟨RetE.mk trivial, bchain HBW.out HXB.out⟩
        go_upto_region 13 with (fail)
        clear hm2
        go_cut [75] (fun s75 wx => ∃ b : Bool, s75 = .bool b ∧ Below X.heap.size X wx)
        case first =>
          by_cases hkz : k = 0
          · have d0 : decide ((0 : Int) < (k : Int)) = false := by simp [hkz]
            have d0' : decide (0 < k) = false := by simp [hkz]
            clear hkz
            go_quiet (fail)
            go_wp2_with fail
            go_meet
            exact ⟨_, rfl, by first | exact Below.refl _ _ | exact below_drewN (Below.refl _ _) _ | exact (Below.refl _ _).drew⟩
          obtain ⟨b2, off2, q2, hA2, hbl2, hdl2, f0, f1⟩ := (HR.out (k - 1) (by omega)).below HXB.out
          have h2 := HZA.out.symm.trans hA2
          injection h2 with h2
          injection h2 with h3 h4
          subst h3 h4
          clear hA2
          have d0 : decide ((0 : Int) < (k : Int)) = true := by simp; omega
          have d0' : decide (0 < k) = true := by simp; omega
          have hk1 : (k : Int) - 1 = ((k - 1 : Nat) : Int) := by omega
          have hk2 : k - 1 < e.l.n := by omega
          clear hkz
          cases hd1 : decide (q.x < q2.x)
          · cases hd2 : (q.x == q2.x)
            · go_quiet (fail)
              go_wp2_with fail
              go_meet
              exact ⟨_, rfl, by first | exact Below.refl _ _ | exact below_drewN (Below.refl _ _) _ | exact (Below.refl _ _).drew⟩
            · cases hd3 : decide (q.y ≤ q2.y)
              · go_quiet (fail)
                go_wp2_with fail
                go_meet
                exact ⟨_, rfl, by first | exact Below.refl _ _ | exact below_drewN (Below.refl _ _) _ | exact (Below.refl _ _).drew⟩
              · go_quiet (fail)
                go_wp2_with fail
                go_meet
                exact ⟨_, rfl, by first | exact Below.refl _ _ | exact below_drewN (Below.refl _ _) _ | exact (Below.refl _ _).drew⟩
          · go_quiet (fail)
            go_wp2_with fail
            go_meet
            exact ⟨_, rfl, by first | exact Below.refl _ _ | exact below_drewN (Below.refl _ _) _ | exact (Below.refl _ _).drew⟩
        case rest =>
          obtain ⟨bb, rfl, hb⟩ := hcut
          have HY := Lib.hid hb
          clear hb
          cases bb
          · go_wp2_with fail
            go_roundw
            case rel => exact ⟨k + 1, by omega, by go_num, bchain HXB.out HY.out⟩
            case measure => simp [intOf]; omega
          · go_wp2_with fail
            go_ret
            exact ⟨RetE.mk trivial, bchain HBW.out (bchain HXB.out HY.out)⟩
    · obtain rfl : e.l.n = k := by omega
      go_wp2_with fail
      go_ret
      exact ⟨RetE.mk trivial, bchain HBW.out HBR.out⟩
end Go.Proofs.YtiopgbbggeimaaaGreat
