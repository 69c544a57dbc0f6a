/-
  The reference's Check of an entry: references; the whole.
-/
import Derived.Test.YtiopgbbggeimaaaGreatK6
namespace Go.Proofs.YtiopgbbggeimaaaGreat
open Go.ChangeShapes Go.WideShapes Go.ChangeAt Go.RowKit
set_option maxHeartbeats 1000000 in
set_option maxRecDepth 100000 in
theorem ref_any (x y : Int) (w : World) : Calls Tryz.prog 124 #[.agg #[.int .i64 x, .int .i64 y]] w fun e w' => RetB AnyB e ∧ Below w.heap.size w w' := by
  go_enter Tryz.func124, Tryz.ntmps124
  go_upto_region 1 with (fail)
  generalize hW : World.alloc w _ = W
  have HBW : Hid (Below w.heap.size w W) := by rw [← hW]; exact al_below _ _
  have HP : Hid (LkBlk W w.heap.size 193 x y) := by rw [← hW]; exact heap_alloc_new w _
  clear hW
  obtain ⟨t0, t1, tl⟩ := HP.out.facts
  go_wp2_with fail
  refine (ident_any x _).mono ?_
  rintro e' w1 ⟨rfl, rfl⟩
  cases idB x
  · go_wp2_with fail
    go_ret
    exact ⟨RetB.mk trivial, HBW.out⟩
  · go_wp2_with fail
    refine (ident_any y _).mono ?_
    rintro e' w1 ⟨rfl, rfl⟩
    go_wp2_with fail
    go_ret
    exact ⟨RetB.mk trivial, HBW.out⟩
set_option maxHeartbeats 1000000 in
set_option maxRecDepth 100000 in
theorem prec_any (x y x2 y2 : Int) (w : World) : Calls Tryz.prog 125 #[.agg #[.int .i64 x, .int .i64 y], .agg #[.int .i64 x2, .int .i64 y2]] w fun e w' => RetB AnyB e ∧ Below w.heap.size w w' := by
  go_enter Tryz.func125, Tryz.ntmps125
  go_upto_region 1 with (fail)
  generalize hW : World.alloc (World.alloc w _) _ = W
  have HBW : Hid (Below w.heap.size w W) := by rw [← hW]; exact bchain (al_below _ _) (al_below _ _)
  have HP : Hid (LkBlk W w.heap.size 193 x y) := by rw [← hW]; exact LkBlk.below (heap_alloc_new w _) (al_below _ _)
  have HQ : Hid (LkBlk W (w.heap.size + 1) 193 x2 y2) := by
    have h := heap_alloc_new (w.alloc (.cells #[.int .i64 x, .int .i64 y] 193)) (.cells #[.int .i64 x2, .int .i64 y2] 193)
    rw [World.size_alloc] at h
    rw [← hW]; exact h
  clear hW
  obtain ⟨t0, t1, tl⟩ := HP.out.facts
  obtain ⟨s0, s1, sl⟩ := HQ.out.facts
  cases h1 : decide (x < x2)
  · cases h2 : (x == x2)
    · go_wp2_with fail
      go_ret
      exact ⟨RetB.mk trivial, HBW.out⟩
    · go_wp2_with fail
      go_ret
      exact ⟨RetB.mk trivial, HBW.out⟩
  · go_wp2_with fail
    go_ret
    exact ⟨RetB.mk trivial, HBW.out⟩
set_option maxHeartbeats 4000000 in
set_option maxRecDepth 100000 in
theorem refs_any (v : Value) (l : List P2) (w : World) (hv : RdP2 w v l) :
    Calls Tryz.prog 103 #[v, .int .i64 12] w fun e w' => RetE AnyE e ∧ Below w.heap.size w w' := by
  obtain ⟨A, n, c, rfl, _, hc63, HN, HR⟩ := hv.op
  clear hv
  by_cases hc3 : 12 < n
  · have d3 : decide ((12 : Int) < (n : Int)) = true := by simp; omega
    go_enter Tryz.func103, Tryz.ntmps103
    go_wp2_with fail
    go_ret
    exact ⟨RetE.mk trivial, Below.refl _ _⟩
  have d3 : decide ((12 : Int) < (n : Int)) = false := by simp; omega
  go_enter Tryz.func103, Tryz.ntmps103
  go_wp2_with fail
  clear d3
  go_loopw [5] (fun vi wr => ∃ k : Nat, k ≤ n ∧ vi = .int .i64 k ∧ Hid (Below w.heap.size w wr)) (fun vi _ => n - (intOf vi).toNat)
  case atStart => exact ⟨0, Nat.zero_le _, rfl, Below.refl _ _⟩
  case round =>
    obtain ⟨k, hk, rfl, HBR⟩ := hrel
    by_cases hlt : k < n
    · obtain ⟨b, off, q, hA, hbl, hdl, c0, c1⟩ := (HR.out k hlt).below HBR.out
      have HRR := HR
      subst hA
      have hk0 : (0 : Int) ≤ (k : Int) := by omega
      go_wp2_with fail
      refine (ref_any q.x q.y _).mono ?_
      rintro e w1 ⟨⟨b1, rfl, _⟩, hb⟩
      have HB1 := Lib.hid hb
      clear hb
      cases b1
      · go_wp2_with fail
        go_ret
        exact ⟨RetE.mk trivial, bchain HBR.out HB1.out⟩
      go_upto_region 8 with (fail)
      refine wp_region_mix 12 [0, 1, 2, 3, 4, 5, 6, 7, 8, 9, 10, 11] [] [(true, 0), (true, 1), (true, 2), (true, 3), (true, 4), (true, 5), (true, 6), (true, 7), (true, 8), (true, 9), (true, 10), (true, 11), (false, 12), (false, 13), (false, 14)] (fun w' => Below w1.heap.size w1 w') (by kernel_rfl) (by kernel_rfl) ?_
      rintro D hD
      have HSD : Hid (Below w1.heap.size w1 D) := by rw [hD]; exact (Below.refl _ _).drew
      clear hD
      refine ⟨HSD.out, ?_⟩
      by_cases hkz : k = 0
      · have d0 : decide ((0 : Int) < (k : Int)) = false := by simp [hkz]
        have d0' : decide (0 < k) = false := by simp [hkz]
        have HS : Hid (∀ w' : World, Below w1.heap.size w1 w' → True) := fun _ _ => trivial
        clear hkz c0 c1
        iterate 3 (refine wpMix_q (v := ?_) rfl rfl (fun w' hS => ?_) ?_; rotate_left; (focus ((try obtain _ := HS.out _ (hS rfl)); clear hS; go_simp; try with_reducible rfl; done)); (try simp only [Act.put, List.setIfInBounds_toArray, List.set_cons_zero, List.set_cons_succ]))
        iterate 9 (refine wpMix_qskip rfl rfl ?_; (try simp only [Act.put, List.setIfInBounds_toArray, List.set_cons_zero, List.set_cons_succ]))
        iterate 2 (refine wpMix_eskip rfl rfl (HSD).out ?_; (try simp only [Act.put, List.setIfInBounds_toArray, List.set_cons_zero, List.set_cons_succ]))
        (refine wpMix_e rfl rfl (fun K hK => ?_); go_simp; refine hK.out _ _ (fun h => absurd h (by decide)) ?_; clear hK K; (try simp only [Act.put, List.setIfInBounds_toArray, List.set_cons_zero, List.set_cons_succ]))
        refine wpMix_nil ?_
        refine NoPanic.normal ?_
        clear HS
        go_wp2_with fail
        go_roundw
        case rel => exact ⟨k + 1, by omega, by go_num, bchain HBR.out (bchain HB1.out HSD.out)⟩
        case measure => simp [intOf]; omega
      · obtain ⟨b2, off2, q2, hA2, hbl2, hdl2, f0, f1⟩ := (HRR.out (k - 1) (by omega)).below HBR.out
        injection hA2 with h2
        injection h2 with h3 h4
        subst h3 h4
        have d0 : decide ((0 : Int) < (k : Int)) = true := by simp; omega
        have d0' : decide (0 < k) = true := by simp; omega
        have hk1 : (k : Int) - 1 = ((k - 1 : Nat) : Int) := by omega
        have hk2 : k - 1 < n := by omega
        have hwr : IntKind.i64.wrap ((k - 1 : Nat) : Int) = ((k - 1 : Nat) : Int) := IntWalk.i64_in _ (by omega)
        have hb1 : b < w1.heap.size := by have := HB1.out.size; omega
        have HS : Hid (∀ w' : World, Below w1.heap.size w1 w' → w'.cell? ⟨b, off + k * 2, none⟩ = some (.int .i64 q.x) ∧ w'.cell? ⟨b, off + k * 2 + 1, none⟩ = some (.int .i64 q.y) ∧
            w'.cell? ⟨b, off + (k - 1) * 2, none⟩ = some (.int .i64 q2.x) ∧ w'.cell? ⟨b, off + (k - 1) * 2 + 1, none⟩ = some (.int .i64 q2.y)) :=
          fun w' h => ⟨((bchain HB1.out h).cell (p := ⟨b, off + k * 2, none⟩) hbl).trans c0, ((bchain HB1.out h).cell (p := ⟨b, off + k * 2 + 1, none⟩) hbl).trans c1, ((bchain HB1.out h).cell (p := ⟨b, off + (k - 1) * 2, none⟩) hbl).trans f0, ((bchain HB1.out h).cell (p := ⟨b, off + (k - 1) * 2 + 1, none⟩) hbl).trans f1⟩
        clear hkz c0 c1 f0 f1
        iterate 12 (refine wpMix_q (v := ?_) rfl rfl (fun w' hS => ?_) ?_; rotate_left; (focus ((try obtain ⟨s0, s1, s2, s3⟩ := HS.out _ (hS rfl)); clear hS; go_simp; try with_reducible rfl; done)); (try simp only [Act.put, List.setIfInBounds_toArray, List.set_cons_zero, List.set_cons_succ]))
        refine wpMix_e rfl rfl (fun K hK => ?_)
        go_simp
        refine (prec_any q2.x q2.y q.x q.y _).mono ?_
        rintro e w2 ⟨⟨bb, rfl, _⟩, hb⟩
        have HB2 := Lib.hid (bchain HSD.out hb)
        refine hK.out _ _ (fun _ => HB2.out) ?_
        clear hK K hb
        (try simp only [Act.put, List.setIfInBounds_toArray, List.set_cons_zero, List.set_cons_succ])
        iterate 2 (refine wpMix_e rfl rfl (fun K hK => ?_); go_simp; refine hK.out _ _ (fun h => absurd h (by decide)) ?_; clear hK K; (try simp only [Act.put, List.setIfInBounds_toArray, List.set_cons_zero, List.set_cons_succ]))
        refine wpMix_nil ?_
        refine NoPanic.normal ?_
        clear HS d0 d0' hk1 hwr
        cases bb
        · go_wp2_with fail
          go_ret
          exact ⟨RetE.mk trivial, bchain HBR.out (bchain HB1.out HB2.out)⟩
        · go_wp2_with fail
          go_roundw
          case rel => exact ⟨k + 1, by omega, by go_num, bchain HBR.out (bchain HB1.out HB2.out)⟩
          case measure => simp [intOf]; omega
    · go_wp2_with fail
      go_ret
      exact ⟨RetE.mk trivial, HBR.out⟩
/-- what an entry that is right has -/
structure EntOk (I : List PPh) (p : PE) : Prop extends WordsOk I p where
  sl : p.senses.length ≤ 5
def EntQ (I : List PPh) (p : PE) (x : Int) : Prop := x = 0 → EntOk I p
theorem EntQ.no {I : List PPh} {p : PE} {x : Int} (h : x ≠ 0) : EntQ I p x := fun h' => absurd h' h
set_option maxHeartbeats 4000000 in
set_option maxRecDepth 100000 in
theorem rent_any (v : Value) (I : List PPh) (e : EV) (p : PE) (w : World) (hv : RdVQ w v I) (he : DpE w e p) (hsm : SmPE p) :
    Calls Tryz.prog 69 #[v, .agg #[.int .i64 e.id, .slice e.f.A e.f.n e.f.c, .int .i64 e.cls, .slice e.a.A e.a.n e.a.c, .int .i64 e.main, .slice e.s.A e.s.n e.s.c, .slice e.l.A e.l.n e.l.c, .slice e.r.A e.r.n e.r.c]] w fun e' w' => RetE (EntQ I p) e' ∧ Below w.heap.size w w' := by
  obtain ⟨A0, n0, c0, rfl⟩ := rdV_form hv
  have HV := Lib.hid hv
  have HE := Lib.hid he
  have HSM := Lib.hid hsm
  clear hv he hsm
  go_enter Tryz.func69, Tryz.ntmps69
  go_upto_region 1 with (fail)
  generalize hW : World.alloc (World.alloc w _) _ = W
  have HBW : Hid (Below w.heap.size w W) := by rw [← hW]; exact bchain (al_below _ _) (al_below _ _)
  have HP : Hid (VBlk W w.heap.size (.slice A0 n0 c0)) := by rw [← hW]; exact VBlk.below (heap_alloc_new w _) (al_below _ _)
  have HQ : Hid (EBlk W (w.heap.size + 1) e) := by
    have h := heap_alloc_new (w.alloc (.cells #[.slice A0 n0 c0] 24)) (.cells #[.int .i64 e.id, .slice e.f.A e.f.n e.f.c, .int .i64 e.cls, .slice e.a.A e.a.n e.a.c, .int .i64 e.main, .slice e.s.A e.s.n e.s.c, .slice e.l.A e.l.n e.l.c, .slice e.r.A e.r.n e.r.c] 85)
    rw [World.size_alloc] at h
    rw [← hW]; exact h
  clear hW
  obtain ⟨z0, z1, z2, z3, z4, z5, z6, z7, zl⟩ := HQ.out.facts
  have y0 := HP.out.cell
  go_wp2_with fail
  refine (words_any _ I e p _ (HV.out.below HBW.out) (HE.out.below HBW.out)).mono ?_
  rintro e' w1 ⟨⟨x, rfl, hx⟩, hb⟩
  have HB1 := Lib.hid (bchain HBW.out hb)
  have HX := Lib.hid hx
  have HQ1 := Lib.hid (HQ.out.below hb)
  clear hb hx z0 z1 z2 z3 z4 z5 z6 z7 zl y0
  obtain ⟨z0, z1, z2, z3, z4, z5, z6, z7, zl⟩ := HQ1.out.facts
  by_cases hx0 : x = 0
  rotate_left
  · have d : (x != 0) = true := by simp [hx0]
    go_wp2_with fail
    go_ret
    exact ⟨RetE.mk (EntQ.no hx0), HB1.out⟩
  have HW1 := Lib.hid (HX.out hx0)
  subst hx0
  go_wp2_with fail
  refine (rsens_any e p _ (HE.out.below HB1.out) HSM.out).mono ?_
  rintro e' w2 ⟨⟨x, rfl, hx⟩, hb⟩
  have HB2 := Lib.hid (bchain HB1.out hb)
  have HX2 := Lib.hid hx
  have HQ2 := Lib.hid (HQ1.out.below hb)
  clear hb hx z0 z1 z2 z3 z4 z5 z6 z7 zl
  obtain ⟨z0, z1, z2, z3, z4, z5, z6, z7, zl⟩ := HQ2.out.facts
  by_cases hx0 : x = 0
  rotate_left
  · have d : (x != 0) = true := by simp [hx0]
    go_wp2_with fail
    go_ret
    exact ⟨RetE.mk (EntQ.no hx0), HB2.out⟩
  have HOK : Hid (EntOk I p) := { HW1.out with sl := HX2.out hx0 }
  subst hx0
  go_wp2_with fail
  refine (rlinks_any e p _ (HE.out.below HB2.out)).mono ?_
  rintro e' w3 ⟨⟨x, rfl, _⟩, hb⟩
  have HB3 := Lib.hid (bchain HB2.out hb)
  have HQ3 := Lib.hid (HQ2.out.below hb)
  clear hb z0 z1 z2 z3 z4 z5 z6 z7 zl
  obtain ⟨z0, z1, z2, z3, z4, z5, z6, z7, zl⟩ := HQ3.out.facts
  by_cases hx0 : x = 0
  rotate_left
  · have d : (x != 0) = true := by simp [hx0]
    go_wp2_with fail
    go_ret
    exact ⟨RetE.mk (EntQ.no hx0), HB3.out⟩
  subst hx0
  go_wp2_with fail
  refine (refs_any _ p.refs _ (HE.out.r.below HB3.out)).mono ?_
  rintro e' w4 ⟨⟨x, rfl, _⟩, hb⟩
  have HB4 := Lib.hid (bchain HB3.out hb)
  clear hb
  go_wp2_with fail
  go_ret
  exact ⟨RetE.mk (fun _ => HOK.out), HB4.out⟩
end Go.Proofs.YtiopgbbggeimaaaGreat
