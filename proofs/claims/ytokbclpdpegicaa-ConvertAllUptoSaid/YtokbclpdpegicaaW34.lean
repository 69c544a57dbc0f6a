/-
  The walk of the statement Normal.
-/
import Derived.Test.YtokbclpdpegicaaW33
namespace Go.Proofs.Ytokbclpdpegicaa
open Go.ChangeShapes Go.WideShapes Go.ChangeAt Go.RowKit
set_option maxHeartbeats 8000000 in
set_option maxRecDepth 100000 in
theorem normal_law_any (v : Value) (x : PAsk) (w : World) (hv : RdK w v x) (hs : SmK x) :
    Calls Try.prog 5 #[v] w fun e w' => e = .returned (.bool true) ∧ Below w.heap.size w w' := by
  have HS := Lib.hid hs
  have HKV := Lib.hid hv
  obtain ⟨vi, ua, la, ub, lb, rfl, hi, ha, hb⟩ := hv
  have HA := Lib.hid ha
  have HB := Lib.hid hb
  obtain ⟨Ai, ni, ci, rfl, _, _, HNI, _⟩ := hi.op
  obtain ⟨A1, n1, c1, B1, m1, d1, he, _, _, _, _⟩ := ha.op
  obtain ⟨A2, n2, c2, B2, m2, d2, he2, _, _, _, _⟩ := hb.op
  cases he
  cases he2
  clear hi ha hb hs
  go_enter Try.func5, Try.ntmps5
  go_upto_region 1 with (fail)
  generalize hW : World.alloc w _ = W
  have HBW : Hid (Below w.heap.size w W) := by rw [← hW]; repeat (first | assumption | exact Below.refl _ _ | refine Below.alloc ?_ (by first | omega | (simp; done) | (simp; omega)) _ | refine Below.drew ?_ | refine below_drewN ?_ _ | refine Below.setCell ?_ (by first | omega | (simp; done) | (simp; omega)) _)
  have HK : Hid (W.heap[w.heap.size]? = some (.cells #[.slice Ai ni ci, .string x.a.name, .slice A1 n1 c1, .slice B1 m1 d1, .string x.b.name, .slice A2 n2 c2, .slice B2 m2 d2, .string x.s, .string x.t] 30 (0, 0))) := by rw [← hW]; exact heap_alloc_new w _
  have hgW : w.heap.size < W.heap.size := by rw [← hW]; simp
  have HKW : Hid (RdK W _ x) := HKV.out.below HBW.out
  have HVA : Hid (∀ W' : World, Below W.heap.size W W' → RdO W' (.agg #[.string x.a.name, .slice A1 n1 c1, .slice B1 m1 d1]) x.a) := fun W' h => (HA.out.below HBW.out).below h
  have HVB : Hid (∀ W' : World, Below W.heap.size W W' → RdO W' (.agg #[.string x.b.name, .slice A2 n2 c2, .slice B2 m2 d2]) x.b) := fun W' h => (HB.out.below HBW.out).below h
  have HBO : Hid (∀ W' : World, Below W.heap.size W W' → Below w.heap.size w W') := fun W' h => bchain HBW.out h
  clear HBW hW
  generalize hg : w.heap.size = g at HK HBO hgW ⊢
  have HG := Lib.hid hg
  clear hg
  have HZ : Hid (∀ W' : World, Below W.heap.size W W' → W'.cell? ⟨g, 0, none⟩ = some (.slice Ai ni ci) ∧ W'.cell? ⟨g, 1, none⟩ = some (.string x.a.name) ∧ W'.cell? ⟨g, 2, none⟩ = some (.slice A1 n1 c1) ∧ W'.cell? ⟨g, 3, none⟩ = some (.slice B1 m1 d1) ∧ W'.cell? ⟨g, 4, none⟩ = some (.string x.b.name) ∧ W'.cell? ⟨g, 5, none⟩ = some (.slice A2 n2 c2) ∧ W'.cell? ⟨g, 6, none⟩ = some (.slice B2 m2 d2) ∧ W'.cell? ⟨g, 7, none⟩ = some (.string x.s) ∧ W'.cell? ⟨g, 8, none⟩ = some (.string x.t)) := fun W' h => by
    have hk := (h.block g hgW).trans HK.out
    refine ⟨?_, ?_, ?_, ?_, ?_, ?_, ?_, ?_, ?_⟩ <;> (rw [cell_of_row W' g _ _ _ (0, 0) hk]; rfl)
  clear HK
  obtain ⟨z0, z1, z2, z3, z4, z5, z6, z7, z8⟩ := HZ.out W (Below.refl _ _)
  go_wp2_with fail
  refine (right_any _ x _ HKW.out HS.out).mono ?_
  rintro e w1 ⟨⟨ok, rfl, hq⟩, hb⟩
  have HQ := Lib.hid hq
  have HB1 := Lib.hid hb
  clear hq hb z0 z1 z2 z3 z4 z5 z6 z7 z8
  cases ok
  · go_wp2_with fail
    refine (awake_any _).mono ?_
    rintro e w2 ⟨rfl, hb⟩
    have HB2 := Lib.hid (bchain HB1.out hb)
    clear hb
    go_wp2_with fail
    go_ret
    exact ⟨rfl, by rw [HG.out]; exact HBO.out _ HB2.out⟩
  have hok := HQ.out rfl
  have hs200 : x.s.size ≤ 200 := hok.s
  have ht200 : x.t.size ≤ 200 := hok.t
  have hxs : x.s.size ≤ 67108864 := by omega
  have hxt : x.t.size ≤ 67108864 := by omega
  have HOK := Lib.hid hok
  clear hok HQ
  obtain ⟨z0, z1, z2, z3, z4, z5, z6, z7, z8⟩ := HZ.out w1 HB1.out
  obtain ⟨r, hr⟩ : ∃ r, convF x.a.units x.a.units x.s = r := ⟨_, rfl⟩
  have HR := Lib.hid hr
  clear hr
  obtain ⟨fa, hfa⟩ : ∃ fa, faithF x.a.units x.s = fa := ⟨_, rfl⟩
  have HFA := Lib.hid hfa
  clear hfa
  go_wp2_with fail
  refine (normal_any _ x.a x.s _ (HVA.out _ HB1.out) HS.out.a HOK.out.a.good hxs).mono ?_
  rintro e w2 ⟨he, hb⟩
  rw [HR.out] at he
  obtain rfl := he
  have HB2 := Lib.hid (bchain HB1.out hb)
  clear hb
  clear z0 z1 z2 z3 z4 z5 z6 z7 z8
  obtain ⟨z0, z1, z2, z3, z4, z5, z6, z7, z8⟩ := HZ.out w2 HB2.out
  go_wp2_with fail
  refine (normal18_any _ x.a x.s _ (HVA.out _ HB2.out) HS.out.a HOK.out.a.good hxs).mono ?_
  rintro e w3 ⟨he, hb⟩
  rw [HR.out] at he
  obtain rfl := he
  have HB3 := Lib.hid (bchain HB2.out hb)
  clear hb
  clear z0 z1 z2 z3 z4 z5 z6 z7 z8
  obtain ⟨z0, z1, z2, z3, z4, z5, z6, z7, z8⟩ := HZ.out w3 HB3.out
  go_wp2_with fail
  refine wp_region_mix 23 [0, 1, 2, 3, 4, 5, 6, 7, 8, 9, 10, 11, 12, 13, 14, 15, 16, 17, 18, 19, 20, 21, 22] [] [(true, 0), (true, 1), (true, 2), (true, 3), (true, 4), (true, 5), (true, 6), (true, 7), (true, 8), (true, 9), (true, 10), (true, 11), (true, 12), (true, 13), (true, 14), (true, 15), (true, 16), (true, 17), (true, 19), (true, 20), (true, 21), (true, 22), (false, 18), (false, 23), (false, 24), (false, 25), (false, 26), (false, 27), (false, 28), (false, 29)] (fun w' => Below w3.heap.size w3 w') (by kernel_rfl) (by kernel_rfl) ?_
  rintro D hD
  have HSD : Hid (Below w3.heap.size w3 D) := by rw [hD]; exact (Below.refl _ _).drew
  clear hD
  refine ⟨HSD.out, ?_⟩
  have HS' : Hid (∀ w' : World, Below w3.heap.size w3 w' → w'.cell? ⟨g, 0, none⟩ = some (.slice Ai ni ci) ∧ w'.cell? ⟨g, 1, none⟩ = some (.string x.a.name) ∧ w'.cell? ⟨g, 2, none⟩ = some (.slice A1 n1 c1) ∧ w'.cell? ⟨g, 3, none⟩ = some (.slice B1 m1 d1) ∧ w'.cell? ⟨g, 4, none⟩ = some (.string x.b.name) ∧ w'.cell? ⟨g, 5, none⟩ = some (.slice A2 n2 c2) ∧ w'.cell? ⟨g, 6, none⟩ = some (.slice B2 m2 d2) ∧ w'.cell? ⟨g, 7, none⟩ = some (.string x.s) ∧ w'.cell? ⟨g, 8, none⟩ = some (.string x.t)) := fun w' h => HZ.out w' (bchain HB3.out h)
  have HSM := HS
  clear HS
  have HS := HS'
  iterate 22 (refine wpMix_q (v := ?_) rfl rfl (fun w' hS => ?_) ?_; rotate_left; (focus ((try obtain ⟨s0, s1, s2, s3, s4, s5, s6, s7, s8⟩ := HS.out _ (hS rfl)); clear hS; go_simp; try with_reducible rfl; done)); (try simp only [Act.put, List.setIfInBounds_toArray, List.set_cons_zero, List.set_cons_succ]))
  refine wpMix_e rfl rfl (fun K hK => ?_)
  go_simp
  refine (faithful_any _ x.a x.s _ (HVA.out _ (bchain HB3.out HSD.out)) HSM.out.a HOK.out.a.good hxs).mono ?_
  rw [HFA.out]
  rintro e Y1 ⟨rfl, hb⟩
  refine hK.out _ _ (fun _ => bchain HSD.out hb) ?_
  clear hK K
  (try simp only [Act.put, List.setIfInBounds_toArray, List.set_cons_zero, List.set_cons_succ])
  have HSY1 := Lib.hid (bchain HSD.out hb)
  clear hb
  refine wpMix_e rfl rfl (fun K hK => ?_)
  go_simp
  refine (faithful18_any _ x.a x.s _ (HVA.out _ (bchain HB3.out HSY1.out)) HSM.out.a HOK.out.a.good hxs).mono ?_
  rw [HFA.out]
  rintro e Y2 ⟨rfl, hb⟩
  refine hK.out _ _ (fun _ => bchain HSY1.out hb) ?_
  clear hK K
  (try simp only [Act.put, List.setIfInBounds_toArray, List.set_cons_zero, List.set_cons_succ])
  have HSY2 := Lib.hid (bchain HSY1.out hb)
  clear hb
  cases fa
  all_goals clear HFA
  · skip
    iterate 3 (refine wpMix_e rfl rfl (fun K hK => ?_); go_simp; refine hK.out _ _ (fun h => absurd h (by decide)) ?_; clear hK K; (try simp only [Act.put, List.setIfInBounds_toArray, List.set_cons_zero, List.set_cons_succ]))
    refine wpMix_e rfl rfl (fun K hK => ?_)
    go_simp
    refine (awake_any _).mono ?_
    rintro e Y3 ⟨rfl, hb⟩
    refine hK.out _ _ (fun _ => bchain HSY2.out hb) ?_
    clear hK K
    (try simp only [Act.put, List.setIfInBounds_toArray, List.set_cons_zero, List.set_cons_succ])
    have HSY3 := Lib.hid (bchain HSY2.out hb)
    clear hb
    iterate 2 (refine wpMix_e rfl rfl (fun K hK => ?_); go_simp; refine hK.out _ _ (fun h => absurd h (by decide)) ?_; clear hK K; (try simp only [Act.put, List.setIfInBounds_toArray, List.set_cons_zero, List.set_cons_succ]))
    refine wpMix_nil ?_
    refine NoPanic.normal ?_
    go_wp2_with fail
    go_ret
    exact ⟨rfl, by rw [HG.out]; exact HBO.out _ (bchain HB3.out HSY3.out)⟩
  · skip
    iterate 3 (refine wpMix_e rfl rfl (fun K hK => ?_); go_simp; refine hK.out _ _ (fun h => absurd h (by decide)) ?_; clear hK K; (try simp only [Act.put, List.setIfInBounds_toArray, List.set_cons_zero, List.set_cons_succ]))
    refine wpMix_e rfl rfl (fun K hK => ?_)
    go_simp
    refine (awake_any _).mono ?_
    rintro e Y3 ⟨rfl, hb⟩
    refine hK.out _ _ (fun _ => bchain HSY2.out hb) ?_
    clear hK K
    (try simp only [Act.put, List.setIfInBounds_toArray, List.set_cons_zero, List.set_cons_succ])
    have HSY3 := Lib.hid (bchain HSY2.out hb)
    clear hb
    iterate 2 (refine wpMix_e rfl rfl (fun K hK => ?_); go_simp; refine hK.out _ _ (fun h => absurd h (by decide)) ?_; clear hK K; (try simp only [Act.put, List.setIfInBounds_toArray, List.set_cons_zero, List.set_cons_succ]))
    refine wpMix_nil ?_
    refine NoPanic.normal ?_
    go_wp2_with fail
    go_ret
    exact ⟨rfl, by rw [HG.out]; exact HBO.out _ (bchain HB3.out HSY3.out)⟩
end Go.Proofs.Ytokbclpdpegicaa
