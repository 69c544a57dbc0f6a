/-
  The walk of the statement Twice.
-/
import Derived.Test.YtokbclpdpegicaaW34
namespace Go.Proofs.Ytokbclpdpegicaa
open Go.ChangeShapes Go.WideShapes Go.ChangeAt Go.RowKit
theorem same_self (us : List PU) (s : ByteArray) : sameF us us s s = ((readF us s).2.2 == 0) := by
  rw [sameF, (sameB_iff _ _).2 rfl]
  simp
theorem twice_facts {us : List PU} {s : ByteArray} (h : (readF us s).2.2 = 0) (he : exactF us (readF us s).1 = true) :
    (convF us us s).2.2 = 0 ∧ convF us us (convF us us s).1 = convF us us s ∧ faithF us (convF us us s).1 = true ∧ faithF us s = ((convF us us s).1.toList == s.toList) := by
  obtain ⟨h1, h2, h3⟩ := exact_yes he
  have e1 := convF_ok (b := us) h
  have e2 : convF us us (convF us us s).1 = convF us us s := by
    rw [e1, convF_ok h2, h3]
  refine ⟨by rw [e1]; exact h1, e2, ?_, ?_⟩
  · rw [faithF, e2, e1, h1]; simp
  · rw [faithF, e1, h1]; simp
set_option maxHeartbeats 8000000 in
set_option maxRecDepth 100000 in
theorem twice_law_any (v : Value) (x : PAsk) (w : World) (hv : RdK w v x) (hs : SmK x) :
    Calls Try.prog 8 #[v] w fun e w' => e = .returned (.bool true) ∧ Below w.heap.size w w' := by
  have HS := Lib.hid hs
  have HKV := Lib.hid hv
  obtain ⟨vi, ua, la, ub, lb, rfl, hi, ha, hb⟩ := hv
  have HA := Lib.hid ha
  have HB := Lib.hid hb
  obtain ⟨Ai, ni, ci, rfl, _, _, HNI, _⟩ := hi.op
  obtain ⟨A1, n1, c1, B1, m1, d1, he, _, _, _, _⟩ := ha.op
  obtain ⟨A2, n2, c2, B2, m2, d2, he2, _, _, _, _⟩ := hb.op
  cases he
  cases he2
  clear hi ha hb hs
  go_enter Try.func8, Try.ntmps8
  go_upto_region 1 with (fail)
  generalize hW : World.alloc w _ = W
  have HBW : Hid (Below w.heap.size w W) := by rw [← hW]; repeat (first | assumption | exact Below.refl _ _ | refine Below.alloc ?_ (by first | omega | (simp; done) | (simp; omega)) _ | refine Below.drew ?_ | refine below_drewN ?_ _ | refine Below.setCell ?_ (by first | omega | (simp; done) | (simp; omega)) _)
  have HK : Hid (W.heap[w.heap.size]? = some (.cells #[.slice Ai ni ci, .string x.a.name, .slice A1 n1 c1, .slice B1 m1 d1, .string x.b.name, .slice A2 n2 c2, .slice B2 m2 d2, .string x.s, .string x.t] 30 (0, 0))) := by rw [← hW]; exact heap_alloc_new w _
  have hgW : w.heap.size < W.heap.size := by rw [← hW]; simp
  have HKW : Hid (RdK W _ x) := HKV.out.below HBW.out
  have HVA : Hid (∀ W' : World, Below W.heap.size W W' → RdO W' (.agg #[.string x.a.name, .slice A1 n1 c1, .slice B1 m1 d1]) x.a) := fun W' h => (HA.out.below HBW.out).below h
  have HVB : Hid (∀ W' : World, Below W.heap.size W W' → RdO W' (.agg #[.string x.b.name, .slice A2 n2 c2, .slice B2 m2 d2]) x.b) := fun W' h => (HB.out.below HBW.out).below h
  have HBO : Hid (∀ W' : World, Below W.heap.size W W' → Below w.heap.size w W') := fun W' h => bchain HBW.out h
  clear HBW hW
  generalize hg : w.heap.size = g at HK HBO hgW ⊢
  have HG := Lib.hid hg
  clear hg
  have HZ : Hid (∀ W' : World, Below W.heap.size W W' → W'.cell? ⟨g, 0, none⟩ = some (.slice Ai ni ci) ∧ W'.cell? ⟨g, 1, none⟩ = some (.string x.a.name) ∧ W'.cell? ⟨g, 2, none⟩ = some (.slice A1 n1 c1) ∧ W'.cell? ⟨g, 3, none⟩ = some (.slice B1 m1 d1) ∧ W'.cell? ⟨g, 4, none⟩ = some (.string x.b.name) ∧ W'.cell? ⟨g, 5, none⟩ = some (.slice A2 n2 c2) ∧ W'.cell? ⟨g, 6, none⟩ = some (.slice B2 m2 d2) ∧ W'.cell? ⟨g, 7, none⟩ = some (.string x.s) ∧ W'.cell? ⟨g, 8, none⟩ = some (.string x.t)) := fun W' h => by
    have hk := (h.block g hgW).trans HK.out
    refine ⟨?_, ?_, ?_, ?_, ?_, ?_, ?_, ?_, ?_⟩ <;> (rw [cell_of_row W' g _ _ _ (0, 0) hk]; rfl)
  clear HK
  obtain ⟨z0, z1, z2, z3, z4, z5, z6, z7, z8⟩ := HZ.out W (Below.refl _ _)
  go_wp2_with fail
  refine (right_any _ x _ HKW.out HS.out).mono ?_
  rintro e w1 ⟨⟨ok, rfl, hq⟩, hb⟩
  have HQ := Lib.hid hq
  have HB1 := Lib.hid hb
  clear hq hb z0 z1 z2 z3 z4 z5 z6 z7 z8
  cases ok
  · go_wp2_with fail
    refine (awake_any _).mono ?_
    rintro e w2 ⟨rfl, hb⟩
    have HB2 := Lib.hid (bchain HB1.out hb)
    clear hb
    go_wp2_with fail
    go_ret
    exact ⟨rfl, by rw [HG.out]; exact HBO.out _ HB2.out⟩
  have hok := HQ.out rfl
  have hs200 : x.s.size ≤ 200 := hok.s
  have ht200 : x.t.size ≤ 200 := hok.t
  have hxs : x.s.size ≤ 67108864 := by omega
  have hxt : x.t.size ≤ 67108864 := by omega
  have HOK := Lib.hid hok
  clear hok HQ
  obtain ⟨z0, z1, z2, z3, z4, z5, z6, z7, z8⟩ := HZ.out w1 HB1.out
  obtain ⟨r, hr⟩ : ∃ r, readF x.a.units x.s = r := ⟨_, rfl⟩
  have HL : Hid (r.1.length ≤ 24) := by rw [← hr]; exact readF_len _ _
  have HSS : Hid (sameF x.a.units x.a.units x.s x.s = (r.2.2 == 0)) := by rw [Hid, same_self, hr]
  have HR := Lib.hid hr
  clear hr
  go_wp2_with fail
  refine (read_any _ x.a x.s _ (HVA.out _ HB1.out) HS.out.a HOK.out.a.good hxs).mono ?_
  rw [HR.out]
  rintro e w2 ⟨⟨v2, rfl, ho⟩, hb⟩
  obtain ⟨E2, f2, k2, rfl, _, _, _, _⟩ := ho.rd.op
  have HO2 := Lib.hid ho.rd
  have HB2 := Lib.hid (bchain HB1.out hb)
  clear ho hb
  clear z0 z1 z2 z3 z4 z5 z6 z7 z8
  obtain ⟨z0, z1, z2, z3, z4, z5, z6, z7, z8⟩ := HZ.out w2 HB2.out
  go_wp2_with fail
  refine (same_any _ _ x.a x.a x.s x.s _ (HVA.out _ HB2.out) (HVA.out _ HB2.out) HS.out.a HS.out.a HOK.out.a.good HOK.out.a.good hxs hxs).mono ?_
  rw [HSS.out]
  rintro e w3 ⟨rfl, hb⟩
  have HX3 := Lib.hid hb
  have HB3 := Lib.hid (bchain HB2.out hb)
  clear hb
  clear z0 z1 z2 z3 z4 z5 z6 z7 z8
  obtain ⟨z0, z1, z2, z3, z4, z5, z6, z7, z8⟩ := HZ.out w3 HB3.out
  by_cases h0 : r.2.2 = 0
  rotate_left
  · have dz0 : (r.2.2 != 0) = true := by simp [h0]
    have dz1 : (r.2.2 == 0) = false := by simp [h0]
    clear h0
    go_wp2_with fail
    refine (awake_any _).mono ?_
    rintro e wz ⟨rfl, hb⟩
    have HBZ := Lib.hid (bchain HB3.out hb)
    clear hb
    go_wp2_with fail
    go_ret
    exact ⟨rfl, by rw [HG.out]; exact HBO.out _ HBZ.out⟩
  have dz0 : (r.2.2 != 0) = false := by simp [h0]
  have dz1 : (r.2.2 == 0) = true := by simp [h0]
  have HR0 := Lib.hid h0
  have HO3 : Hid (RdI w3 (.slice E2 f2 k2) r.1) := HO2.out.below (by exact HX3.out)
  clear h0
  obtain ⟨ex, hex⟩ : ∃ ex, exactF x.a.units r.1 = ex := ⟨_, rfl⟩
  have HEX := Lib.hid hex
  clear hex
  go_wp2_with fail
  refine (exact_any _ _ x.a r.1 _ (HVA.out _ HB3.out) HS.out.a HOK.out.a.good HO3.out (by have := HL.out; omega)).mono ?_
  rw [HEX.out]
  rintro e w4 ⟨rfl, hb⟩
  have HB4 := Lib.hid (bchain HB3.out hb)
  clear hb
  clear z0 z1 z2 z3 z4 z5 z6 z7 z8
  obtain ⟨z0, z1, z2, z3, z4, z5, z6, z7, z8⟩ := HZ.out w4 HB4.out
  cases ex
  · skip
    go_wp2_with fail
    refine (awake_any _).mono ?_
    rintro e wz ⟨rfl, hb⟩
    have HBZ := Lib.hid (bchain HB4.out hb)
    clear hb
    go_wp2_with fail
    go_ret
    exact ⟨rfl, by rw [HG.out]; exact HBO.out _ HBZ.out⟩
  obtain ⟨q, hq⟩ : ∃ q, convF x.a.units x.a.units x.s = q := ⟨_, rfl⟩
  have hq2 := twice_facts (us := x.a.units) (s := x.s) (by rw [HR.out]; exact HR0.out) (by rw [HR.out]; exact HEX.out)
  rw [hq] at hq2
  have HQS : Hid (q.1.size ≤ 67108864) := by rw [← hq]; exact convF_size _ _ _ HS.out.a.graph
  have HQ := Lib.hid hq
  obtain ⟨q1, q2, q3, q4⟩ := hq2
  have HQ2 := Lib.hid q2
  have HQ3 := Lib.hid q3
  have HQ4 := Lib.hid q4
  have dq : (q.2.2 == 0) = true := by simp [q1]
  clear hq q1 q2 q3 q4
  go_wp2_with fail
  refine (normal_any _ x.a x.s _ (HVA.out _ HB4.out) HS.out.a HOK.out.a.good hxs).mono ?_
  rintro e w5 ⟨he, hb⟩
  rw [HQ.out] at he
  obtain rfl := he
  have HB5 := Lib.hid (bchain HB4.out hb)
  clear hb
  clear z0 z1 z2 z3 z4 z5 z6 z7 z8
  obtain ⟨z0, z1, z2, z3, z4, z5, z6, z7, z8⟩ := HZ.out w5 HB5.out
  go_wp2_with fail
  refine (normal_any _ x.a q.1 _ (HVA.out _ HB5.out) HS.out.a HOK.out.a.good HQS.out).mono ?_
  rintro e w6 ⟨he, hb⟩
  rw [HQ2.out] at he
  obtain rfl := he
  have HB6 := Lib.hid (bchain HB5.out hb)
  clear hb
  clear z0 z1 z2 z3 z4 z5 z6 z7 z8
  obtain ⟨z0, z1, z2, z3, z4, z5, z6, z7, z8⟩ := HZ.out w6 HB6.out
  go_wp2_with fail
  refine wp_region_mix 27 [0, 1, 2, 3, 4, 5, 6, 7, 8, 9, 10, 11, 12, 13, 14, 15, 16, 17, 18, 19, 20, 21, 22, 23, 24, 25, 26] [] [(true, 0), (true, 1), (true, 2), (true, 3), (true, 4), (true, 5), (true, 6), (true, 7), (true, 8), (true, 9), (true, 10), (true, 11), (true, 12), (true, 13), (true, 14), (false, 15), (true, 16), (true, 17), (true, 18), (true, 19), (true, 20), (true, 21), (true, 23), (true, 24), (true, 25), (true, 26), (false, 22), (false, 27), (false, 28), (false, 29), (false, 30), (false, 31), (false, 32)] (fun w' => Below w6.heap.size w6 w') (by kernel_rfl) (by kernel_rfl) ?_
  rintro D hD
  have HSD : Hid (Below w6.heap.size w6 D) := by rw [hD]; exact (Below.refl _ _).drew
  clear hD
  refine ⟨HSD.out, ?_⟩
  have HS' : Hid (∀ w' : World, Below w6.heap.size w6 w' → w'.cell? ⟨g, 0, none⟩ = some (.slice Ai ni ci) ∧ w'.cell? ⟨g, 1, none⟩ = some (.string x.a.name) ∧ w'.cell? ⟨g, 2, none⟩ = some (.slice A1 n1 c1) ∧ w'.cell? ⟨g, 3, none⟩ = some (.slice B1 m1 d1) ∧ w'.cell? ⟨g, 4, none⟩ = some (.string x.b.name) ∧ w'.cell? ⟨g, 5, none⟩ = some (.slice A2 n2 c2) ∧ w'.cell? ⟨g, 6, none⟩ = some (.slice B2 m2 d2) ∧ w'.cell? ⟨g, 7, none⟩ = some (.string x.s) ∧ w'.cell? ⟨g, 8, none⟩ = some (.string x.t)) := fun w' h => HZ.out w' (bchain HB6.out h)
  have HSM := HS
  clear HS
  have HS := HS'
  iterate 15 (refine wpMix_q (v := ?_) rfl rfl (fun w' hS => ?_) ?_; rotate_left; (focus ((try obtain ⟨s0, s1, s2, s3, s4, s5, s6, s7, s8⟩ := HS.out _ (hS rfl)); clear hS; go_simp; try with_reducible rfl; done)); (try simp only [Act.put, List.setIfInBounds_toArray, List.set_cons_zero, List.set_cons_succ]))
  refine wpMix_e rfl rfl (fun K hK => ?_)
  go_simp
  refine (faithful_any _ x.a q.1 _ (HVA.out _ (bchain HB6.out HSD.out)) HSM.out.a HOK.out.a.good HQS.out).mono ?_
  rw [HQ3.out]
  rintro e Y1 ⟨rfl, hb⟩
  refine hK.out _ _ (fun _ => bchain HSD.out hb) ?_
  clear hK K
  (try simp only [Act.put, List.setIfInBounds_toArray, List.set_cons_zero, List.set_cons_succ])
  have HSY1 := Lib.hid (bchain HSD.out hb)
  clear hb
  iterate 10 (refine wpMix_q (v := ?_) rfl rfl (fun w' hS => ?_) ?_; rotate_left; (focus ((try obtain ⟨s0, s1, s2, s3, s4, s5, s6, s7, s8⟩ := HS.out _ (hS rfl)); clear hS; go_simp; try with_reducible rfl; done)); (try simp only [Act.put, List.setIfInBounds_toArray, List.set_cons_zero, List.set_cons_succ]))
  refine wpMix_e rfl rfl (fun K hK => ?_)
  go_simp
  refine (faithful_any _ x.a x.s _ (HVA.out _ (bchain HB6.out HSY1.out)) HSM.out.a HOK.out.a.good hxs).mono ?_
  rw [HQ4.out]
  rintro e Y2 ⟨rfl, hb⟩
  refine hK.out _ _ (fun _ => bchain HSY1.out hb) ?_
  clear hK K
  (try simp only [Act.put, List.setIfInBounds_toArray, List.set_cons_zero, List.set_cons_succ])
  have HSY2 := Lib.hid (bchain HSY1.out hb)
  clear hb
  generalize (q.1.toList == x.s.toList) = bb
  cases bb
  · skip
    iterate 3 (refine wpMix_e rfl rfl (fun K hK => ?_); go_simp; refine hK.out _ _ (fun h => absurd h (by decide)) ?_; clear hK K; (try simp only [Act.put, List.setIfInBounds_toArray, List.set_cons_zero, List.set_cons_succ]))
    refine wpMix_e rfl rfl (fun K hK => ?_)
    go_simp
    refine (awake_any _).mono ?_
    rintro e Y3 ⟨rfl, hb⟩
    refine hK.out _ _ (fun _ => bchain HSY2.out hb) ?_
    clear hK K
    (try simp only [Act.put, List.setIfInBounds_toArray, List.set_cons_zero, List.set_cons_succ])
    have HSY3 := Lib.hid (bchain HSY2.out hb)
    clear hb
    iterate 2 (refine wpMix_e rfl rfl (fun K hK => ?_); go_simp; refine hK.out _ _ (fun h => absurd h (by decide)) ?_; clear hK K; (try simp only [Act.put, List.setIfInBounds_toArray, List.set_cons_zero, List.set_cons_succ]))
    refine wpMix_nil ?_
    refine NoPanic.normal ?_
    go_wp2_with fail
    go_ret
    exact ⟨rfl, by rw [HG.out]; exact HBO.out _ (bchain HB6.out HSY3.out)⟩
  · skip
    iterate 3 (refine wpMix_e rfl rfl (fun K hK => ?_); go_simp; refine hK.out _ _ (fun h => absurd h (by decide)) ?_; clear hK K; (try simp only [Act.put, List.setIfInBounds_toArray, List.set_cons_zero, List.set_cons_succ]))
    refine wpMix_e rfl rfl (fun K hK => ?_)
    go_simp
    refine (awake_any _).mono ?_
    rintro e Y3 ⟨rfl, hb⟩
    refine hK.out _ _ (fun _ => bchain HSY2.out hb) ?_
    clear hK K
    (try simp only [Act.put, List.setIfInBounds_toArray, List.set_cons_zero, List.set_cons_succ])
    have HSY3 := Lib.hid (bchain HSY2.out hb)
    clear hb
    iterate 2 (refine wpMix_e rfl rfl (fun K hK => ?_); go_simp; refine hK.out _ _ (fun h => absurd h (by decide)) ?_; clear hK K; (try simp only [Act.put, List.setIfInBounds_toArray, List.set_cons_zero, List.set_cons_succ]))
    refine wpMix_nil ?_
    refine NoPanic.normal ?_
    go_wp2_with fail
    go_ret
    exact ⟨rfl, by rw [HG.out]; exact HBO.out _ (bchain HB6.out HSY3.out)⟩
end Go.Proofs.Ytokbclpdpegicaa
