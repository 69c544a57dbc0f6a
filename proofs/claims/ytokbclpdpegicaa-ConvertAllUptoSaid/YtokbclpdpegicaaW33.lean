/-
  The walk of the statement Exact.
-/
import Derived.Test.YtokbclpdpegicaaW31
namespace Go.Proofs.Ytokbclpdpegicaa
open Go.ChangeShapes Go.WideShapes Go.ChangeAt Go.RowKit
theorem spellR_err (us : List PU) (w : List Int) : ∀ (f a : Nat) (t : ByteArray), (spellR us w f a t).2.2 ≠ 0 → (spellR us w f a t).1 = ByteArray.empty
  | 0, a, t, h => by simp [spellR] at h
  | f + 1, a, t, h => by
    rw [spellR] at h ⊢
    split at h
    · rename_i h1
      rw [if_pos h1]
      split at h
      · rename_i h2
        rw [if_pos h2]
      · rename_i h2
        rw [if_neg h2]
        exact spellR_err us w f _ _ h
    · exact absurd rfl h
theorem spellF_err (us : List PU) (w : List Int) (h : (spellF us w).2.2 ≠ 0) : (spellF us w).1 = ByteArray.empty := by
  rw [spellF] at h ⊢
  split
  · rfl
  · rename_i h1
    rw [if_neg h1] at h
    split
    · rfl
    · rename_i h2
      rw [if_neg h2] at h
      exact spellR_err us w 25 0 _ h
theorem readF_empty (us : List PU) : readF us ByteArray.empty = ([], 0, 4) := by rw [readF, if_pos (show ByteArray.empty.size = 0 from rfl)]
theorem convF_ok {a b : List PU} {s : ByteArray} (h : (readF a s).2.2 = 0) : convF a b s = spellF b (readF a s).1 := by rw [convF, if_pos h]
theorem convF_no {a b : List PU} {s : ByteArray} (h : (readF a s).2.2 ≠ 0) : convF a b s = (ByteArray.empty, (readF a s).2.1, (readF a s).2.2) := by rw [convF, if_neg h]
theorem exact_no {a b : List PU} {s : ByteArray} (h : (readF a s).2.2 = 0) (he : exactF b (readF a s).1 = false) : sameF a b s (convF a b s).1 = false := by
  rw [sameF, convF_ok h, h]
  by_cases h1 : (spellF b (readF a s).1).2.2 = 0
  · rw [exactF, h1] at he
    rw [sameB_comm]
    simpa using he
  · rw [spellF_err _ _ h1, readF_empty]; rfl
theorem exact_yes {us : List PU} {w : List Int} (h : exactF us w = true) : (spellF us w).2.2 = 0 ∧ (readF us (spellF us w).1).2.2 = 0 ∧ (readF us (spellF us w).1).1 = w := by
  rw [exactF] at h
  simp only [Bool.and_eq_true, beq_iff_eq, sameB_iff] at h
  exact ⟨h.1.1, h.1.2, h.2⟩
set_option maxHeartbeats 8000000 in
set_option maxRecDepth 100000 in
theorem exact_law_any (v : Value) (x : PAsk) (w : World) (hv : RdK w v x) (hs : SmK x) :
    Calls Try.prog 7 #[v] w fun e w' => e = .returned (.bool true) ∧ Below w.heap.size w w' := by
  have HS := Lib.hid hs
  have HKV := Lib.hid hv
  obtain ⟨vi, ua, la, ub, lb, rfl, hi, ha, hb⟩ := hv
  have HA := Lib.hid ha
  have HB := Lib.hid hb
  obtain ⟨Ai, ni, ci, rfl, _, _, HNI, _⟩ := hi.op
  obtain ⟨A1, n1, c1, B1, m1, d1, he, _, _, _, _⟩ := ha.op
  obtain ⟨A2, n2, c2, B2, m2, d2, he2, _, _, _, _⟩ := hb.op
  cases he
  cases he2
  clear hi ha hb hs
  go_enter Try.func7, Try.ntmps7
  go_upto_region 1 with (fail)
  generalize hW : World.alloc w _ = W
  have HBW : Hid (Below w.heap.size w W) := by rw [← hW]; repeat (first | assumption | exact Below.refl _ _ | refine Below.alloc ?_ (by first | omega | (simp; done) | (simp; omega)) _ | refine Below.drew ?_ | refine below_drewN ?_ _ | refine Below.setCell ?_ (by first | omega | (simp; done) | (simp; omega)) _)
  have HK : Hid (W.heap[w.heap.size]? = some (.cells #[.slice Ai ni ci, .string x.a.name, .slice A1 n1 c1, .slice B1 m1 d1, .string x.b.name, .slice A2 n2 c2, .slice B2 m2 d2, .string x.s, .string x.t] 30 (0, 0))) := by rw [← hW]; exact heap_alloc_new w _
  have hgW : w.heap.size < W.heap.size := by rw [← hW]; simp
  have HKW : Hid (RdK W _ x) := HKV.out.below HBW.out
  have HVA : Hid (∀ W' : World, Below W.heap.size W W' → RdO W' (.agg #[.string x.a.name, .slice A1 n1 c1, .slice B1 m1 d1]) x.a) := fun W' h => (HA.out.below HBW.out).below h
  have HVB : Hid (∀ W' : World, Below W.heap.size W W' → RdO W' (.agg #[.string x.b.name, .slice A2 n2 c2, .slice B2 m2 d2]) x.b) := fun W' h => (HB.out.below HBW.out).below h
  have HBO : Hid (∀ W' : World, Below W.heap.size W W' → Below w.heap.size w W') := fun W' h => bchain HBW.out h
  clear HBW hW
  generalize hg : w.heap.size = g at HK HBO hgW ⊢
  have HG := Lib.hid hg
  clear hg
  have HZ : Hid (∀ W' : World, Below W.heap.size W W' → W'.cell? ⟨g, 0, none⟩ = some (.slice Ai ni ci) ∧ W'.cell? ⟨g, 1, none⟩ = some (.string x.a.name) ∧ W'.cell? ⟨g, 2, none⟩ = some (.slice A1 n1 c1) ∧ W'.cell? ⟨g, 3, none⟩ = some (.slice B1 m1 d1) ∧ W'.cell? ⟨g, 4, none⟩ = some (.string x.b.name) ∧ W'.cell? ⟨g, 5, none⟩ = some (.slice A2 n2 c2) ∧ W'.cell? ⟨g, 6, none⟩ = some (.slice B2 m2 d2) ∧ W'.cell? ⟨g, 7, none⟩ = some (.string x.s) ∧ W'.cell? ⟨g, 8, none⟩ = some (.string x.t)) := fun W' h => by
    have hk := (h.block g hgW).trans HK.out
    refine ⟨?_, ?_, ?_, ?_, ?_, ?_, ?_, ?_, ?_⟩ <;> (rw [cell_of_row W' g _ _ _ (0, 0) hk]; rfl)
  clear HK
  obtain ⟨z0, z1, z2, z3, z4, z5, z6, z7, z8⟩ := HZ.out W (Below.refl _ _)
  go_wp2_with fail
  refine (right_any _ x _ HKW.out HS.out).mono ?_
  rintro e w1 ⟨⟨ok, rfl, hq⟩, hb⟩
  have HQ := Lib.hid hq
  have HB1 := Lib.hid hb
  clear hq hb z0 z1 z2 z3 z4 z5 z6 z7 z8
  cases ok
  · go_wp2_with fail
    refine (awake_any _).mono ?_
    rintro e w2 ⟨rfl, hb⟩
    have HB2 := Lib.hid (bchain HB1.out hb)
    clear hb
    go_wp2_with fail
    go_ret
    exact ⟨rfl, by rw [HG.out]; exact HBO.out _ HB2.out⟩
  have hok := HQ.out rfl
  have hs200 : x.s.size ≤ 200 := hok.s
  have ht200 : x.t.size ≤ 200 := hok.t
  have hxs : x.s.size ≤ 67108864 := by omega
  have hxt : x.t.size ≤ 67108864 := by omega
  have HOK := Lib.hid hok
  clear hok HQ
  obtain ⟨z0, z1, z2, z3, z4, z5, z6, z7, z8⟩ := HZ.out w1 HB1.out
  obtain ⟨r, hr⟩ : ∃ r, readF x.a.units x.s = r := ⟨_, rfl⟩
  have HL : Hid (r.1.length ≤ 24) := by rw [← hr]; exact readF_len _ _
  obtain ⟨q, hq⟩ : ∃ q, convF x.a.units x.b.units x.s = q := ⟨_, rfl⟩
  have HQS : Hid (q.1.size ≤ 67108864) := by rw [← hq]; exact convF_size _ _ _ HS.out.b.graph
  have HR := Lib.hid hr
  have HQ := Lib.hid hq
  clear hr hq
  go_wp2_with fail
  refine (read_any _ x.a x.s _ (HVA.out _ HB1.out) HS.out.a HOK.out.a.good hxs).mono ?_
  rw [HR.out]
  rintro e w2 ⟨⟨v2, rfl, ho⟩, hb⟩
  obtain ⟨E2, f2, k2, rfl, _, _, _, _⟩ := ho.rd.op
  have HO2 := Lib.hid ho.rd
  have HB2 := Lib.hid (bchain HB1.out hb)
  clear ho hb
  clear z0 z1 z2 z3 z4 z5 z6 z7 z8
  obtain ⟨z0, z1, z2, z3, z4, z5, z6, z7, z8⟩ := HZ.out w2 HB2.out
  go_wp2_with fail
  refine (convert_any _ _ x.a x.b x.s _ (HVA.out _ HB2.out) (HVB.out _ HB2.out) HS.out.a HS.out.b HOK.out.a.good HOK.out.b.good hxs).mono ?_
  rintro e w3 ⟨he, hb⟩
  rw [HQ.out] at he
  obtain rfl := he
  have HX3 := Lib.hid hb
  have HB3 := Lib.hid (bchain HB2.out hb)
  clear hb
  clear z0 z1 z2 z3 z4 z5 z6 z7 z8
  obtain ⟨z0, z1, z2, z3, z4, z5, z6, z7, z8⟩ := HZ.out w3 HB3.out
  by_cases h0 : r.2.2 = 0
  rotate_left
  · have d0 : (r.2.2 != 0) = true := by simp [h0]
    have hqq : q = (ByteArray.empty, r.2.1, r.2.2) := by rw [← HQ.out, convF_no (by rw [HR.out]; exact h0), HR.out]
    subst hqq
    have de : (ByteArray.empty.toList.isEmpty) = true := by kernel_rfl
    have de2 : (ByteArray.empty.toList == ByteArray.empty.toList) = true := by simp
    clear h0
    go_wp2_with fail
    refine (awake_any _).mono ?_
    rintro e wz ⟨rfl, hb⟩
    have HBZ := Lib.hid (bchain HB3.out hb)
    clear hb
    go_wp2_with fail
    go_ret
    exact ⟨rfl, by rw [HG.out]; exact HBO.out _ HBZ.out⟩
  have d0 : (r.2.2 != 0) = false := by simp [h0]
  have HO3 : Hid (RdI w3 (.slice E2 f2 k2) r.1) := HO2.out.below (by exact HX3.out)
  have HE1 : Hid (exactF x.b.units r.1 = false → sameF x.a.units x.b.units x.s q.1 = false) := fun h => by
    have := exact_no (a := x.a.units) (b := x.b.units) (s := x.s) (by rw [HR.out]; exact h0) (by rw [HR.out]; exact h)
    rwa [HQ.out] at this
  have HE2 : Hid (exactF x.b.units r.1 = true → q.2.2 = 0 ∧ (readF x.b.units q.1).2.2 = 0 ∧ (readF x.b.units q.1).1 = r.1) := fun h => by
    have h1 := exact_yes h
    have h2 : spellF x.b.units r.1 = q := by rw [← HQ.out, convF_ok (by rw [HR.out]; exact h0), HR.out]
    rwa [h2] at h1
  have HR0 := Lib.hid h0
  clear h0
  obtain ⟨ex, hex⟩ : ∃ ex, exactF x.b.units r.1 = ex := ⟨_, rfl⟩
  have HEX := Lib.hid hex
  clear hex
  go_wp2_with fail
  refine (exact_any _ _ x.b r.1 _ (HVB.out _ HB3.out) HS.out.b HOK.out.b.good HO3.out (by have := HL.out; omega)).mono ?_
  rw [HEX.out]
  rintro e w4 ⟨rfl, hb⟩
  have HX4 := Lib.hid hb
  have HB4 := Lib.hid (bchain HB3.out hb)
  clear hb
  clear z0 z1 z2 z3 z4 z5 z6 z7 z8
  obtain ⟨z0, z1, z2, z3, z4, z5, z6, z7, z8⟩ := HZ.out w4 HB4.out
  cases ex
  · have HSM : Hid (sameF x.a.units x.b.units x.s q.1 = false) := HE1.out HEX.out
    go_wp2_with fail
    refine (same_any _ _ x.a x.b x.s q.1 _ (HVA.out _ HB4.out) (HVB.out _ HB4.out) HS.out.a HS.out.b HOK.out.a.good HOK.out.b.good hxs HQS.out).mono ?_
    rw [HSM.out]
    rintro e w5 ⟨rfl, hb⟩
    have HB5 := Lib.hid (bchain HB4.out hb)
    clear hb
    clear z0 z1 z2 z3 z4 z5 z6 z7 z8
    obtain ⟨z0, z1, z2, z3, z4, z5, z6, z7, z8⟩ := HZ.out w5 HB5.out
    go_wp2_with fail
    refine (awake_any _).mono ?_
    rintro e wz ⟨rfl, hb⟩
    have HBZ := Lib.hid (bchain HB5.out hb)
    clear hb
    go_wp2_with fail
    go_ret
    exact ⟨rfl, by rw [HG.out]; exact HBO.out _ HBZ.out⟩
  obtain ⟨p, hp⟩ : ∃ p, readF x.b.units q.1 = p := ⟨_, rfl⟩
  obtain ⟨e1, e2, e3⟩ := HE2.out HEX.out
  rw [hp] at e2 e3
  have HP := Lib.hid hp
  have HE3 := Lib.hid e3
  have HSM : Hid (sameF x.a.units x.b.units x.s q.1 = true) := by
    rw [Hid, sameF, HR.out, HR0.out, hp, e2, e3, (sameB_iff _ _).2 rfl]; rfl
  have dq : (q.2.2 == 0) = true := by simp [e1]
  have dp : (p.2.2 == 0) = true := by simp [e2]
  clear hp e1 e2 e3
  go_wp2_with fail
  refine (read_any _ x.b q.1 _ (HVB.out _ HB4.out) HS.out.b HOK.out.b.good HQS.out).mono ?_
  rw [HP.out]
  rintro e w6 ⟨⟨v6, rfl, ho⟩, hb⟩
  obtain ⟨E6, f6, k6, rfl, _, _, _, _⟩ := ho.rd.op
  have HO6 := Lib.hid ho.rd
  have HX6 := Lib.hid (bchain HX4.out hb)
  have HB6 := Lib.hid (bchain HB4.out hb)
  clear ho hb
  clear z0 z1 z2 z3 z4 z5 z6 z7 z8
  obtain ⟨z0, z1, z2, z3, z4, z5, z6, z7, z8⟩ := HZ.out w6 HB6.out
  have HO4 : Hid (RdI w6 (.slice E2 f2 k2) r.1) := HO3.out.below (by exact HX6.out)
  go_wp2_with fail
  refine (rsame_any _ _ p.1 r.1 _ HO6.out HO4.out).mono ?_
  rw [HE3.out, (sameB_iff r.1 r.1).2 rfl]
  rintro e wy ⟨rfl, nq, rfl⟩
  have HB7 : Hid (Below W.heap.size W (w6.drewN nq)) := below_drewN HB6.out _
  generalize World.drewN w6 nq = w7 at HB7 ⊢
  clear z0 z1 z2 z3 z4 z5 z6 z7 z8
  obtain ⟨z0, z1, z2, z3, z4, z5, z6, z7, z8⟩ := HZ.out w7 HB7.out
  go_wp2_with fail
  refine (same_any _ _ x.a x.b x.s q.1 _ (HVA.out _ HB7.out) (HVB.out _ HB7.out) HS.out.a HS.out.b HOK.out.a.good HOK.out.b.good hxs HQS.out).mono ?_
  rw [HSM.out]
  rintro e w8 ⟨rfl, hb⟩
  have HB8 := Lib.hid (bchain HB7.out hb)
  clear hb
  clear z0 z1 z2 z3 z4 z5 z6 z7 z8
  obtain ⟨z0, z1, z2, z3, z4, z5, z6, z7, z8⟩ := HZ.out w8 HB8.out
  go_wp2_with fail
  refine (awake_any _).mono ?_
  rintro e wz ⟨rfl, hb⟩
  have HBZ := Lib.hid (bchain HB8.out hb)
  clear hb
  go_wp2_with fail
  go_ret
  exact ⟨rfl, by rw [HG.out]; exact HBO.out _ HBZ.out⟩
end Go.Proofs.Ytokbclpdpegicaa
