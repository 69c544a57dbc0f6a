/-
  The statements' walks: RewriteGoesOn.
-/
import Derived.Test.YtdijlakeonionaaQ37
namespace Go.Proofs.Ytdijlakeonionaa
open Go.ChangeShapes Go.WideShapes Go.ChangeAt Go.RowKit
theorem lastF_take (I : List PPh) (Rs : List PRule) (l : List Int) (m : Nat) : lastF I (Rs.take m) l = lastK I Rs l m := by
  rw [lastF, lastK, lastK, List.take_length]
theorem lastF_one (I : List PPh) {Rs : List PRule} (l : List Int) {m : Nat} (h : Rs.length = m + 1) {R : PRule} {r : List PRule} (hd : Rs.drop m = R :: r) : lastF I Rs l = applyF I R (lastK I Rs l m) := by
  have hm : m < Rs.length := by omega
  have e : Rs.drop m = R :: Rs.drop (m + 1) := by
    rw [List.drop_eq_getElem_cons hm] at hd ⊢
    rw [(List.cons.inj hd).1]
  rw [lastF, h, lastK_succ I l e]
theorem runF_at (I : List PPh) (Rs : List PRule) (l : List Int) {k : Nat} (hk : k < Rs.length) : (runF I Rs l)[k]? = some (lastK I Rs l (k + 1)) := by
  rw [runF, runK]
  simp [hk]
theorem runF_len (I : List PPh) (Rs : List PRule) (l : List Int) : (runF I Rs l).length = Rs.length := by simp [runF, runK]
theorem drop_head {α : Type} {l : List α} {k : Nat} {x : α} {r : List α} (h : l.drop k = x :: r) : l[k]? = some x := by rw [← List.head?_drop, h]; rfl
theorem RdRs.take_ {w : World} {A : Option Addr} {n c : Nat} {Rs : List PRule} (h : RdRs w (.slice A n c) Rs) {m : Nat} (hm : m ≤ n) : RdRs w (.slice A m c) (Rs.take m) := by
  obtain ⟨A', n', c', he, h1, h2, h3, h4⟩ := h
  cases he
  have h3' := h3.out
  refine ⟨A, m, c, rfl, by omega, h2, by rw [Hid, List.length_take]; omega, fun k hk => ?_⟩
  obtain ⟨b, off, vf, vt, vl, vr, R, rfl, hb, hd, hc, hr⟩ := h4.out k (by omega)
  refine ⟨b, off, vf, vt, vl, vr, R, rfl, hb, ?_, hc, hr⟩
  rw [Hid, List.drop_take, List.drop_take, hd.out, show m - k = (m - (k + 1)) + 1 by omega, List.take_succ_cons]
theorem slice_rs (b off n c hi : Nat) (h1 : hi ≤ c) (hc : 0 < c) (W : World) : (Instr.slice 57 (.slice (some ⟨b, off, none⟩) n c) none (some (.int .i64 (hi : Int))) none).run Try.prog W = .ok (.slice (some ⟨b, off, none⟩) hi c) W := by
  have hI : (Try.prog.info? 28).map (fun i => (i.zero, i.size, i.bytes)) = some (some (.agg #[.slice none 0 0, .slice none 0 0, .slice none 0 0, .slice none 0 0, .bool false, .bool false]), 6, 104) := by kernel_rfl
  obtain ⟨i0, hi0, hz0, hz1, hz2⟩ := info_parts hI
  have he : Try.prog.elem 57 = 28 := by kernel_rfl
  have hs : (Go.sizeOf (Try.prog.elem 57)).run Try.prog W = .ok 6 W := by rw [he]; simp [Go.sizeOf, typeInfo, hi0, hz1]
  rw [run_slice_h W _ _ _ _ (by kernel_rfl) .i64 _ (by omega) (by omega), hs]
  have hne : ¬ c = 0 := by omega
  simp [Result.andThen, sliced, hne, Addr.add]
theorem slice_rsAt (b off n c hi : Nat) (h1 : hi ≤ c) (hc : 0 < c) (W : World) : (Instr.sliceAt 57 (.slice (some ⟨b, off, none⟩) n c) none (some (.int .i64 (hi : Int))) none).run Try.prog W = .ok (.slice (some ⟨b, off, none⟩) hi c) W := by
  rw [run_sliceAt_slice W _ _ _ _ _ (by kernel_rfl), slice_rs b off n c hi h1 hc]
theorem rule6 {w w' : World} {b o : Nat} {v0 v1 v2 v3 v4 v5 : Value} (h : w.cell? ⟨b, o, none⟩ = some v0 ∧ w.cell? ⟨b, o + 1, none⟩ = some v1 ∧ w.cell? ⟨b, o + 2, none⟩ = some v2 ∧ w.cell? ⟨b, o + 3, none⟩ = some v3 ∧ w.cell? ⟨b, o + 4, none⟩ = some v4 ∧ w.cell? ⟨b, o + 5, none⟩ = some v5) (hb : b < w.heap.size) (hw : Below w.heap.size w w') :
    w'.cell? ⟨b, o, none⟩ = some v0 ∧ w'.cell? ⟨b, o + 1, none⟩ = some v1 ∧ w'.cell? ⟨b, o + 2, none⟩ = some v2 ∧ w'.cell? ⟨b, o + 3, none⟩ = some v3 ∧ w'.cell? ⟨b, o + 4, none⟩ = some v4 ∧ w'.cell? ⟨b, o + 5, none⟩ = some v5 :=
  ⟨cell_keep hb h.1 hw, cell_keep hb h.2.1 hw, cell_keep hb h.2.2.1 hw, cell_keep hb h.2.2.2.1 hw, cell_keep hb h.2.2.2.2.1 hw, cell_keep hb h.2.2.2.2.2 hw⟩
theorem rdRs_nil (w : World) : RdRs w (.slice none 0 0) [] := ⟨none, 0, 0, rfl, by omega, by omega, rfl, fun k hk => absurd hk (Nat.not_lt_zero k)⟩
theorem rsOk_nil : RsOk [] := ⟨(fun R hR => (nomatch hR)), (fun R hR => (nomatch hR)), (by decide)⟩
set_option maxHeartbeats 16000000 in
set_option maxRecDepth 100000 in
theorem goesOn_walk (v vr vw : Value) (I : List PPh) (Rs : List PRule) (l : List Int) (w : World) (hv : RdV w v I) (hr : RdRs w vr Rs) (hw : RdI w vw l) :
    Calls Try.prog 10 #[v, vr, vw] w fun e w' => e = .returned (.bool true) ∧ Below w.heap.size w w' := by
  have HV := Lib.hid hv
  have HRS := Lib.hid hr
  have HVW := Lib.hid hw
  obtain ⟨A0, n0, c0, rfl⟩ := rdV_form hv
  obtain ⟨A, n, c, rfl, hnc, HRN⟩ := rdRs_form hr
  obtain ⟨Aw, nw, cw, rfl⟩ := rdI_slice hw
  clear hv hr hw
  go_enter Try.func10, Try.ntmps10
  go_upto_region 1 with (fail)
  generalize hW : World.alloc w _ = W
  have HBW : Hid (Below w.heap.size w W) := by rw [← hW]; exact al_below _ _
  have HP : Hid (VBlk W w.heap.size (.slice A0 n0 c0)) := by rw [← hW]; exact heap_alloc_new w _
  clear hW
  have y0 := HP.out.cell
  have y1 := HP.out.lt
  go_wp2_with fail
  clear y0 y1
  refine (all_walk _ _ _ I Rs l _ (HV.out.below HBW.out) (HRS.out.below HBW.out) (HVW.out.below HBW.out)).mono ?_
  rintro e w1 ⟨⟨b, rfl, hbr⟩, hb1⟩
  have HB1 := Lib.hid (bchain HBW.out hb1)
  have HP1 := Lib.hid (HP.out.below hb1)
  clear hb1 HP HBW
  cases b
  · skip
    go_wp2_with fail
    refine (awake_any _).mono ?_
    rintro e wz ⟨rfl, hbz⟩
    have HBZ := Lib.hid (bchain (HB1).out hbz)
    clear hbz
    go_wp2_with fail
    go_ret
    exact ⟨rfl, HBZ.out⟩
  obtain ⟨h60, hrg, h12, hlb⟩ := hbr rfl
  have H60 := Lib.hid h60
  have HRG := Lib.hid hrg
  have H12 := Lib.hid h12
  have HRO := Lib.hid (rsOk_of hrg h12)
  have HLN := Lib.hid (list_len hlb)
  have HNZ := Lib.hid (list_nz hlb)
  clear hbr h60 hrg h12 hlb
  by_cases hn0 : n = 0
  · subst hn0
    go_wp2_with fail
    refine (awake_any _).mono ?_
    rintro e wz ⟨rfl, hbz⟩
    have HBZ := Lib.hid (bchain (HB1).out hbz)
    clear hbz
    go_wp2_with fail
    go_ret
    exact ⟨rfl, HBZ.out⟩
  obtain ⟨m, rfl⟩ : ∃ m, n = m + 1 := ⟨n - 1, by omega⟩
  have hm12 : m ≤ 12 := by have := H12.out; rw [HRN.out] at this; omega
  have hm0 : (0 : Int) ≤ (m : Int) := by omega
  clear hn0
  obtain ⟨A', n', c', he, _, _, _, hat⟩ := HRS.out
  cases he
  obtain ⟨rb, ro, vf, vt, vl, vg, R, rfl, hrb, hrd, ⟨e0, e1, e2, e3, e4, e5⟩, hrr⟩ := hat.out m (by omega)
  have HE0 : Hid (w.cell? ⟨rb, ro + m * 6, none⟩ = some vf ∧ w.cell? ⟨rb, ro + m * 6 + 1, none⟩ = some vt ∧ w.cell? ⟨rb, ro + m * 6 + 2, none⟩ = some vl ∧ w.cell? ⟨rb, ro + m * 6 + 3, none⟩ = some vg ∧ w.cell? ⟨rb, ro + m * 6 + 4, none⟩ = some (.bool R.beg) ∧ w.cell? ⟨rb, ro + m * 6 + 5, none⟩ = some (.bool R.fin)) := ⟨e0, e1, e2, e3, e4, e5⟩
  have HRB := Lib.hid hrb
  have HRD := Lib.hid hrd.out
  have HRR := hrr
  obtain ⟨B1, q1, d1, B3, q3, d3, B4, q4, d4, B5, q5, d5, rfl, rfl, rfl, rfl⟩ := rdR_form HRR.out
  clear e0 e1 e2 e3 e4 e5 hrb hrd hrr hat
  have hsl := slice_rs rb ro (m + 1) c m (by omega) (by omega)
  have hsl2 := slice_rsAt rb ro (m + 1) c m (by omega) (by omega)
  go_upto_region 4 with (fail)
  refine wp_region_ord 5 [0, 1, 2, 3, 4] [] [0, 1, 2, 3, 4] [5, 6] (fun w' => Below w1.heap.size w1 w') (by kernel_rfl) (by kernel_rfl) ?_
  rintro D hD
  have HSD : Hid (Below w1.heap.size w1 D) := by rw [hD]; exact (Below.refl _ _).drew
  clear hD
  refine ⟨HSD.out, ?_⟩
  have HS := Lib.hid (fun (w' : World) (h : Below w1.heap.size w1 w') => (HP1.out.below h).cell)
  iterate 5 (refine wpHead_cons (v := ?_) rfl rfl (fun w' hS => ?_) ?_; rotate_left; (focus ((try obtain s0 := HS.out _ (hS rfl)); clear hS; go_simp; try with_reducible rfl; done)); (try simp only [Act.put, List.setIfInBounds_toArray, List.set_cons_zero, List.set_cons_succ]))
  refine wpHead_nil ?_
  refine wpTail_cons rfl rfl (fun K hK => ?_)
  go_simp
  clear hsl hsl2
  have hrt : RdRs D (.slice (some ⟨rb, ro, none⟩) m c) (Rs.take m) := (HRS.out.below (bchain HB1.out HSD.out)).take_ (by omega)
  refine (plast_any _ _ _ I (Rs.take m) l D (HV.out.below (bchain HB1.out HSD.out)) hrt (HVW.out.below (bchain HB1.out HSD.out)) ⟨fun R hR => HRO.out.ok R (List.mem_of_mem_take hR), fun R hR => HRO.out.nd R (List.mem_of_mem_take hR), by rw [List.length_take]; have := HRO.out.len; omega⟩ HLN.out HNZ.out).mono ?_
  rintro e w2 ⟨⟨v8, rfl, ho⟩, hb2⟩
  rw [lastF_take] at ho
  obtain ⟨A8, n8, c8, rfl⟩ := rdI_slice ho
  have HO8 := Lib.hid ho
  have HX2 : Hid (Below w1.heap.size w1 w2) := bchain HSD.out hb2
  have HB2 := Lib.hid (bchain HB1.out HX2.out)
  refine hK.out _ _ (fun h => absurd h (by decide)) ?_
  clear hK K ho hb2 HS hrt HSD
  (try simp only [Act.put, List.setIfInBounds_toArray, List.set_cons_zero, List.set_cons_succ])
  refine wpTail_rest 6 rfl ?_
  simp only [List.drop_succ_cons, List.drop_zero]
  go_wp2_with fail
  refine NoPanic.normal ?_
  have y0 := (HP1.out.below HX2.out).cell
  have y1 := (HP1.out.below HX2.out).lt
  go_wp2_with fail
  clear y0 y1
  refine (prun_any _ _ _ I Rs l w2 (HV.out.below HB2.out) (HRS.out.below HB2.out) (HVW.out.below HB2.out) HRO.out HLN.out HNZ.out).mono ?_
  rintro e w3 ⟨⟨v9, rfl, ho⟩, hb3⟩
  have HN9 : Hid ((runF I Rs l).length = m + 1) := by rw [Hid, runF_len, HRN.out]
  obtain ⟨A9, c9, h9⟩ := ownL_form ho
  rw [HN9.out] at h9
  subst h9
  have HRL := Lib.hid ho.rd
  have HX3 : Hid (Below w1.heap.size w1 w3) := bchain HX2.out hb3
  have HB3 := Lib.hid (bchain HB2.out hb3)
  have HO83 := Lib.hid (HO8.out.below hb3)
  clear ho hb3 HO8
  have hrun : ∀ k, k < m + 1 → ∃ b off B kk ck, A9 = some ⟨b, off, none⟩ ∧ b < w3.heap.size ∧ w3.cell? ⟨b, off + k, none⟩ = some (.slice B kk ck) ∧ RdI w3 (.slice B kk ck) (lastK I Rs l (k + 1)) := by
    intro k hk
    obtain ⟨A', n', c', he, _, _, _, hat⟩ := HRL.out.op
    cases he
    obtain ⟨b, off, B, kk, ck, x, h1, h2, h3, h4, h5⟩ := hat.out k hk
    have h6 := drop_head h3.out
    rw [runF_at I Rs l (by rw [HRN.out]; exact hk)] at h6
    have h7 := h5.out
    rw [← Option.some.inj h6] at h7
    exact ⟨b, off, B, kk, ck, h1, h2, h4, h7⟩
  obtain ⟨gb, go, GB, gn, gc, rfl, hgb, hgc, hgr⟩ := hrun m (by omega)
  have HGC : Hid (w3.cell? ⟨gb, go + m, none⟩ = some (.slice GB gn gc) ∧ gb < w3.heap.size) := ⟨hgc, hgb⟩
  have HLF : Hid (lastF I Rs l = applyF I R (lastK I Rs l m)) := lastF_one I l HRN.out HRD.out
  have HLL : Hid (lastK I Rs l (m + 1) = lastF I Rs l) := by rw [Hid, lastF, HRN.out]
  rw [HLL.out] at hgr
  have HGR := Lib.hid hgr
  have HKN : Hid ((lastK I Rs l m).length ≤ 1000000) := Nat.le_trans (lastK_len _ _ _ _) HLN.out
  have HKZ : Hid (∀ x ∈ lastK I Rs l m, x ≠ 0) := lastK_nz _ _ _ HNZ.out m
  have HROK : Hid (ROk R) := HRO.out.ok R (List.mem_of_mem_drop (by rw [HRD.out]; exact List.mem_cons_self))
  clear hgb hgc hgr
  go_upto_region 6 with (fail)
  by_cases hm : m = 0
  · have dm : ((m : Int) == 0) = true := by simp [hm]
    have dm' : (m == 0) = true := by simp [hm]
    have hml : (m : Int) < (m : Int) + 1 := by omega
    clear hrun hm
    have hq : True := trivial
    refine wp_region_mix 48 [0, 1, 2, 3, 4, 5, 6, 7, 8, 9, 10, 11, 12, 13, 14, 15, 16, 17, 18, 19, 20, 21, 22, 23, 24, 25, 26, 27, 28, 29, 30, 31, 32, 33, 34, 35, 36, 37, 38, 39, 40, 41, 42, 43, 44, 45, 46, 47] [] [(true, 0), (true, 1), (true, 2), (true, 3), (true, 4), (true, 5), (true, 6), (true, 7), (true, 8), (true, 10), (true, 11), (true, 12), (true, 13), (true, 14), (true, 15), (false, 9), (false, 16), (false, 17), (true, 18), (true, 19), (true, 20), (true, 21), (true, 22), (true, 23), (true, 24), (true, 25), (true, 26), (false, 27), (false, 28), (true, 29), (true, 30), (true, 31), (true, 32), (true, 33), (true, 34), (true, 35), (true, 36), (true, 37), (true, 38), (true, 39), (false, 40), (true, 41), (true, 42), (true, 43), (true, 44), (true, 45), (true, 47), (false, 46), (false, 48), (false, 49), (false, 50), (false, 51), (false, 52), (false, 53)] (fun w' => Below w3.heap.size w3 w') (by kernel_rfl) (by kernel_rfl) ?_
    rintro D hD
    have HSD : Hid (Below w3.heap.size w3 D) := by rw [hD]; exact (Below.refl _ _).drew
    clear hD
    refine ⟨HSD.out, ?_⟩
    have HS := Lib.hid (fun (w' : World) (h : Below w3.heap.size w3 w') => And.intro (HP1.out.below (bchain HX3.out h)).cell (And.intro (rule6 HE0.out HRB.out (bchain HB3.out h)) (And.intro ((h.cell (p := ⟨gb, go + m, none⟩) HGC.out.2).trans HGC.out.1) hq)))
    iterate 15 (refine wpMix_q (v := ?_) rfl rfl (fun w' hS => ?_) ?_; rotate_left; (focus ((try obtain ⟨s0, ⟨e0, e1, e2, e3, e4, e5⟩, g0, g1⟩ := HS.out _ (hS rfl)); clear hS; go_simp; try with_reducible rfl; done)); (try simp only [Act.put, List.setIfInBounds_toArray, List.set_cons_zero, List.set_cons_succ]))
    refine wpMix_e rfl rfl (fun K hK => ?_)
    go_simp
    refine (plast_any _ _ _ I Rs l _ (HV.out.below (bchain HB3.out HSD.out)) (HRS.out.below (bchain HB3.out HSD.out)) (HVW.out.below (bchain HB3.out HSD.out)) HRO.out HLN.out HNZ.out).mono ?_
    rintro e Y1 ⟨⟨vv, rfl, ho⟩, hb⟩
    obtain ⟨A1, n1, c1, rfl⟩ := rdI_slice ho
    have HSY1 := Lib.hid (bchain HSD.out hb)
    have HXY1 := Lib.hid hb
    have HO1 := Lib.hid ho
    refine hK.out _ _ (fun _ => HSY1.out) ?_
    clear hK K ho hb
    (try simp only [Act.put, List.setIfInBounds_toArray, List.set_cons_zero, List.set_cons_succ])
    rw [HLF.out] at HO1
    refine wpMix_e rfl rfl (fun K hK => ?_)
    go_simp
    refine (papply_any _ _ _ I R (lastK I Rs l m) _ (HV.out.below (bchain HB3.out HSY1.out)) (HRR.out.below (bchain HB3.out HSY1.out)) (HO83.out.below HSY1.out) HROK.out HKN.out HKZ.out).mono ?_
    rintro e Y2 ⟨⟨vv, rfl, ho⟩, hb⟩
    obtain ⟨A2, n2, c2, rfl⟩ := own_sliceN ho
    have HSY2 := Lib.hid (bchain HSY1.out hb)
    have HXY2 := Lib.hid hb
    have HO2 := Lib.hid ho.rd
    refine hK.out _ _ (fun _ => HSY2.out) ?_
    clear hK K ho hb
    (try simp only [Act.put, List.setIfInBounds_toArray, List.set_cons_zero, List.set_cons_succ])
    refine wpMix_e rfl rfl (fun K hK => ?_)
    go_simp
    refine (rsame_same _ _ (applyF I R (lastK I Rs l m)) _ (HO1.out.below HXY2.out) HO2.out).mono ?_
    rintro e Y3 ⟨rfl, hb⟩
    refine hK.out _ _ (fun _ => bchain HSY2.out hb) ?_
    clear hK K
    (try simp only [Act.put, List.setIfInBounds_toArray, List.set_cons_zero, List.set_cons_succ])
    have HSY3 := Lib.hid (bchain HSY2.out hb)
    clear hb
    iterate 9 (refine wpMix_q (v := ?_) rfl rfl (fun w' hS => ?_) ?_; rotate_left; (focus ((try obtain ⟨s0, ⟨e0, e1, e2, e3, e4, e5⟩, g0, g1⟩ := HS.out _ (hS rfl)); clear hS; go_simp; try with_reducible rfl; done)); (try simp only [Act.put, List.setIfInBounds_toArray, List.set_cons_zero, List.set_cons_succ]))
    refine wpMix_e rfl rfl (fun K hK => ?_)
    go_simp
    refine (plast_any _ _ _ I Rs l _ (HV.out.below (bchain HB3.out HSY3.out)) (HRS.out.below (bchain HB3.out HSY3.out)) (HVW.out.below (bchain HB3.out HSY3.out)) HRO.out HLN.out HNZ.out).mono ?_
    rintro e Y4 ⟨⟨vv, rfl, ho⟩, hb⟩
    obtain ⟨A4, n4, c4, rfl⟩ := rdI_slice ho
    have HSY4 := Lib.hid (bchain HSY3.out hb)
    have HXY4 := Lib.hid hb
    have HO4 := Lib.hid ho
    refine hK.out _ _ (fun _ => HSY4.out) ?_
    clear hK K ho hb
    (try simp only [Act.put, List.setIfInBounds_toArray, List.set_cons_zero, List.set_cons_succ])
    refine wpMix_e rfl rfl (fun K hK => ?_)
    go_simp
    refine (rsame_same _ _ (lastF I Rs l) _ (HGR.out.below HSY4.out) HO4.out).mono ?_
    rintro e Y5 ⟨rfl, hb⟩
    refine hK.out _ _ (fun _ => bchain HSY4.out hb) ?_
    clear hK K
    (try simp only [Act.put, List.setIfInBounds_toArray, List.set_cons_zero, List.set_cons_succ])
    have HSY5 := Lib.hid (bchain HSY4.out hb)
    clear hb
    iterate 5 (refine wpMix_q (v := ?_) rfl rfl (fun w' hS => ?_) ?_; rotate_left; (focus ((try obtain ⟨s0, ⟨e0, e1, e2, e3, e4, e5⟩, g0, g1⟩ := HS.out _ (hS rfl)); clear hS; go_simp; try with_reducible rfl; done)); (try simp only [Act.put, List.setIfInBounds_toArray, List.set_cons_zero, List.set_cons_succ]))
    iterate 6 (refine wpMix_qskip rfl rfl ?_; (try simp only [Act.put, List.setIfInBounds_toArray, List.set_cons_zero, List.set_cons_succ]))
    iterate 1 (refine wpMix_eskip rfl rfl (HSY5).out ?_; (try simp only [Act.put, List.setIfInBounds_toArray, List.set_cons_zero, List.set_cons_succ]))
    have HSY6 := HSY5
    iterate 6 (refine wpMix_q (v := ?_) rfl rfl (fun w' hS => ?_) ?_; rotate_left; (focus ((try obtain ⟨s0, ⟨e0, e1, e2, e3, e4, e5⟩, g0, g1⟩ := HS.out _ (hS rfl)); clear hS; go_simp; try with_reducible rfl; done)); (try simp only [Act.put, List.setIfInBounds_toArray, List.set_cons_zero, List.set_cons_succ]))
    clear HS
    refine wpMix_e rfl rfl (fun K hK => ?_)
    go_simp
    refine (plast_any _ _ _ I [] l _ (HV.out.below (bchain HB3.out HSY5.out)) (rdRs_nil _) (HVW.out.below (bchain HB3.out HSY5.out)) rsOk_nil HLN.out HNZ.out).mono ?_
    rintro e Z7 ⟨⟨vv, rfl, ho⟩, hb⟩
    obtain ⟨A7, n7, c7, rfl⟩ := rdI_slice ho
    have HSZ7 := Lib.hid (bchain HSY5.out hb)
    have HXZ7 := Lib.hid hb
    have HO7 := Lib.hid ho
    refine hK.out _ _ (fun _ => HSZ7.out) ?_
    clear hK K ho hb
    (try simp only [Act.put, List.setIfInBounds_toArray, List.set_cons_zero, List.set_cons_succ])
    refine wpMix_e rfl rfl (fun K hK => ?_)
    go_simp
    refine (rsame_same _ _ l _ HO7.out (HVW.out.below (bchain HB3.out HSZ7.out))).mono ?_
    rintro e Z8 ⟨rfl, hb⟩
    refine hK.out _ _ (fun _ => bchain HSZ7.out hb) ?_
    clear hK K
    (try simp only [Act.put, List.setIfInBounds_toArray, List.set_cons_zero, List.set_cons_succ])
    have HSZ8 := Lib.hid (bchain HSZ7.out hb)
    clear hb
    iterate 2 (refine wpMix_e rfl rfl (fun K hK => ?_); go_simp; refine hK.out _ _ (fun h => absurd h (by decide)) ?_; clear hK K; (try simp only [Act.put, List.setIfInBounds_toArray, List.set_cons_zero, List.set_cons_succ]))
    refine wpMix_e rfl rfl (fun K hK => ?_)
    go_simp
    refine (awake_any _).mono ?_
    rintro e Z9 ⟨rfl, hb⟩
    refine hK.out _ _ (fun _ => bchain HSZ8.out hb) ?_
    clear hK K
    (try simp only [Act.put, List.setIfInBounds_toArray, List.set_cons_zero, List.set_cons_succ])
    have HSZ9 := Lib.hid (bchain HSZ8.out hb)
    clear hb
    iterate 2 (refine wpMix_e rfl rfl (fun K hK => ?_); go_simp; refine hK.out _ _ (fun h => absurd h (by decide)) ?_; clear hK K; (try simp only [Act.put, List.setIfInBounds_toArray, List.set_cons_zero, List.set_cons_succ]))
    refine wpMix_nil ?_
    refine NoPanic.normal ?_
    go_wp2_with fail
    go_ret
    exact ⟨rfl, bchain HB3.out HSZ9.out⟩
  · obtain ⟨j, hj⟩ : ∃ j, m = j + 1 := ⟨m - 1, by omega⟩
    have dm : ((m : Int) == 0) = false := by simp; omega
    have dm' : (m == 0) = false := by simp [hm]
    have hwr : IntKind.i64.wrap ((m : Int) - 1) = (j : Int) := by rw [hj]; exact (IntWalk.i64_in _ (by omega)).trans (by omega)
    have hj0 : (0 : Int) ≤ (j : Int) := by omega
    have hml : (m : Int) < (m : Int) + 1 := by omega
    have hjl : (j : Int) < (m : Int) + 1 := by omega
    have hjm : j < m + 1 := by omega
    obtain ⟨gb', go', JB, jn, jc, he, _, hjc, hjr⟩ := hrun j (by omega)
    cases he
    rw [show j + 1 = m from hj.symm] at hjr
    have HJR := Lib.hid hjr
    have HJC := Lib.hid hjc
    clear hrun hm hj hjc hjr
    refine wp_region_mix 48 [0, 1, 2, 3, 4, 5, 6, 7, 8, 9, 10, 11, 12, 13, 14, 15, 16, 17, 18, 19, 20, 21, 22, 23, 24, 25, 26, 27, 28, 29, 30, 31, 32, 33, 34, 35, 36, 37, 38, 39, 40, 41, 42, 43, 44, 45, 46, 47] [] [(true, 0), (true, 1), (true, 2), (true, 3), (true, 4), (true, 5), (true, 6), (true, 7), (true, 8), (true, 10), (true, 11), (true, 12), (true, 13), (true, 14), (true, 15), (false, 9), (false, 16), (false, 17), (true, 18), (true, 19), (true, 20), (true, 21), (true, 22), (true, 23), (true, 24), (true, 25), (true, 26), (false, 27), (false, 28), (true, 29), (true, 30), (true, 31), (true, 32), (true, 33), (true, 34), (true, 35), (true, 36), (true, 37), (true, 38), (true, 39), (false, 40), (true, 41), (true, 42), (true, 43), (true, 44), (true, 45), (true, 47), (false, 46), (false, 48), (false, 49), (false, 50), (false, 51), (false, 52), (false, 53)] (fun w' => Below w3.heap.size w3 w') (by kernel_rfl) (by kernel_rfl) ?_
    rintro D hD
    have HSD : Hid (Below w3.heap.size w3 D) := by rw [hD]; exact (Below.refl _ _).drew
    clear hD
    refine ⟨HSD.out, ?_⟩
    have HS := Lib.hid (fun (w' : World) (h : Below w3.heap.size w3 w') => And.intro (HP1.out.below (bchain HX3.out h)).cell (And.intro (rule6 HE0.out HRB.out (bchain HB3.out h)) (And.intro ((h.cell (p := ⟨gb, go + m, none⟩) HGC.out.2).trans HGC.out.1) ((h.cell (p := ⟨gb, go + j, none⟩) HGC.out.2).trans HJC.out))))
    iterate 15 (refine wpMix_q (v := ?_) rfl rfl (fun w' hS => ?_) ?_; rotate_left; (focus ((try obtain ⟨s0, ⟨e0, e1, e2, e3, e4, e5⟩, g0, g1⟩ := HS.out _ (hS rfl)); clear hS; go_simp; try with_reducible rfl; done)); (try simp only [Act.put, List.setIfInBounds_toArray, List.set_cons_zero, List.set_cons_succ]))
    refine wpMix_e rfl rfl (fun K hK => ?_)
    go_simp
    refine (plast_any _ _ _ I Rs l _ (HV.out.below (bchain HB3.out HSD.out)) (HRS.out.below (bchain HB3.out HSD.out)) (HVW.out.below (bchain HB3.out HSD.out)) HRO.out HLN.out HNZ.out).mono ?_
    rintro e Y1 ⟨⟨vv, rfl, ho⟩, hb⟩
    obtain ⟨A1, n1, c1, rfl⟩ := rdI_slice ho
    have HSY1 := Lib.hid (bchain HSD.out hb)
    have HXY1 := Lib.hid hb
    have HO1 := Lib.hid ho
    refine hK.out _ _ (fun _ => HSY1.out) ?_
    clear hK K ho hb
    (try simp only [Act.put, List.setIfInBounds_toArray, List.set_cons_zero, List.set_cons_succ])
    rw [HLF.out] at HO1
    refine wpMix_e rfl rfl (fun K hK => ?_)
    go_simp
    refine (papply_any _ _ _ I R (lastK I Rs l m) _ (HV.out.below (bchain HB3.out HSY1.out)) (HRR.out.below (bchain HB3.out HSY1.out)) (HO83.out.below HSY1.out) HROK.out HKN.out HKZ.out).mono ?_
    rintro e Y2 ⟨⟨vv, rfl, ho⟩, hb⟩
    obtain ⟨A2, n2, c2, rfl⟩ := own_sliceN ho
    have HSY2 := Lib.hid (bchain HSY1.out hb)
    have HXY2 := Lib.hid hb
    have HO2 := Lib.hid ho.rd
    refine hK.out _ _ (fun _ => HSY2.out) ?_
    clear hK K ho hb
    (try simp only [Act.put, List.setIfInBounds_toArray, List.set_cons_zero, List.set_cons_succ])
    refine wpMix_e rfl rfl (fun K hK => ?_)
    go_simp
    refine (rsame_same _ _ (applyF I R (lastK I Rs l m)) _ (HO1.out.below HXY2.out) HO2.out).mono ?_
    rintro e Y3 ⟨rfl, hb⟩
    refine hK.out _ _ (fun _ => bchain HSY2.out hb) ?_
    clear hK K
    (try simp only [Act.put, List.setIfInBounds_toArray, List.set_cons_zero, List.set_cons_succ])
    have HSY3 := Lib.hid (bchain HSY2.out hb)
    clear hb
    iterate 9 (refine wpMix_q (v := ?_) rfl rfl (fun w' hS => ?_) ?_; rotate_left; (focus ((try obtain ⟨s0, ⟨e0, e1, e2, e3, e4, e5⟩, g0, g1⟩ := HS.out _ (hS rfl)); clear hS; go_simp; try with_reducible rfl; done)); (try simp only [Act.put, List.setIfInBounds_toArray, List.set_cons_zero, List.set_cons_succ]))
    refine wpMix_e rfl rfl (fun K hK => ?_)
    go_simp
    refine (plast_any _ _ _ I Rs l _ (HV.out.below (bchain HB3.out HSY3.out)) (HRS.out.below (bchain HB3.out HSY3.out)) (HVW.out.below (bchain HB3.out HSY3.out)) HRO.out HLN.out HNZ.out).mono ?_
    rintro e Y4 ⟨⟨vv, rfl, ho⟩, hb⟩
    obtain ⟨A4, n4, c4, rfl⟩ := rdI_slice ho
    have HSY4 := Lib.hid (bchain HSY3.out hb)
    have HXY4 := Lib.hid hb
    have HO4 := Lib.hid ho
    refine hK.out _ _ (fun _ => HSY4.out) ?_
    clear hK K ho hb
    (try simp only [Act.put, List.setIfInBounds_toArray, List.set_cons_zero, List.set_cons_succ])
    refine wpMix_e rfl rfl (fun K hK => ?_)
    go_simp
    refine (rsame_same _ _ (lastF I Rs l) _ (HGR.out.below HSY4.out) HO4.out).mono ?_
    rintro e Y5 ⟨rfl, hb⟩
    refine hK.out _ _ (fun _ => bchain HSY4.out hb) ?_
    clear hK K
    (try simp only [Act.put, List.setIfInBounds_toArray, List.set_cons_zero, List.set_cons_succ])
    have HSY5 := Lib.hid (bchain HSY4.out hb)
    clear hb
    iterate 11 (refine wpMix_q (v := ?_) rfl rfl (fun w' hS => ?_) ?_; rotate_left; (focus ((try obtain ⟨s0, ⟨e0, e1, e2, e3, e4, e5⟩, g0, g1⟩ := HS.out _ (hS rfl)); clear hS; go_simp; try with_reducible rfl; done)); (try simp only [Act.put, List.setIfInBounds_toArray, List.set_cons_zero, List.set_cons_succ]))
    refine wpMix_e rfl rfl (fun K hK => ?_)
    go_simp
    refine (rsame_same _ _ (lastK I Rs l m) _ (HJR.out.below HSY5.out) (HO83.out.below HSY5.out)).mono ?_
    rintro e Y6 ⟨rfl, hb⟩
    refine hK.out _ _ (fun _ => bchain HSY5.out hb) ?_
    clear hK K
    (try simp only [Act.put, List.setIfInBounds_toArray, List.set_cons_zero, List.set_cons_succ])
    have HSY6 := Lib.hid (bchain HSY5.out hb)
    clear hb
    iterate 6 (refine wpMix_q (v := ?_) rfl rfl (fun w' hS => ?_) ?_; rotate_left; (focus ((try obtain ⟨s0, ⟨e0, e1, e2, e3, e4, e5⟩, g0, g1⟩ := HS.out _ (hS rfl)); clear hS; go_simp; try with_reducible rfl; done)); (try simp only [Act.put, List.setIfInBounds_toArray, List.set_cons_zero, List.set_cons_succ]))
    clear HS
    refine wpMix_e rfl rfl (fun K hK => ?_)
    go_simp
    refine (plast_any _ _ _ I [] l _ (HV.out.below (bchain HB3.out HSY6.out)) (rdRs_nil _) (HVW.out.below (bchain HB3.out HSY6.out)) rsOk_nil HLN.out HNZ.out).mono ?_
    rintro e Z7 ⟨⟨vv, rfl, ho⟩, hb⟩
    obtain ⟨A7, n7, c7, rfl⟩ := rdI_slice ho
    have HSZ7 := Lib.hid (bchain HSY6.out hb)
    have HXZ7 := Lib.hid hb
    have HO7 := Lib.hid ho
    refine hK.out _ _ (fun _ => HSZ7.out) ?_
    clear hK K ho hb
    (try simp only [Act.put, List.setIfInBounds_toArray, List.set_cons_zero, List.set_cons_succ])
    refine wpMix_e rfl rfl (fun K hK => ?_)
    go_simp
    refine (rsame_same _ _ l _ HO7.out (HVW.out.below (bchain HB3.out HSZ7.out))).mono ?_
    rintro e Z8 ⟨rfl, hb⟩
    refine hK.out _ _ (fun _ => bchain HSZ7.out hb) ?_
    clear hK K
    (try simp only [Act.put, List.setIfInBounds_toArray, List.set_cons_zero, List.set_cons_succ])
    have HSZ8 := Lib.hid (bchain HSZ7.out hb)
    clear hb
    iterate 2 (refine wpMix_e rfl rfl (fun K hK => ?_); go_simp; refine hK.out _ _ (fun h => absurd h (by decide)) ?_; clear hK K; (try simp only [Act.put, List.setIfInBounds_toArray, List.set_cons_zero, List.set_cons_succ]))
    refine wpMix_e rfl rfl (fun K hK => ?_)
    go_simp
    refine (awake_any _).mono ?_
    rintro e Z9 ⟨rfl, hb⟩
    refine hK.out _ _ (fun _ => bchain HSZ8.out hb) ?_
    clear hK K
    (try simp only [Act.put, List.setIfInBounds_toArray, List.set_cons_zero, List.set_cons_succ])
    have HSZ9 := Lib.hid (bchain HSZ8.out hb)
    clear hb
    iterate 2 (refine wpMix_e rfl rfl (fun K hK => ?_); go_simp; refine hK.out _ _ (fun h => absurd h (by decide)) ?_; clear hK K; (try simp only [Act.put, List.setIfInBounds_toArray, List.set_cons_zero, List.set_cons_succ]))
    refine wpMix_nil ?_
    refine NoPanic.normal ?_
    go_wp2_with fail
    go_ret
    exact ⟨rfl, bchain HB3.out HSZ9.out⟩
end Go.Proofs.Ytdijlakeonionaa
