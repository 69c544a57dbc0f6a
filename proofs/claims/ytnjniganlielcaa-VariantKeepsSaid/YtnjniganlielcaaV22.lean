/-
  Same of the reference of entries: two entries compared.
-/
import Derived.Test.YtnjniganlielcaaV21
namespace Go.Proofs.Ytnjniganlielcaa
open Go.ChangeShapes Go.WideShapes Go.ChangeAt Go.RowKit
theorem take_drop_eq {α : Type} {a b : List α} {k : Nat} {x y : α} {r s : List α} (ha : a.drop k = x :: r) (hb : b.drop k = y :: s) : a.take (k + 1) = b.take (k + 1) ↔ a.take k = b.take k ∧ x = y := by
  have hka : k < a.length := by
    rcases Nat.lt_or_ge k a.length with h | h
    · exact h
    · rw [List.drop_of_length_le h] at ha; cases ha
  have hkb : k < b.length := by
    rcases Nat.lt_or_ge k b.length with h | h
    · exact h
    · rw [List.drop_of_length_le h] at hb; cases hb
  rw [List.drop_eq_getElem_cons hka] at ha
  rw [List.drop_eq_getElem_cons hkb] at hb
  rw [List.take_succ_eq_append_getElem hka, List.take_succ_eq_append_getElem hkb, (List.cons.inj ha).1, (List.cons.inj hb).1]
  constructor
  · intro h
    have := List.append_inj h (by simp; omega)
    exact ⟨this.1, by simpa using this.2⟩
  · rintro ⟨h1, h2⟩; rw [h1, h2]
theorem ne_false {p q : PE} (h : p ≠ q) : decide (p = q) = false := by simp [h]
set_option maxHeartbeats 16000000 in
set_option maxRecDepth 100000 in
theorem same1_any (e f : EV) (p q : PE) (w : World) (hd : DpE w e p) (hf : DpE w f q) :
    Calls Try.prog 43 #[.agg #[.int .i64 e.id, .slice e.f.A e.f.n e.f.c, .int .i64 e.cls, .slice e.a.A e.a.n e.a.c, .int .i64 e.main, .slice e.s.A e.s.n e.s.c, .slice e.l.A e.l.n e.l.c, .slice e.r.A e.r.n e.r.c], .agg #[.int .i64 f.id, .slice f.f.A f.f.n f.f.c, .int .i64 f.cls, .slice f.a.A f.a.n f.a.c, .int .i64 f.main, .slice f.s.A f.s.n f.s.c, .slice f.l.A f.l.n f.l.c, .slice f.r.A f.r.n f.r.c]] w fun e' w' => e' = .returned (.bool (decide (p = q))) ∧ Below w.heap.size w w' := by
  have HD := Lib.hid hd
  have HF := Lib.hid hf
  clear hd hf
  have bids : Hid ((e.id != f.id) = true → p ≠ q) := fun h he => by rw [HD.out.id, HF.out.id, he] at h; simp at h
  have bcls : Hid ((e.cls != f.cls) = true → p ≠ q) := fun h he => by rw [HD.out.cls, HF.out.cls, he] at h; simp at h
  have bmain : Hid ((e.main != f.main) = true → p ≠ q) := fun h he => by rw [HD.out.main, HF.out.main, he] at h; simp at h
  have bna : Hid (((e.a.n : Int) != (f.a.n : Int)) = true → p ≠ q) := fun h he => by rw [HD.out.na, HF.out.na, he] at h; simp at h
  have bns : Hid (((e.s.n : Int) != (f.s.n : Int)) = true → p ≠ q) := fun h he => by rw [HD.out.ns, HF.out.ns, he] at h; simp at h
  have bnl : Hid (((e.l.n : Int) != (f.l.n : Int)) = true → p ≠ q) := fun h he => by rw [HD.out.nl, HF.out.nl, he] at h; simp at h
  have bnr : Hid (((e.r.n : Int) != (f.r.n : Int)) = true → p ≠ q) := fun h he => by rw [HD.out.nr, HF.out.nr, he] at h; simp at h
  go_enter Try.func43, Try.ntmps43
  go_upto_region 1 with (fail)
  generalize hW : World.alloc (World.alloc w _) _ = W
  have HE1 : Hid (EBlk W w.heap.size e) := by rw [Hid, EBlk, ← hW]; (repeat (first | exact heap_new' _ _ _ (by first | omega | rfl | (simp; done) | (simp; omega)) | refine (Below.heap_alloc _ _ _ (by first | omega | (simp; done) | (simp; omega))).trans ?_))
  have HE2 : Hid (EBlk W (w.heap.size + 1) f) := by rw [Hid, EBlk, ← hW]; (repeat (first | exact heap_new' _ _ _ (by first | omega | rfl | (simp; done) | (simp; omega)) | refine (Below.heap_alloc _ _ _ (by first | omega | (simp; done) | (simp; omega))).trans ?_))
  have HBW : Hid (Below w.heap.size w W) := by rw [← hW]; repeat (first | assumption | exact Below.refl _ _ | refine Below.alloc ?_ (by first | omega | (simp; done) | (simp; omega)) _ | refine Below.drew ?_ | refine below_drewN ?_ _ | refine Below.setCell ?_ (by first | omega | (simp; done) | (simp; omega)) _)
  clear hW
  obtain ⟨z0, z1, z2, z3, z4, z5, z6, z7, zl⟩ := HE1.out.facts
  obtain ⟨y0, y1, y2, y3, y4, y5, y6, y7, yl⟩ := HE2.out.facts
  cases d1 : (e.id != f.id)
  rotate_left
  · have HNE := Lib.hid (ne_false (bids.out d1))
    go_wp2_with fail
    go_ret
    exact ⟨by rw [HNE.out]; rfl, HBW.out⟩
  cases d2 : (e.cls != f.cls)
  rotate_left
  · have HNE := Lib.hid (ne_false (bcls.out d2))
    go_wp2_with fail
    go_ret
    exact ⟨by rw [HNE.out]; rfl, HBW.out⟩
  cases d3 : (e.main != f.main)
  rotate_left
  · have HNE := Lib.hid (ne_false (bmain.out d3))
    go_wp2_with fail
    go_ret
    exact ⟨by rw [HNE.out]; rfl, HBW.out⟩
  go_wp2_with fail
  refine (rsame_b _ _ p.form q.form _ (HD.out.f.below HBW.out) (HF.out.f.below HBW.out)).mono ?_
  rintro e' V ⟨rfl, hb⟩
  have HBV := Lib.hid (bchain HBW.out hb)
  have HV1 := Lib.hid (HE1.out.below hb)
  have HV2 := Lib.hid (HE2.out.below hb)
  clear hb z0 z1 z2 z3 z4 z5 z6 z7 zl y0 y1 y2 y3 y4 y5 y6 y7 yl HE1 HE2
  obtain ⟨z0, z1, z2, z3, z4, z5, z6, z7, zl⟩ := HV1.out.facts
  obtain ⟨y0, y1, y2, y3, y4, y5, y6, y7, yl⟩ := HV2.out.facts
  have HSI := Lib.hid (sameB_iff p.form q.form)
  cases d4 : sameB p.form q.form
  · have HNE : Hid (decide (p = q) = false) := ne_false fun h => by have := HSI.out.2 (by rw [h]); rw [d4] at this; cases this
    go_wp2_with fail
    go_ret
    exact ⟨by rw [HNE.out]; rfl, HBV.out⟩
  have HFORM : Hid (p.form = q.form) := HSI.out.1 d4
  cases d5 : ((e.a.n : Int) != (f.a.n : Int))
  rotate_left
  · have HNE := Lib.hid (ne_false (bna.out d5))
    go_wp2_with fail
    go_ret
    exact ⟨by rw [HNE.out]; rfl, HBV.out⟩
  cases d6 : ((e.s.n : Int) != (f.s.n : Int))
  rotate_left
  · have HNE := Lib.hid (ne_false (bns.out d6))
    go_wp2_with fail
    go_ret
    exact ⟨by rw [HNE.out]; rfl, HBV.out⟩
  cases d7 : ((e.l.n : Int) != (f.l.n : Int))
  rotate_left
  · have HNE := Lib.hid (ne_false (bnl.out d7))
    go_wp2_with fail
    go_ret
    exact ⟨by rw [HNE.out]; rfl, HBV.out⟩
  cases d8 : ((e.r.n : Int) != (f.r.n : Int))
  rotate_left
  · have HNE := Lib.hid (ne_false (bnr.out d8))
    go_wp2_with fail
    go_ret
    exact ⟨by rw [HNE.out]; rfl, HBV.out⟩
  have HNA : Hid (e.a.n = f.a.n) := by have := d5; simp at this; rw [Hid]; omega
  have HNS : Hid (e.s.n = f.s.n) := by have := d6; simp at this; rw [Hid]; omega
  have HNL : Hid (e.l.n = f.l.n) := by have := d7; simp at this; rw [Hid]; omega
  have HNR : Hid (e.r.n = f.r.n) := by have := d8; simp at this; rw [Hid]; omega
  have HID : Hid (e.id = f.id) := by rw [Hid]; simpa using d1
  have HCLS : Hid (e.cls = f.cls) := by rw [Hid]; simpa using d2
  have HMAIN : Hid (e.main = f.main) := by rw [Hid]; simpa using d3
  have HALL : Hid (p.alts = q.alts → p.senses = q.senses → p.links = q.links → p.refs = q.refs → decide (p = q) = true) := by
    intro h1 h2 h3 h4
    have i1 : p.id = q.id := HD.out.id.symm.trans (HID.out.trans HF.out.id)
    have i2 : p.cls = q.cls := HD.out.cls.symm.trans (HCLS.out.trans HF.out.cls)
    have i3 : p.main = q.main := HD.out.main.symm.trans (HMAIN.out.trans HF.out.main)
    have i4 := HFORM.out
    obtain ⟨a1, a2, a3, a4, a5, a6, a7, a8⟩ := p
    obtain ⟨b1, b2, b3, b4, b5, b6, b7, b8⟩ := q
    simp_all
  go_wp2_with fail
  clear d1 d2 d3 d4 d5 d6 d7 d8 z0 z1 z2 z3 z4 z5 z6 z7 zl y0 y1 y2 y3 y4 y5 y6 y7 yl bids bcls bmain bna bns bnl bnr HSI
  obtain ⟨_, _, _, h0, _, _, HPA, HRA⟩ := HD.out.a.op
  cases h0
  obtain ⟨_, _, _, h0, hca, hcm, HQA, HSA⟩ := HF.out.a.op
  cases h0
  obtain ⟨_, _, _, h0, _, hcm1, HPS, HRS⟩ := HD.out.s.op
  cases h0
  obtain ⟨_, _, _, h0, _, _, HQS, HSS⟩ := HF.out.s.op
  cases h0
  obtain ⟨_, _, _, h0, _, _, HPL, HRL⟩ := HD.out.l.op
  cases h0
  obtain ⟨_, _, _, h0, _, _, HQL, HSL⟩ := HF.out.l.op
  cases h0
  obtain ⟨_, _, _, h0, _, _, HPR, HRR⟩ := HD.out.r.op
  cases h0
  obtain ⟨_, _, _, h0, _, _, HQR, HSR⟩ := HF.out.r.op
  cases h0
  go_loopw [5] (fun i wr => ∃ k : Nat, k ≤ e.a.n ∧ i = .int .i64 k ∧ Hid (p.alts.take k = q.alts.take k) ∧ Hid (Below V.heap.size V wr)) (fun i _ => e.a.n - (intOf i).toNat)
  case atStart => exact ⟨0, Nat.zero_le _, rfl, rfl, Below.refl _ _⟩
  case round =>
    obtain ⟨k, hk, rfl, HT, HB⟩ := hrel
    obtain ⟨z0, z1, z2, z3, z4, z5, z6, z7, zl⟩ := (HV1.out.below HB.out).facts
    obtain ⟨y0, y1, y2, y3, y4, y5, y6, y7, yl⟩ := (HV2.out.below HB.out).facts
    by_cases hlt : k < e.a.n
    · obtain ⟨b, off, B, m, cm, l, hA, hbl, hdr, e0, HRL1⟩ := (HRA.out k hlt).below (bchain HBV.out HB.out)
      obtain ⟨b', off', B', m', cm', l', hA', hbl', hdr', e0', HRL2⟩ := (HSA.out k (by rw [← HNA.out]; exact hlt)).below (bchain HBV.out HB.out)
      have HTI := Lib.hid (take_drop_eq hdr.out hdr'.out)
      have hltf : k < f.a.n := by rw [← HNA.out]; exact hlt
      rw [hA] at z3
      rw [hA'] at y3
      have HZA := Lib.hid hA
      have HYA := Lib.hid hA'
      clear hA hA'
      have hk0 : (0 : Int) ≤ (k : Int) := by omega
      go_wp2_with fail
      refine wp_region_ord 10 [0, 1, 2, 3, 4, 5, 6, 7, 8, 9] [] [0, 1, 2, 3, 4, 5, 6, 7, 8, 9] [10, 11] (fun w' => Below wr.heap.size wr w') (by kernel_rfl) (by kernel_rfl) ?_
      rintro D hD
      have HSD : Hid (Below wr.heap.size wr D) := by rw [hD]; exact (Below.refl _ _).drew
      clear hD
      refine ⟨HSD.out, ?_⟩
      have HS : Hid (∀ w' : World, Below wr.heap.size wr w' → w'.cell? ⟨w.heap.size, 3, none⟩ = some (.slice (some ⟨b, off, none⟩) e.a.n e.a.c) ∧ w'.cell? ⟨w.heap.size + 1, 3, none⟩ = some (.slice (some ⟨b', off', none⟩) f.a.n f.a.c) ∧ w'.cell? ⟨b, off + k, none⟩ = some (.slice B m cm) ∧ w'.cell? ⟨b', off' + k, none⟩ = some (.slice B' m' cm')) := by
        intro w' h
        exact ⟨(h.cell zl).trans z3, (h.cell yl).trans y3, (h.cell hbl).trans e0, (h.cell hbl').trans e0'⟩
      clear z0 z1 z2 z3 z4 z5 z6 z7 y0 y1 y2 y3 y4 y5 y6 y7 e0 e0'
      iterate 10 (refine wpHead_cons (v := ?_) rfl rfl (fun w' hS => ?_) ?_; rotate_left; (focus ((try obtain ⟨s0, s1, s2, s3⟩ := HS.out _ (hS rfl)); clear hS; go_simp; try with_reducible rfl; done)); (try simp only [Act.put, List.setIfInBounds_toArray, List.set_cons_zero, List.set_cons_succ]))
      refine wpHead_nil ?_
      refine wpTail_cons rfl rfl (fun K hK => ?_)
      go_simp
      refine (rsame_b _ _ l l' _ (HRL1.out.below HSD.out) (HRL2.out.below HSD.out)).mono ?_
      rintro e' V2 ⟨rfl, hb⟩
      refine hK.out _ _ (fun h => absurd h (by decide)) ?_
      clear hK K hk0
      (try simp only [Act.put, List.setIfInBounds_toArray, List.set_cons_zero, List.set_cons_succ])
      have HB2 := Lib.hid (bchain HB.out (bchain HSD.out hb))
      have HSI := Lib.hid (sameB_iff l l')
      clear hb
      refine wpTail_cons rfl rfl (fun K hK => ?_)
      go_simp
      refine hK.out _ _ (fun h => absurd h (by decide)) ?_
      clear hK K
      (try simp only [Act.put, List.setIfInBounds_toArray, List.set_cons_zero, List.set_cons_succ])
      refine wpTail_nil ?_
      refine NoPanic.normal ?_
      cases hs : sameB l l'
      · have HNE : Hid (decide (p = q) = false) := ne_false fun h => by
          have := (HTI.out.1 (by rw [h])).2
          have := HSI.out.2 this
          rw [hs] at this
          cases this
        clear hs
        go_wp2_with fail
        go_ret
        exact ⟨by rw [HNE.out]; rfl, bchain HBV.out HB2.out⟩
      · have HT2 : Hid (p.alts.take (k + 1) = q.alts.take (k + 1)) := HTI.out.2 ⟨HT.out, HSI.out.1 hs⟩
        clear hs
        go_wp2_with fail
        go_roundw
        case rel => exact ⟨k + 1, by omega, by go_num, HT2.out, HB2.out⟩
        case measure => simp [intOf]; omega
    · have HALT : Hid (p.alts = q.alts) := by
        have := HT.out
        rwa [List.take_of_length_le (by rw [HPA.out]; omega), List.take_of_length_le (by rw [HQA.out, ← HNA.out]; omega)] at this
      have HBo := HB
      obtain ⟨wo1, rfl⟩ : ∃ wo : World, wo = wr := ⟨_, rfl⟩
      go_wp2_with fail
      clear HB HT hk hlt z0 z1 z2 z3 z4 z5 z6 z7 y0 y1 y2 y3 y4 y5 y6 y7 zl yl
      go_loopw [6] (fun i wr => ∃ k : Nat, k ≤ e.s.n ∧ i = .int .i64 k ∧ Hid (p.senses.take k = q.senses.take k) ∧ Hid (Below V.heap.size V wr)) (fun i _ => e.s.n - (intOf i).toNat)
      case atStart => exact ⟨0, Nat.zero_le _, rfl, rfl, HBo.out⟩
      case round =>
        obtain ⟨k, hk, rfl, HT, HB⟩ := hrel
        obtain ⟨z0, z1, z2, z3, z4, z5, z6, z7, zl⟩ := (HV1.out.below HB.out).facts
        obtain ⟨y0, y1, y2, y3, y4, y5, y6, y7, yl⟩ := (HV2.out.below HB.out).facts
        by_cases hlt : k < e.s.n
        · obtain ⟨b, off, x, hA, hbl, hdr, e0, e1⟩ := (HRS.out k hlt).below (bchain HBV.out HB.out)
          obtain ⟨b', off', y, hA', hbl', hdr', e0', e1'⟩ := (HSS.out k (by rw [← HNS.out]; exact hlt)).below (bchain HBV.out HB.out)
          have HTI := Lib.hid (take_drop_eq hdr.out hdr'.out)
          have hltf : k < f.s.n := by rw [← HNS.out]; exact hlt
          rw [hA] at z5
          rw [hA'] at y5
          have HZA := Lib.hid hA
          have HYA := Lib.hid hA'
          clear hA hA'
          have hk0 : (0 : Int) ≤ (k : Int) := by omega
          have heq := fun W => neqSe W x y
          have hgd := fun (W : World) x y xs ys => run_eqGuard_agg (P := Try.prog) W .neq 41 x y xs ys (by kernel_rfl)
          have HBB : Hid ((!decide (x = y)) = !decide (x = y)) := rfl
          generalize hbb : (!decide (x = y)) = bb at heq
          cases bb
          · have HXY : Hid (x = y) := by rw [Hid]; simpa using hbb
            have HT2 : Hid (p.senses.take (k + 1) = q.senses.take (k + 1)) := HTI.out.2 ⟨HT.out, HXY.out⟩
            clear hbb HBB
            go_wp2_with fail
            go_quiet (fail)
            clear heq hgd
            go_wp2_with fail
            go_roundw
            case rel => exact ⟨k + 1, by omega, by go_num, HT2.out, by rw [Hid]; have := HB.out; repeat (first | assumption | exact Below.refl _ _ | refine Below.alloc ?_ (by first | omega | (simp; done) | (simp; omega)) _ | refine Below.drew ?_ | refine below_drewN ?_ _ | refine Below.setCell ?_ (by first | omega | (simp; done) | (simp; omega)) _)⟩
            case measure => simp [intOf]; omega
          · have HNE : Hid (decide (p = q) = false) := ne_false fun h => by
              have := (HTI.out.1 (by rw [h])).2
              simp [this] at hbb
            clear hbb HBB
            go_wp2_with fail
            go_quiet (fail)
            clear heq hgd
            go_wp2_with fail
            go_ret
            exact ⟨by rw [HNE.out]; rfl, by have := bchain HBV.out HB.out; repeat (first | assumption | exact Below.refl _ _ | refine Below.alloc ?_ (by first | omega | (simp; done) | (simp; omega)) _ | refine Below.drew ?_ | refine below_drewN ?_ _ | refine Below.setCell ?_ (by first | omega | (simp; done) | (simp; omega)) _)⟩
        · have HSEN : Hid (p.senses = q.senses) := by
            have := HT.out
            rwa [List.take_of_length_le (by rw [HPS.out]; omega), List.take_of_length_le (by rw [HQS.out, ← HNS.out]; omega)] at this
          have HBo2 := HB
          obtain ⟨wo2, rfl⟩ : ∃ wo : World, wo = wr := ⟨_, rfl⟩
          go_wp2_with fail
          clear HB HT hk hlt z0 z1 z2 z3 z4 z5 z6 z7 y0 y1 y2 y3 y4 y5 y6 y7 zl yl
          go_loopw [7] (fun i wr => ∃ k : Nat, k ≤ e.l.n ∧ i = .int .i64 k ∧ Hid (p.links.take k = q.links.take k) ∧ Hid (Below V.heap.size V wr)) (fun i _ => e.l.n - (intOf i).toNat)
          case atStart => exact ⟨0, Nat.zero_le _, rfl, rfl, HBo2.out⟩
          case round =>
            obtain ⟨k, hk, rfl, HT, HB⟩ := hrel
            obtain ⟨z0, z1, z2, z3, z4, z5, z6, z7, zl⟩ := (HV1.out.below HB.out).facts
            obtain ⟨y0, y1, y2, y3, y4, y5, y6, y7, yl⟩ := (HV2.out.below HB.out).facts
            by_cases hlt : k < e.l.n
            · obtain ⟨b, off, x, hA, hbl, hdr, e0, e1⟩ := (HRL.out k hlt).below (bchain HBV.out HB.out)
              obtain ⟨b', off', y, hA', hbl', hdr', e0', e1'⟩ := (HSL.out k (by rw [← HNL.out]; exact hlt)).below (bchain HBV.out HB.out)
              have HTI := Lib.hid (take_drop_eq hdr.out hdr'.out)
              have hltf : k < f.l.n := by rw [← HNL.out]; exact hlt
              rw [hA] at z6
              rw [hA'] at y6
              have HZA := Lib.hid hA
              have HYA := Lib.hid hA'
              clear hA hA'
              have hk0 : (0 : Int) ≤ (k : Int) := by omega
              have heq := fun W => neqLk W x y
              have hgd := fun (W : World) x y xs ys => run_eqGuard_agg (P := Try.prog) W .neq 69 x y xs ys (by kernel_rfl)
              have HBB : Hid ((!decide (x = y)) = !decide (x = y)) := rfl
              generalize hbb : (!decide (x = y)) = bb at heq
              cases bb
              · have HXY : Hid (x = y) := by rw [Hid]; simpa using hbb
                have HT2 : Hid (p.links.take (k + 1) = q.links.take (k + 1)) := HTI.out.2 ⟨HT.out, HXY.out⟩
                clear hbb HBB
                go_wp2_with fail
                go_quiet (fail)
                clear heq hgd
                go_wp2_with fail
                go_roundw
                case rel => exact ⟨k + 1, by omega, by go_num, HT2.out, by rw [Hid]; have := HB.out; repeat (first | assumption | exact Below.refl _ _ | refine Below.alloc ?_ (by first | omega | (simp; done) | (simp; omega)) _ | refine Below.drew ?_ | refine below_drewN ?_ _ | refine Below.setCell ?_ (by first | omega | (simp; done) | (simp; omega)) _)⟩
                case measure => simp [intOf]; omega
              · have HNE : Hid (decide (p = q) = false) := ne_false fun h => by
                  have := (HTI.out.1 (by rw [h])).2
                  simp [this] at hbb
                clear hbb HBB
                go_wp2_with fail
                go_quiet (fail)
                clear heq hgd
                go_wp2_with fail
                go_ret
                exact ⟨by rw [HNE.out]; rfl, by have := bchain HBV.out HB.out; repeat (first | assumption | exact Below.refl _ _ | refine Below.alloc ?_ (by first | omega | (simp; done) | (simp; omega)) _ | refine Below.drew ?_ | refine below_drewN ?_ _ | refine Below.setCell ?_ (by first | omega | (simp; done) | (simp; omega)) _)⟩
            · have HLNK : Hid (p.links = q.links) := by
                have := HT.out
                rwa [List.take_of_length_le (by rw [HPL.out]; omega), List.take_of_length_le (by rw [HQL.out, ← HNL.out]; omega)] at this
              have HBo3 := HB
              obtain ⟨wo3, rfl⟩ : ∃ wo : World, wo = wr := ⟨_, rfl⟩
              go_wp2_with fail
              clear HB HT hk hlt z0 z1 z2 z3 z4 z5 z6 z7 y0 y1 y2 y3 y4 y5 y6 y7 zl yl
              go_loopw [8] (fun i wr => ∃ k : Nat, k ≤ e.r.n ∧ i = .int .i64 k ∧ Hid (p.refs.take k = q.refs.take k) ∧ Hid (Below V.heap.size V wr)) (fun i _ => e.r.n - (intOf i).toNat)
              case atStart => exact ⟨0, Nat.zero_le _, rfl, rfl, HBo3.out⟩
              case round =>
                obtain ⟨k, hk, rfl, HT, HB⟩ := hrel
                obtain ⟨z0, z1, z2, z3, z4, z5, z6, z7, zl⟩ := (HV1.out.below HB.out).facts
                obtain ⟨y0, y1, y2, y3, y4, y5, y6, y7, yl⟩ := (HV2.out.below HB.out).facts
                by_cases hlt : k < e.r.n
                · obtain ⟨b, off, x, hA, hbl, hdr, e0, e1⟩ := (HRR.out k hlt).below (bchain HBV.out HB.out)
                  obtain ⟨b', off', y, hA', hbl', hdr', e0', e1'⟩ := (HSR.out k (by rw [← HNR.out]; exact hlt)).below (bchain HBV.out HB.out)
                  have HTI := Lib.hid (take_drop_eq hdr.out hdr'.out)
                  have hltf : k < f.r.n := by rw [← HNR.out]; exact hlt
                  rw [hA] at z7
                  rw [hA'] at y7
                  have HZA := Lib.hid hA
                  have HYA := Lib.hid hA'
                  clear hA hA'
                  have hk0 : (0 : Int) ≤ (k : Int) := by omega
                  have heq := fun W => neqRf W x y
                  have hgd := fun (W : World) x y xs ys => run_eqGuard_agg (P := Try.prog) W .neq 71 x y xs ys (by kernel_rfl)
                  have HBB : Hid ((!decide (x = y)) = !decide (x = y)) := rfl
                  generalize hbb : (!decide (x = y)) = bb at heq
                  cases bb
                  · have HXY : Hid (x = y) := by rw [Hid]; simpa using hbb
                    have HT2 : Hid (p.refs.take (k + 1) = q.refs.take (k + 1)) := HTI.out.2 ⟨HT.out, HXY.out⟩
                    clear hbb HBB
                    go_wp2_with fail
                    go_quiet (fail)
                    clear heq hgd
                    go_wp2_with fail
                    go_roundw
                    case rel => exact ⟨k + 1, by omega, by go_num, HT2.out, by rw [Hid]; have := HB.out; repeat (first | assumption | exact Below.refl _ _ | refine Below.alloc ?_ (by first | omega | (simp; done) | (simp; omega)) _ | refine Below.drew ?_ | refine below_drewN ?_ _ | refine Below.setCell ?_ (by first | omega | (simp; done) | (simp; omega)) _)⟩
                    case measure => simp [intOf]; omega
                  · have HNE : Hid (decide (p = q) = false) := ne_false fun h => by
                      have := (HTI.out.1 (by rw [h])).2
                      simp [this] at hbb
                    clear hbb HBB
                    go_wp2_with fail
                    go_quiet (fail)
                    clear heq hgd
                    go_wp2_with fail
                    go_ret
                    exact ⟨by rw [HNE.out]; rfl, by have := bchain HBV.out HB.out; repeat (first | assumption | exact Below.refl _ _ | refine Below.alloc ?_ (by first | omega | (simp; done) | (simp; omega)) _ | refine Below.drew ?_ | refine below_drewN ?_ _ | refine Below.setCell ?_ (by first | omega | (simp; done) | (simp; omega)) _)⟩
                · have HREF : Hid (p.refs = q.refs) := by
                    have := HT.out
                    rwa [List.take_of_length_le (by rw [HPR.out]; omega), List.take_of_length_le (by rw [HQR.out, ← HNR.out]; omega)] at this
                  have HFIN := Lib.hid (HALL.out HALT.out HSEN.out HLNK.out HREF.out)
                  go_wp2_with fail
                  go_ret
                  exact ⟨by rw [HFIN.out]; rfl, bchain HBV.out HB.out⟩
            
end Go.Proofs.Ytnjniganlielcaa
