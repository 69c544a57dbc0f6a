/-
  The reference's Check of an entry, first part: the identifier, the form, the class and the alternatives.
-/
import Derived.Test.YtiopgbbggeimaaaGreatK3
namespace Go.Proofs.YtiopgbbggeimaaaGreat
open Go.ChangeShapes Go.WideShapes Go.ChangeAt Go.RowKit
theorem RdP.opn {w : World} {v : Value} {P : List PE} (h : RdP w v P) : ∃ (A : Option Addr) (n c : Nat), v = .slice A n c ∧ P.length = n := by
  obtain ⟨L, h1, h2⟩ := h
  obtain ⟨A, n, c, rfl, _, _, HN, _⟩ := h1.op
  exact ⟨A, n, c, rfl, h2.length.symm.trans HN.out⟩
/-- element k of a list of entries read whole, in memory -/
def PAt (w : World) (A : Option Addr) (P : List PE) (k : Nat) : Prop :=
  ∃ b off e p, A = some ⟨b, off, none⟩ ∧ b < w.heap.size ∧ Hid (P.drop k = p :: P.drop (k + 1)) ∧ Hid (DpE w e p) ∧ ECells w b (off + k * 8) e
theorem RdP.op {w : World} {v : Value} {P : List PE} (h : RdP w v P) : ∃ (A : Option Addr) (n c : Nat), v = .slice A n c ∧ n ≤ c ∧ c ≤ 9223372036854775807 ∧ Hid (P.length = n) ∧ Hid (∀ k, k < n → PAt w A P k) := by
  obtain ⟨L, h1, h2⟩ := h
  obtain ⟨A, n, c, rfl, g1, g2, HN, HR⟩ := h1.op
  refine ⟨A, n, c, rfl, g1, g2, h2.length.symm.trans HN.out, fun k hk => ?_⟩
  obtain ⟨b, off, e, rfl, hb, hd, hc⟩ := HR.out k hk
  have hkl : k < L.length := by rw [HN.out]; exact hk
  have hLk : L[k]? = some e := by
    have := hd.out
    rw [List.drop_eq_getElem_cons hkl] at this
    rw [List.getElem?_eq_getElem hkl, (List.cons.inj this).1]
  obtain ⟨p, hp, hdp⟩ := h2.get hLk
  have hkp := List.getElem?_eq_some_iff.1 hp
  refine ⟨b, off, e, p, rfl, hb, ?_, hdp, hc⟩
  rw [Hid, List.drop_eq_getElem_cons hkp.1, hkp.2]
theorem PAt.below {w w' : World} {A : Option Addr} {P : List PE} {k : Nat} (h : PAt w A P k) (hb : Below w.heap.size w w') : PAt w' A P k := by
  obtain ⟨b, off, e, p, rfl, h1, h2, h3, h4⟩ := h
  exact ⟨b, off, e, p, rfl, by have := hb.size; omega, h2, h3.out.below hb, h4.below hb h1⟩
theorem DpE.nf {w : World} {e : EV} {p : PE} (h : DpE w e p) : e.f.n = p.form.length := rd_len h.f
theorem DpE.na {w : World} {e : EV} {p : PE} (h : DpE w e p) : e.a.n = p.alts.length := by obtain ⟨_, h1, _⟩ := h.a; exact rd_len h1
theorem DpE.nr {w : World} {e : EV} {p : PE} (h : DpE w e p) : e.r.n = p.refs.length := rd_len h.r
/-- is it an identifier? -/
def idB (n : Int) : Bool := decide (1 ≤ n) && decide (n ≤ 1099511627776)
theorem ident_any (n : Int) (w : World) : Calls Tryz.prog 120 #[.int .i64 n] w fun e w' => e = .returned (.bool (idB n)) ∧ w = w' := by
  cases h1 : decide (1 ≤ n) <;> cases h2 : decide (n ≤ 1099511627776) <;>
  · go_enter Tryz.func120, Tryz.ntmps120
    go_wp2_with fail
    go_ret
    exact ⟨by simp [idB, h1, h2], rfl⟩
structure WordsOk (I : List PPh) (p : PE) : Prop where
  id : idB p.id = true
  form : wordC I p.form = 0
  c1 : 1 ≤ p.cls
  c2 : p.cls ≤ 20
  al : p.alts.length ≤ 3
  alts : ∀ a ∈ p.alts, wordC I a = 0
def WordsQ (I : List PPh) (p : PE) (x : Int) : Prop := x = 0 → WordsOk I p
theorem WordsQ.no {I : List PPh} {p : PE} {x : Int} (h : x ≠ 0) : WordsQ I p x := fun h' => absurd h' h
theorem take_all {α : Type} {Q : α → Prop} {l : List α} {k : Nat} {x : α} (hd : l.drop k = x :: l.drop (k + 1)) (h : ∀ a ∈ l.take k, Q a) (hx : Q x) : ∀ a ∈ l.take (k + 1), Q a := by
  intro a ha
  rw [List.take_add_one, ← List.head?_drop, hd] at ha
  rcases List.mem_append.1 ha with ha | ha
  · exact h a ha
  · simp only [List.head?_cons, Option.toList_some, List.mem_singleton] at ha
    rw [ha]; exact hx
set_option maxHeartbeats 8000000 in
set_option maxRecDepth 100000 in
theorem words_any (v : Value) (I : List PPh) (e : EV) (p : PE) (w : World) (hv : RdVQ w v I) (he : DpE w e p) :
    Calls Tryz.prog 100 #[v, .agg #[.int .i64 e.id, .slice e.f.A e.f.n e.f.c, .int .i64 e.cls, .slice e.a.A e.a.n e.a.c, .int .i64 e.main, .slice e.s.A e.s.n e.s.c, .slice e.l.A e.l.n e.l.c, .slice e.r.A e.r.n e.r.c]] w fun e' w' => RetE (WordsQ I p) e' ∧ Below w.heap.size w w' := by
  obtain ⟨A0, n0, c0, rfl⟩ := rdV_form hv
  have HV := Lib.hid hv
  have HE := Lib.hid he
  clear hv he
  go_enter Tryz.func100, Tryz.ntmps100
  go_upto_region 1 with (fail)
  generalize hW : World.alloc (World.alloc w _) _ = W
  have HBW : Hid (Below w.heap.size w W) := by rw [← hW]; exact bchain (al_below _ _) (al_below _ _)
  have HP : Hid (VBlk W w.heap.size (.slice A0 n0 c0)) := by rw [← hW]; exact VBlk.below (heap_alloc_new w _) (al_below _ _)
  have HQ : Hid (EBlk W (w.heap.size + 1) e) := by
    have h := heap_alloc_new (w.alloc (.cells #[.slice A0 n0 c0] 24)) (.cells #[.int .i64 e.id, .slice e.f.A e.f.n e.f.c, .int .i64 e.cls, .slice e.a.A e.a.n e.a.c, .int .i64 e.main, .slice e.s.A e.s.n e.s.c, .slice e.l.A e.l.n e.l.c, .slice e.r.A e.r.n e.r.c] 85)
    rw [World.size_alloc] at h
    rw [← hW]; exact h
  clear hW
  obtain ⟨z0, z1, z2, z3, z4, z5, z6, z7, zl⟩ := HQ.out.facts
  go_wp2_with fail
  refine (ident_any e.id _).mono ?_
  rintro e' w1 ⟨rfl, rfl⟩
  cases hid : idB e.id
  · go_wp2_with fail
    go_ret
    exact ⟨RetE.mk (WordsQ.no (by decide)), HBW.out⟩
  have HID : Hid (idB p.id = true) := by rw [Hid, ← HE.out.id]; exact hid
  clear hid
  have y0 := HP.out.cell
  go_wp2_with fail
  refine (rword_any _ _ I p.form _ (HV.out.below HBW.out) (HE.out.f.below HBW.out)).mono ?_
  rintro e' w1 ⟨rfl, hb⟩
  have HB1 := Lib.hid hb
  have HE1 : Hid (EBlk w1 (w.heap.size + 1) e) := HQ.out.below hb
  clear hb z0 z1 z2 z3 z4 z5 z6 z7 zl y0
  obtain ⟨z0, z1, z2, z3, z4, z5, z6, z7, zl⟩ := HE1.out.facts
  by_cases hw : wordC I p.form = 0
  rotate_left
  · have d1 : (wordC I p.form != 0) = true := by simp [hw]
    have HNZ : Hid (wordC I p.form ≠ 0) := hw
    generalize wordC I p.form = x at d1 HNZ ⊢
    go_wp2_with fail
    go_ret
    exact ⟨RetE.mk (WordsQ.no HNZ.out), bchain HBW.out HB1.out⟩
  have HF := Lib.hid hw
  rw [hw]
  clear hw
  by_cases hc1 : e.cls < 1
  · have d1 : decide (e.cls < 1) = true := by simp [hc1]
    go_wp2_with fail
    go_ret
    exact ⟨RetE.mk (WordsQ.no (by decide)), bchain HBW.out HB1.out⟩
  have d1 : decide (e.cls < 1) = false := by simp [hc1]
  by_cases hc2 : 20 < e.cls
  · have d2 : decide (20 < e.cls) = true := by simp [hc2]
    go_wp2_with fail
    go_ret
    exact ⟨RetE.mk (WordsQ.no (by decide)), bchain HBW.out HB1.out⟩
  have d2 : decide (20 < e.cls) = false := by simp [hc2]
  by_cases hc3 : 3 < e.a.n
  · have d3 : decide ((3 : Int) < (e.a.n : Int)) = true := by simp; omega
    go_wp2_with fail
    go_ret
    exact ⟨RetE.mk (WordsQ.no (by decide)), bchain HBW.out HB1.out⟩
  have d3 : decide ((3 : Int) < (e.a.n : Int)) = false := by simp; omega
  have HOK : Hid ((∀ a ∈ p.alts, wordC I a = 0) → WordsOk I p) := fun h => ⟨HID.out, HF.out, by rw [← HE.out.cls]; omega, by rw [← HE.out.cls]; omega, by rw [← HE.out.na]; omega, h⟩
  clear HF HID hc1 hc2
  go_wp2_with fail
  clear d1 d2 d3 z0 z1 z2 z3 z4 z5 z6 z7 zl
  obtain ⟨_, _, _, h0, _, hcm, HNA, HRA⟩ := (HE.out.a.below (bchain HBW.out HB1.out)).op
  cases h0
  go_loopw [6] (fun vi wr => ∃ k : Nat, k ≤ e.a.n ∧ vi = .int .i64 k ∧ Hid (∀ a ∈ p.alts.take k, wordC I a = 0) ∧ Hid (Below w1.heap.size w1 wr)) (fun vi _ => e.a.n - (intOf vi).toNat)
  case atStart => exact ⟨0, Nat.zero_le _, rfl, (by simp [Hid]), Below.refl _ _⟩
  case round =>
    obtain ⟨k, hk, rfl, HT, HBR⟩ := hrel
    have HBX := Lib.hid (bchain HBW.out (bchain HB1.out HBR.out))
    obtain ⟨z0, z1, z2, z3, z4, z5, z6, z7, zl⟩ := (HE1.out.below HBR.out).facts
    by_cases hlt : k < e.a.n
    · obtain ⟨b, off, B, m, cm, l, hA, hbl, hdl, e0, HRL⟩ := (HRA.out k hlt).below HBR.out
      have hk0 : (0 : Int) ≤ (k : Int) := by omega
      have hnk : k < 3 := by omega
      have HZA := Lib.hid hA
      have y0 := (HP.out.below (bchain HB1.out HBR.out)).cell
      have yl := (HP.out.below (bchain HB1.out HBR.out)).lt
      have HS : Hid (∀ w' : World, Below wr.heap.size wr w' → w'.cell? ⟨w.heap.size, 0, none⟩ = some (.slice A0 n0 c0) ∧ w'.cell? ⟨w.heap.size + 1, 3, none⟩ = some (.slice (some ⟨b, off, none⟩) e.a.n e.a.c) ∧
          w'.cell? ⟨b, off + k, none⟩ = some (.slice B m cm) ∧ w'.cell? ⟨w.heap.size + 1, 1, none⟩ = some (.slice e.f.A e.f.n e.f.c)) :=
        fun w' h => ⟨(h.cell (p := ⟨w.heap.size, 0, none⟩) yl).trans y0, by rw [← hA]; exact (h.cell (p := ⟨w.heap.size + 1, 3, none⟩) zl).trans z3, (h.cell (p := ⟨b, off + k, none⟩) hbl).trans e0, (h.cell (p := ⟨w.heap.size + 1, 1, none⟩) zl).trans z1⟩
      go_upto_region 13 with (fail)
      clear hA z0 z1 z2 z3 z4 z5 z6 z7 zl e0 y0 yl
      refine wp_region_ord 6 [0, 1, 2, 3, 4, 5] [] [0, 1, 2, 3, 4, 5] [6, 7] (fun w' => Below wr.heap.size wr w') (by kernel_rfl) (by kernel_rfl) ?_
      rintro Z hZ
      have HSZ : Hid (Below wr.heap.size wr Z) := by rw [hZ]; exact (Below.refl _ _).drew
      clear hZ
      refine ⟨HSZ.out, ?_⟩
      iterate 6 (refine wpHead_cons (v := ?_) rfl rfl (fun w' hS => ?_) ?_; rotate_left; (focus ((try obtain ⟨s0, s1, s2, s3⟩ := HS.out _ (hS rfl)); clear hS; go_simp; try with_reducible rfl; done)); (try simp only [Act.put, List.setIfInBounds_toArray, List.set_cons_zero, List.set_cons_succ]))
      refine wpHead_nil ?_
      refine wpTail_cons rfl rfl (fun K hK => ?_)
      go_simp
      refine (rword_any _ _ I l _ (HV.out.below (bchain HBX.out HSZ.out)) (HRL.out.below HSZ.out)).mono ?_
      rintro e' w2 ⟨rfl, hb2⟩
      have HB2 := Lib.hid (bchain HSZ.out hb2)
      refine hK.out _ _ (fun _ => HB2.out) ?_
      clear hK K hb2
      (try simp only [Act.put, List.setIfInBounds_toArray, List.set_cons_zero, List.set_cons_succ])
      refine wpTail_rest 7 rfl ?_
      simp only [List.drop_succ_cons, List.drop_zero]
      by_cases hw : wordC I l = 0
      rotate_left
      · have d1 : (wordC I l != 0) = true := by simp [hw]
        have HNZ : Hid (wordC I l ≠ 0) := hw
        generalize wordC I l = x at d1 HNZ ⊢
        go_wp2_with fail
        refine NoPanic.normal ?_
        go_wp2_with fail
        go_ret
        exact ⟨RetE.mk (WordsQ.no HNZ.out), bchain HBX.out HB2.out⟩
      have HWL := Lib.hid hw
      rw [hw]
      clear hw
      go_wp2_with fail
      refine NoPanic.normal ?_
      have HK2 : Hid (∀ a ∈ p.alts.take (k + 1), wordC I a = 0) := take_all hdl.out HT.out HWL.out
      clear HWL
      have HS2 : Hid (∀ w' : World, Below w2.heap.size w2 w' → w'.cell? ⟨w.heap.size + 1, 3, none⟩ = some (.slice (some ⟨b, off, none⟩) e.a.n e.a.c) ∧
          w'.cell? ⟨b, off + k, none⟩ = some (.slice B m cm) ∧ w'.cell? ⟨w.heap.size + 1, 1, none⟩ = some (.slice e.f.A e.f.n e.f.c)) := fun w' h => (HS.out w' (bchain HB2.out h)).2
      clear HS
      have HS := HS2
      clear HS2
      go_upto_region 16 with (fail)
      refine wp_region_ord 7 [0, 1, 2, 3, 4, 5, 6] [] [0, 1, 2, 3, 4, 5, 6] [7] (fun w' => Below w2.heap.size w2 w') (by kernel_rfl) (by kernel_rfl) ?_
      rintro Z2 hZ
      have HSZ2 : Hid (Below w2.heap.size w2 Z2) := by rw [hZ]; exact (Below.refl _ _).drew
      clear hZ
      refine ⟨HSZ2.out, ?_⟩
      iterate 7 (refine wpHead_cons (v := ?_) rfl rfl (fun w' hS => ?_) ?_; rotate_left; (focus ((try obtain ⟨s0, s1, s2⟩ := HS.out _ (hS rfl)); clear hS; go_simp; try with_reducible rfl; done)); (try simp only [Act.put, List.setIfInBounds_toArray, List.set_cons_zero, List.set_cons_succ]))
      refine wpHead_nil ?_
      refine wpTail_cons rfl rfl (fun K hK => ?_)
      go_simp
      refine (rsame_any _ _ l p.form _ (HRL.out.below (bchain HB2.out HSZ2.out)) (HE.out.f.below (bchain HBX.out (bchain HB2.out HSZ2.out)))).mono ?_
      rintro e' w3 ⟨rfl, nq, rfl⟩
      have HB3 : Hid (Below w2.heap.size w2 (Z2.drewN nq)) := below_drewN HSZ2.out _
      refine hK.out _ _ (fun h => absurd h (by decide)) ?_
      clear hK K HS
      (try simp only [Act.put, List.setIfInBounds_toArray, List.set_cons_zero, List.set_cons_succ])
      refine wpTail_nil ?_
      refine NoPanic.normal ?_
      generalize Z2.drewN nq = w3 at HB3 ⊢
      have HB4 := Lib.hid (bchain HBR.out (bchain HB2.out HB3.out))
      have HEE := Lib.hid (HE1.out.below HB4.out)
      have HRX := Lib.hid (fun j hj => (HRA.out j hj).below HB4.out)
      cases sameB l p.form
      rotate_left
      · go_wp2_with fail
        go_ret
        exact ⟨RetE.mk (WordsQ.no (by decide)), bchain HBW.out (bchain HB1.out HB4.out)⟩
      clear HSZ HSZ2 HB2 HB3 HT
      go_wp2_with fail
      go_loopw [8] (fun vj wr => ∃ j : Nat, j ≤ k ∧ vj = .int .i64 j ∧ Hid (Below w3.heap.size w3 wr)) (fun vj _ => k - (intOf vj).toNat)
      case atStart => exact ⟨0, Nat.zero_le _, rfl, Below.refl _ _⟩
      case round =>
        obtain ⟨j, hj, rfl, HBQ⟩ := hrel
        obtain ⟨z0, z1, z2, z3, z4, z5, z6, z7, zl⟩ := (HEE.out.below HBQ.out).facts
        by_cases hjt : j < k
        · obtain ⟨b1, off1, B1, m1, cm1, l1, hA1, hbl1, hdl1, e1, HRL1⟩ := (HRX.out k hlt).below HBQ.out
          obtain ⟨b2, off2, B2, m2, cm2, l2, hA2, hbl2, hdl2, e2, HRL2⟩ := (HRX.out j (by omega)).below HBQ.out
          have h2 := HZA.out.symm.trans hA1
          injection h2 with h2
          injection h2 with h3 h4
          subst h3 h4
          have h2 := HZA.out.symm.trans hA2
          injection h2 with h2
          injection h2 with h3 h4
          subst h3 h4
          clear hA1 hA2
          rw [HZA.out] at z3
          have hj0 : (0 : Int) ≤ (j : Int) := by omega
          have hjn : j < e.a.n := by omega
          have HS : Hid (∀ w' : World, Below wr.heap.size wr w' → w'.cell? ⟨w.heap.size + 1, 3, none⟩ = some (.slice (some ⟨b, off, none⟩) e.a.n e.a.c) ∧
              w'.cell? ⟨b, off + k, none⟩ = some (.slice B1 m1 cm1) ∧ w'.cell? ⟨b, off + j, none⟩ = some (.slice B2 m2 cm2)) :=
            fun w' h => ⟨(h.cell (p := ⟨w.heap.size + 1, 3, none⟩) zl).trans z3, (h.cell (p := ⟨b, off + k, none⟩) hbl1).trans e1, (h.cell (p := ⟨b, off + j, none⟩) hbl1).trans e2⟩
          go_upto_region 21 with (fail)
          clear z0 z1 z2 z3 z4 z5 z6 z7 zl e1 e2
          refine wp_region_ord 10 [0, 1, 2, 3, 4, 5, 6, 7, 8, 9] [] [0, 1, 2, 3, 4, 5, 6, 7, 8, 9] [10] (fun w' => Below wr.heap.size wr w') (by kernel_rfl) (by kernel_rfl) ?_
          rintro Z2 hZ
          have HSZ2 : Hid (Below wr.heap.size wr Z2) := by rw [hZ]; exact (Below.refl _ _).drew
          clear hZ
          refine ⟨HSZ2.out, ?_⟩
          iterate 10 (refine wpHead_cons (v := ?_) rfl rfl (fun w' hS => ?_) ?_; rotate_left; (focus ((try obtain ⟨s0, s1, s2⟩ := HS.out _ (hS rfl)); clear hS; go_simp; try with_reducible rfl; done)); (try simp only [Act.put, List.setIfInBounds_toArray, List.set_cons_zero, List.set_cons_succ]))
          refine wpHead_nil ?_
          refine wpTail_cons rfl rfl (fun K hK => ?_)
          go_simp
          refine (rsame_any _ _ l1 l2 _ (HRL1.out.below HSZ2.out) (HRL2.out.below HSZ2.out)).mono ?_
          rintro e' w4 ⟨rfl, nq2, rfl⟩
          have HB5 : Hid (Below w3.heap.size w3 (Z2.drewN nq2)) := below_drewN (bchain HBQ.out HSZ2.out) _
          refine hK.out _ _ (fun h => absurd h (by decide)) ?_
          clear hK K HS
          (try simp only [Act.put, List.setIfInBounds_toArray, List.set_cons_zero, List.set_cons_succ])
          refine wpTail_nil ?_
          refine NoPanic.normal ?_
          generalize Z2.drewN nq2 = w4 at HB5 ⊢
          cases sameB l1 l2
          · go_wp2_with fail
            go_roundw
            case rel => exact ⟨j + 1, by omega, by go_num, HB5.out⟩
            case measure => simp [intOf]; omega
          · go_wp2_with fail
            go_ret
            exact ⟨RetE.mk (WordsQ.no (by decide)), bchain HBW.out (bchain HB1.out (bchain HB4.out HB5.out))⟩
        · go_wp2_with fail
          go_roundw
          case rel => exact ⟨k + 1, by omega, by go_num, HK2.out, bchain HB4.out HBQ.out⟩
          case measure => simp [intOf]; omega
    · obtain rfl : e.a.n = k := by omega
      have HA : Hid (∀ a ∈ p.alts, wordC I a = 0) := by
        have := HT.out
        rw [HE.out.na, List.take_length] at this
        exact this
      go_wp2_with fail
      go_ret
      exact ⟨RetE.mk (fun _ => HOK.out HA.out), HBX.out⟩
end Go.Proofs.YtiopgbbggeimaaaGreat
