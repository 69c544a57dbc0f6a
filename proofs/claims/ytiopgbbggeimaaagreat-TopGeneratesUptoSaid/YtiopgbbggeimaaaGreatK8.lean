/-
  The reference's Check of a lexicon.
-/
import Derived.Test.YtiopgbbggeimaaaGreatK7
namespace Go.Proofs.YtiopgbbggeimaaaGreat
open Go.ChangeShapes Go.WideShapes Go.ChangeAt Go.RowKit
/-- the identifiers grow -/
def UpE (P : List PE) : Prop := P.Pairwise fun a b => a.id < b.id
theorem up_step {P : List PE} {k : Nat} {p : PE} (hd : P.drop k = p :: P.drop (k + 1)) (h : UpE (P.take k)) (hl : k = 0 ∨ ∃ q, P.drop (k - 1) = q :: P.drop k ∧ q.id < p.id) : UpE (P.take (k + 1)) := by
  have e : P.take (k + 1) = P.take k ++ [p] := by rw [List.take_add_one, ← List.head?_drop, hd]; rfl
  unfold UpE
  rw [e, List.pairwise_append]
  refine ⟨h, by simp, fun a ha b hb => ?_⟩
  rw [List.mem_singleton.1 hb]
  rcases hl with rfl | ⟨q, hq, hlt⟩
  · simp at ha
  · rcases Nat.eq_zero_or_pos k with rfl | hk
    · simp at ha
    obtain ⟨j, rfl⟩ : ∃ j, k = j + 1 := ⟨k - 1, by omega⟩
    simp only [Nat.add_sub_cancel] at hq
    have e2 : P.take (j + 1) = P.take j ++ [q] := by rw [List.take_add_one, ← List.head?_drop, hq]; rfl
    unfold UpE at h
    rw [e2, List.pairwise_append] at h
    rw [e2] at ha
    rcases List.mem_append.1 ha with ha | ha
    · exact Int.lt_trans (h.2.2 a ha q (by simp)) hlt
    · rw [List.mem_singleton.1 ha]; exact hlt
/-- what a lexicon that is right has -/
structure LexOk (I : List PPh) (P : List PE) : Prop where
  len : P.length ≤ 100
  ent : ∀ p ∈ P, EntOk I p
  up : UpE P
def LexQ (I : List PPh) (P : List PE) (x : Int) : Prop := x = 0 → LexOk I P
theorem LexQ.no {I : List PPh} {P : List PE} {x : Int} (h : x ≠ 0) : LexQ I P x := fun h' => absurd h' h
theorem getP_up {P : List PE} (h : UpE P) {p : PE} (hp : p ∈ P) : getP P p.id = some p := by
  induction P with
  | nil => cases hp
  | cons a l ih =>
    unfold UpE at h
    rw [List.pairwise_cons] at h
    rw [getP]
    rcases List.mem_cons.1 hp with rfl | hp
    · rw [List.find?_cons_of_pos (by simp)]
    · rw [List.find?_cons_of_neg (by have := h.1 p hp; simp; omega)]
      exact ih h.2 hp
set_option maxHeartbeats 16000000 in
set_option maxRecDepth 100000 in
theorem rlex_any (v vl : Value) (I : List PPh) (P : List PE) (w : World) (hv : RdVQ w v I) (hl : RdP w vl P) (hsm : ∀ p ∈ P, SmPE p) :
    Calls Tryz.prog 38 #[v, vl] w fun e' w' => RetE (LexQ I P) e' ∧ Below w.heap.size w w' := by
  obtain ⟨A0, n0, c0, rfl⟩ := rdV_form hv
  have HV := Lib.hid hv
  have HSM := Lib.hid hsm
  obtain ⟨L, hL, hLP⟩ := id hl
  have HL := Lib.hid hL
  have hlen := hLP.length
  obtain ⟨A, n, c, rfl, _, hc63, HN, HR⟩ := hl.op
  clear hv hl hsm hL hLP hlen
  by_cases hc3 : 100 < n
  · have d3 : decide ((100 : Int) < (n : Int)) = true := by simp; omega
    go_enter Tryz.func38, Tryz.ntmps38
    go_wp2_with fail
    go_ret
    exact ⟨RetE.mk (LexQ.no (by decide)), al_below _ _⟩
  have d3 : decide ((100 : Int) < (n : Int)) = false := by simp; omega
  have HLN : Hid (P.length ≤ 100) := by rw [Hid, HN.out]; omega
  go_enter Tryz.func38, Tryz.ntmps38
  go_upto_region 1 with (fail)
  generalize hW : World.alloc w _ = W
  have HBW : Hid (Below w.heap.size w W) := by rw [← hW]; exact al_below _ _
  have HP : Hid (VBlk W w.heap.size (.slice A0 n0 c0)) := by rw [← hW]; exact heap_alloc_new w _
  clear hW
  go_wp2_with fail
  clear d3 hc3
  go_loopw [14] (fun vi wr => ∃ k : Nat, k ≤ n ∧ vi = .int .i64 k ∧ Hid (∀ p ∈ P.take k, EntOk I p) ∧ Hid (UpE (P.take k)) ∧ Hid (Below W.heap.size W wr)) (fun vi _ => n - (intOf vi).toNat)
  case atStart => exact ⟨0, Nat.zero_le _, rfl, (by simp [Hid]), List.Pairwise.nil, Below.refl _ _⟩
  case round =>
    obtain ⟨k, hk, rfl, HT, HU, HBR⟩ := hrel
    have HBX := Lib.hid (bchain HBW.out HBR.out)
    by_cases hlt : k < n
    · obtain ⟨b, off, e, p, hA, hbl, hdl, HDE, hce⟩ := (HR.out k hlt).below HBX.out
      subst hA
      have hk0 : (0 : Int) ≤ (k : Int) := by omega
      have y0 := (HP.out.below HBR.out).cell
      have yl := (HP.out.below HBR.out).lt
      have HCE := Lib.hid hce
      have HS : Hid (∀ w' : World, Below wr.heap.size wr w' → w'.cell? ⟨w.heap.size, 0, none⟩ = some (.slice A0 n0 c0) ∧ ECells w' b (off + k * 8) e) :=
        fun w' h => ⟨(h.cell (p := ⟨w.heap.size, 0, none⟩) yl).trans y0, HCE.out.below h hbl⟩
      go_upto_region 6 with (fail)
      clear y0 yl hce
      refine wp_region_ord 5 [0, 1, 2, 3, 4] [] [0, 1, 2, 3, 4] [5, 6] (fun w' => Below wr.heap.size wr w') (by kernel_rfl) (by kernel_rfl) ?_
      rintro Z hZ
      have HSZ : Hid (Below wr.heap.size wr Z) := by rw [hZ]; exact (Below.refl _ _).drew
      clear hZ
      refine ⟨HSZ.out, ?_⟩
      iterate 5 (refine wpHead_cons (v := ?_) rfl rfl (fun w' hS => ?_) ?_; rotate_left; (focus ((try obtain ⟨s0, t0, t1, t2, t3, t4, t5, t6, t7⟩ := HS.out _ (hS rfl)); clear hS; go_simp; try with_reducible rfl; done)); (try simp only [Act.put, List.setIfInBounds_toArray, List.set_cons_zero, List.set_cons_succ]))
      refine wpHead_nil ?_
      refine wpTail_cons rfl rfl (fun K hK => ?_)
      go_simp
      refine (rent_any _ I e p _ (HV.out.below (bchain HBX.out HSZ.out)) (HDE.out.below HSZ.out) (HSM.out p (List.mem_of_mem_drop (by rw [hdl.out]; exact List.mem_cons_self)))).mono ?_
      rintro e' w2 ⟨⟨x, rfl, hx⟩, hb2⟩
      have HXQ := Lib.hid hx
      have HB2 := Lib.hid (bchain HSZ.out hb2)
      refine hK.out _ _ (fun _ => HB2.out) ?_
      clear hK K hb2 hx
      (try simp only [Act.put, List.setIfInBounds_toArray, List.set_cons_zero, List.set_cons_succ])
      refine wpTail_rest 6 rfl ?_
      simp only [List.drop_succ_cons, List.drop_zero]
      by_cases hx0 : x = 0
      rotate_left
      · have d1 : (x != 0) = true := by simp [hx0]
        have HNZ := Lib.hid hx0
        clear hx0
        go_wp2_with fail
        refine NoPanic.normal ?_
        go_wp2_with fail
        go_ret
        exact ⟨RetE.mk (LexQ.no HNZ.out), bchain HBX.out HB2.out⟩
      have HEN := Lib.hid (HXQ.out hx0)
      subst hx0
      have HT2 : Hid (∀ a ∈ P.take (k + 1), EntOk I a) := take_all hdl.out HT.out HEN.out
      clear HEN HXQ
      go_wp2_with fail
      refine NoPanic.normal ?_
      go_upto_region 9 with (fail)
      have hbl2 : b < w2.heap.size := by have := HB2.out.size; omega
      go_cut [41] (fun s41 wx => ∃ bb : Bool, s41 = .bool bb ∧ Hid (bb = false → UpE (P.take (k + 1))) ∧ Below w2.heap.size w2 wx)
      case first =>
        by_cases hkz : k = 0
        · have d0 : decide ((0 : Int) < (k : Int)) = false := by simp [hkz]
          have d0' : decide (0 < k) = false := by simp [hkz]
          have HUP : Hid (UpE (P.take (k + 1))) := up_step hdl.out HU.out (.inl hkz)
          clear hkz
          go_quiet (fail)
          go_wp2_with fail
          go_meet
          exact ⟨_, rfl, fun _ => HUP.out, by first | exact Below.refl _ _ | exact below_drewN (Below.refl _ _) _ | exact (Below.refl _ _).drew⟩
        obtain ⟨b2, off2, e2, q, hA2, hbq, hdl2, HDQ, hcq⟩ := (HR.out (k - 1) (by omega)).below (bchain HBX.out HB2.out)
        injection hA2 with h2
        injection h2 with h3 h4
        subst h3 h4
        obtain ⟨f0, _, _, _, _, _, _, _⟩ := hcq
        obtain ⟨g0, _, _, _, _, _, _, _⟩ := (HS.out w2 HB2.out).2
        have d0 : decide ((0 : Int) < (k : Int)) = true := by simp; omega
        have d0' : decide (0 < k) = true := by simp; omega
        have hk1 : (k : Int) - 1 = ((k - 1 : Nat) : Int) := by omega
        have hk2 : k - 1 < n := by omega
        have hwr : IntKind.i64.wrap ((k - 1 : Nat) : Int) = ((k - 1 : Nat) : Int) := IntWalk.i64_in _ (by omega)
        have hkk : k - 1 + 1 = k := by omega
        have HD2 : Hid (P.drop (k - 1) = q :: P.drop k) := by have := hdl2.out; rw [hkk] at this; exact this
        clear hkz hkk
        cases hd1 : decide (e.id ≤ e2.id)
        · have HUP : Hid (UpE (P.take (k + 1))) := up_step hdl.out HU.out (.inr ⟨q, HD2.out, by rw [← HDQ.out.id, ← HDE.out.id]; have := of_decide_eq_false hd1; omega⟩)
          go_quiet (fail)
          go_wp2_with fail
          go_meet
          exact ⟨_, rfl, fun _ => HUP.out, by first | exact Below.refl _ _ | exact below_drewN (Below.refl _ _) _ | exact (Below.refl _ _).drew⟩
        · go_quiet (fail)
          go_wp2_with fail
          go_meet
          exact ⟨_, rfl, fun h => absurd h (by decide), by first | exact Below.refl _ _ | exact below_drewN (Below.refl _ _) _ | exact (Below.refl _ _).drew⟩
      case rest =>
        obtain ⟨bb, rfl, HUQ, hb⟩ := hcut
        have HB3 := Lib.hid (bchain HB2.out hb)
        clear hb
        cases bb
        · have HU2 := Lib.hid (HUQ.out rfl)
          go_wp2_with fail
          go_roundw
          case rel => exact ⟨k + 1, by omega, by go_num, HT2.out, HU2.out, bchain HBR.out HB3.out⟩
          case measure => simp [intOf]; omega
        · go_wp2_with fail
          go_ret
          exact ⟨RetE.mk (LexQ.no (by decide)), bchain HBX.out HB3.out⟩
    · obtain rfl : n = k := by omega
      have HOK : Hid (LexOk I P) := by
        have h1 := HT.out
        have h2 := HU.out
        rw [← HN.out, List.take_length] at h1 h2
        exact ⟨HLN.out, h1, h2⟩
      obtain ⟨w4, hw4⟩ : ∃ w4, w4 = wr := ⟨_, rfl⟩
      have HB4 : Hid (Below w.heap.size w w4) := by rw [hw4]; exact HBX.out
      rw [← hw4]
      clear hw4 HBX HBR HT HU
      go_wp2_with fail
      go_loopw [45] (fun vi wr => ∃ k : Nat, k ≤ n ∧ vi = .int .i64 k ∧ Hid (Below w4.heap.size w4 wr)) (fun vi _ => n - (intOf vi).toNat)
      case atStart => exact ⟨0, Nat.zero_le _, rfl, Below.refl _ _⟩
      case round =>
        obtain ⟨k, hk, rfl, HBR⟩ := hrel
        have HBX := Lib.hid (bchain HB4.out HBR.out)
        by_cases hlt : k < n
        · obtain ⟨b, off, e, p, hA, hbl, hdl, HDE, hce⟩ := (HR.out k hlt).below HBX.out
          have hnn : n ≤ 100 := by rw [← HN.out]; exact HLN.out
          subst hA
          have hk0 : (0 : Int) ≤ (k : Int) := by omega
          have HCE := Lib.hid hce
          obtain ⟨f0, f1, f2, f3, f4, f5, f6, f7⟩ := hce
          go_upto_region 15 with (fail)
          go_cut [63] (fun s63 wx => ∃ bb : Bool, s63 = .bool bb ∧ Below wr.heap.size wr wx)
          case first =>
            cases hm : (e.main != 0)
            · go_wp2_with fail
              go_meet
              exact ⟨_, rfl, Below.refl _ _⟩
            · go_wp2_with fail
              refine (rhas_any _ L e.main _ (HL.out.below HBX.out)).mono ?_
              rintro e' w5 ⟨⟨b1, rfl, _⟩, hb⟩
              go_wp2_with fail
              go_meet
              exact ⟨_, rfl, hb⟩
          case rest =>
            obtain ⟨bb, rfl, hb⟩ := hcut
            have HBC := Lib.hid hb
            clear hb
            cases bb
            rotate_left
            · go_wp2_with fail
              go_ret
              exact ⟨RetE.mk (LexQ.no (by decide)), bchain HBX.out HBC.out⟩
            have HCX := Lib.hid (HCE.out.below HBC.out hbl)
            have HEX := Lib.hid (HDE.out.below HBC.out)
            have HB6 := Lib.hid (bchain HBX.out HBC.out)
            have HB7 := Lib.hid (bchain HBR.out HBC.out)
            have hblx : b < wc.heap.size := by have := HBC.out.size; omega
            clear f0 f1 f2 f3 f4 f5 f6 f7 hbl
            obtain ⟨f0, f1, f2, f3, f4, f5, f6, f7⟩ := HCX.out
            obtain ⟨_, _, _, h0, _, hcm, HNL, HRL⟩ := HEX.out.l.op
            cases h0
            go_wp2_with fail
            clear f0 f1 f2 f3 f4 f5 f6 f7
            go_loopw [70] (fun vj wr => ∃ j : Nat, j ≤ e.l.n ∧ vj = .int .i64 j ∧ Hid (Below wc.heap.size wc wr)) (fun vj _ => e.l.n - (intOf vj).toNat)
            case atStart => exact ⟨0, Nat.zero_le _, rfl, Below.refl _ _⟩
            case round =>
              obtain ⟨j, hj, rfl, HBJ⟩ := hrel
              by_cases hjt : j < e.l.n
              · obtain ⟨b2, off2, q, hA2, hbq, hdq, g0, g1⟩ := (HRL.out j hjt).below HBJ.out
                obtain ⟨f0, f1, f2, f3, f4, f5, f6, f7⟩ := HCX.out.below HBJ.out hblx
                rw [hA2] at f6
                have hj0 : (0 : Int) ≤ (j : Int) := by omega
                have HZZ := Lib.hid hA2
                clear hA2
                go_wp2_with fail
                refine (rhas_any _ L q.y _ (HL.out.below (bchain HB6.out HBJ.out))).mono ?_
                rintro e' w5 ⟨⟨b1, rfl, _⟩, hb⟩
                have HB8 := Lib.hid (bchain HBJ.out hb)
                clear hb
                cases b1
                · go_wp2_with fail
                  go_ret
                  exact ⟨RetE.mk (LexQ.no (by decide)), bchain HB6.out HB8.out⟩
                · go_wp2_with fail
                  go_roundw
                  case rel => exact ⟨j + 1, by omega, by go_num, HB8.out⟩
                  case measure => simp [intOf]; omega
              · go_wp2_with fail
                go_roundw
                case rel => exact ⟨k + 1, by omega, by go_num, bchain HB7.out HBJ.out⟩
                case measure => simp [intOf]; omega
        · go_wp2_with fail
          go_ret
          exact ⟨RetE.mk (fun _ => HOK.out), HBX.out⟩
end Go.Proofs.YtiopgbbggeimaaaGreat
