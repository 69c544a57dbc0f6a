/-
  The reference: Main, All, Check.
-/
import Derived.Test.YtnjniganlielcaaV14
namespace Go.Proofs.Ytnjniganlielcaa
open Go.ChangeShapes Go.WideShapes Go.ChangeAt Go.RowKit
theorem wIds_keys (L : List EV) (id : Int) : wIds L (L.length + 1) id = (wK (keys L) id).map EK.id := by
  rw [← wK_keys, wIds, List.map_map]
  rfl
theorem wIds_len (L : List EV) (id : Int) : (wIds L (L.length + 1) id).length = (wK (keys L) id).length := by rw [wIds_keys, List.length_map]
theorem main_ids (L : List EV) (id : Int) : mainK (keys L) id = ((wIds L (L.length + 1) id).getLast?).getD 0 := by
  rw [mainK, wIds_keys, List.getLast?_map]
set_option maxHeartbeats 1000000 in
theorem rmain_any (v : Value) (L : List EV) (id : Int) (w : World) (hv : RdV w v L) (hl : L.length ≤ 100000) :
    Calls Try.prog 18 #[v, .int .i64 id] w fun e w' => e = .returned (.int .i64 (mainK (keys L) id)) ∧ Below w.heap.size w w' := by
  obtain ⟨A, n, c, rfl, h1, h2, HN, _⟩ := hv.op
  have HV := Lib.hid hv
  have HL := Lib.hid hl
  clear hv hl
  have HM := Lib.hid (main_ids L id)
  go_enter Try.func18, Try.ntmps18
  go_wp2_with fail
  refine (rway_any _ L id _ HV.out HL.out).mono ?_
  rintro e w1 ⟨⟨v1, rfl, hr⟩, hb⟩
  have HB := Lib.hid hb
  obtain ⟨xs, hxs⟩ : ∃ xs, wIds L (L.length + 1) id = xs := ⟨_, rfl⟩
  rw [hxs] at hr HM
  obtain ⟨A1, n1, c1, rfl, g1, g2, HN1, HR1⟩ := hr.op
  clear hb hr hxs
  by_cases hz : n1 = 0
  · have hb0 : ((n1 : Int) == 0) = true := by simpa using hz
    have HX : Hid (mainK (keys L) id = 0) := by
      have hxe : xs = [] := List.eq_nil_of_length_eq_zero (by rw [HN1.out]; exact hz)
      rw [Hid, HM.out, hxe]; rfl
    clear hz
    go_wp2_with fail
    go_ret
    exact ⟨by rw [HX.out]; rfl, HB.out⟩
  · have hb0 : ((n1 : Int) == 0) = false := by simpa using hz
    obtain ⟨b, off, x, rfl, hbl, hd, e0⟩ := HR1.out (n1 - 1) (by omega)
    have HX : Hid (mainK (keys L) id = x) := by
      rw [Hid, HM.out, List.getLast?_eq_getElem?, HN1.out]
      have := hd.out
      have hlt : n1 - 1 < xs.length := by rw [HN1.out]; omega
      rw [List.drop_eq_getElem_cons hlt] at this
      rw [List.getElem?_eq_getElem hlt, (List.cons.inj this).1]
      rfl
    obtain ⟨m, hm⟩ : ∃ m : Nat, n1 - 1 = m := ⟨_, rfl⟩
    have hm1 : m + 1 ≤ n1 := by omega
    have hm2 : n1 ≤ m + 1 := by omega
    have hw : IntKind.i64.wrap ((n1 : Int) - 1) = (m : Int) := by rw [show (n1 : Int) - 1 = (m : Int) by omega]; exact IntWalk.i64_in _ (by omega)
    rw [hm] at e0
    clear hz hm hd
    go_wp2_with fail
    go_ret
    exact ⟨by rw [HX.out]; rfl, HB.out⟩
set_option maxHeartbeats 2000000 in
set_option maxRecDepth 100000 in
theorem rall_any (v : Value) (L : List EV) (id : Int) (w : World) (hv : RdV w v L) (hl : L.length ≤ 100000) :
    Calls Try.prog 21 #[v, .int .i64 id] w fun e w' => (∃ v', e = .returned v' ∧ RdI w' v' (allK (keys L) id)) ∧ Below w.heap.size w w' := by
  obtain ⟨A, n, c, rfl, h1, h2, HN, HR⟩ := hv.op
  have HV := Lib.hid hv
  have HL := Lib.hid hl
  have hln := hl
  rw [HN.out] at hln
  have HKL := Lib.hid (keys_length L)
  clear hv hl
  go_enter Try.func21, Try.ntmps21
  go_wp2_with fail
  go_loopw [5, 6] (fun v i wr => ∃ k : Nat, k ≤ n ∧ i = .int .i64 k ∧ Hid (OwnI wr w.heap.size v (allTo (keys L) id k)) ∧ Hid (Below w.heap.size w wr)) (fun _ i _ => n - (intOf i).toNat)
  case atStart => exact ⟨0, Nat.zero_le _, rfl, own_newI w w.heap.size _ rfl (Nat.le_refl _), (Below.refl _ _).alloc (Nat.le_refl _) _⟩
  case round =>
    obtain ⟨k, hk, rfl, HO, HB⟩ := hrel
    obtain ⟨AO, nO, cO, rfl, _, _, HNO, _⟩ := HO.out.rd.op
    by_cases hlt : k < n
    · obtain ⟨b, off, e, rfl, hb, hd, hc⟩ := HR.out k hlt
      have HC := Lib.hid hc
      obtain ⟨c0, c1, c2, c3, c4, c5, c6, c7⟩ := hc.below HB.out hb
      have hbl : b < wr.heap.size := Nat.lt_of_lt_of_le hb HB.out.size
      have HT := Lib.hid (allTo_succ L id k e _ hd.out)
      clear hc
      cases h1 : (e.id != id)
      · have HT2 : Hid (allTo (keys L) id (k + 1) = allTo (keys L) id k) := by rw [Hid, HT.out, h1]; simp
        go_wp2_with fail
        go_roundw
        case rel => exact ⟨k + 1, by omega, by go_num, by rw [HT2.out]; exact HO.out, HB.out⟩
        case measure => simp [intOf]; omega
      have HT1 : Hid (allTo (keys L) id (k + 1) = allTo (keys L) id k ++ if mainK (keys L) e.id == id then [e.id] else []) := by rw [Hid, HT.out, h1]; rfl
      go_wp2_with fail
      refine (rmain_any _ L e.id _ (HV.out.below HB.out) HL.out).mono ?_
      rintro e' w2 ⟨rfl, hb2⟩
      have HB2 := Lib.hid (bchain HB.out hb2)
      have HO2 : Hid (OwnI w2 w.heap.size (.slice AO nO cO) (allTo (keys L) id k)) := own_below HO.out hb2
      clear hb2 c0 c1 c2 c3 c4 c5 c6 c7 hbl
      obtain ⟨c0, c1, c2, c3, c4, c5, c6, c7⟩ := HC.out.below HB2.out hb
      have hbl : b < w2.heap.size := Nat.lt_of_lt_of_le hb HB2.out.size
      cases h2 : (mainK (keys L) e.id == id)
      · have HT2 : Hid (allTo (keys L) id (k + 1) = allTo (keys L) id k) := by rw [Hid, HT1.out, h2]; simp
        go_wp2_with fail
        go_roundw
        case rel => exact ⟨k + 1, by omega, by go_num, by rw [HT2.out]; exact HO2.out, HB2.out⟩
        case measure => simp [intOf]; omega
      · have HT2 : Hid (allTo (keys L) id (k + 1) = allTo (keys L) id k ++ [e.id]) := by rw [Hid, HT1.out, h2]; rfl
        have hno : nO ≤ 1000000 := by have := allTo_len (keys L) id k; rw [HNO.out] at this; omega
        have hsz : w.heap.size ≤ w2.heap.size := HB2.out.size
        go_wp2_with (at_builtin; refine wpList_app_int rfl (.tmp 32) (.tmp 38) rfl w.heap.size (.slice AO nO cO) (allTo (keys L) id k) rfl HO2.out e.id nO HNO hno hsz rfl ?_; intro g' cap w3 ho3 hg3 hgr; have HO3 := Lib.hid ho3; have HB3 := Lib.hid (below_grown HB2.out (Nat.le_refl _) HO2.out hgr); clear ho3 hgr)
        go_roundw
        case rel => exact ⟨k + 1, by omega, by go_num, by rw [HT2.out]; exact HO3.out, HB3.out⟩
        case measure => simp [intOf]; omega
    · have HFIN : Hid (OwnI wr w.heap.size (.slice AO nO cO) (allK (keys L) id)) := by
        have := HO.out
        rw [allTo_all _ _ _ (by rw [HKL.out, HN.out]; omega)] at this
        exact this
      go_wp2_with fail
      go_ret
      exact ⟨⟨_, rfl, HFIN.out.rd⟩, HB.out⟩
set_option maxHeartbeats 4000000 in
set_option maxRecDepth 100000 in
theorem rcheck_any (v : Value) (L : List EV) (w : World) (hv : RdV w v L) (hl : L.length ≤ 100000) :
    Calls Try.prog 14 #[v] w fun e w' => e = .returned (.int .i64 (chkK (keys L))) ∧ Below w.heap.size w w' := by
  obtain ⟨A, n, c, rfl, h1, h2, HN, HR⟩ := hv.op
  have HV := Lib.hid hv
  have HL := Lib.hid hl
  have hln := hl
  rw [HN.out] at hln
  clear hv hl
  go_enter Try.func14, Try.ntmps14
  go_wp2_with fail
  go_loop [3] (fun i => ∃ k : Nat, k ≤ n ∧ i = .int .i64 k ∧ Hid (chk1 (keys L) (keys L) = chk1 (keys L) (keys (L.drop k)))) (fun i => n - (intOf i).toNat)
  case atStart => exact ⟨0, Nat.zero_le _, rfl, rfl⟩
  case round =>
    obtain ⟨k, hk, rfl, HC⟩ := hrel
    by_cases hlt : k < n
    · obtain ⟨b, off, e, rfl, hb, hd, c0, c1, c2, c3, c4, c5, c6, c7⟩ := HR.out k hlt
      have HC2 : Hid (chk1 (keys L) (keys L) = if e.main ≠ 0 ∧ getK (keys L) e.main = none then 9 else chk1 (keys L) (keys (L.drop (k + 1)))) := by rw [Hid, HC.out, hd.out]; rfl
      have HGK := Lib.hid (getK_keys L e.main)
      cases hm0 : (e.main != 0)
      · have HC3 : Hid (chk1 (keys L) (keys L) = chk1 (keys L) (keys (L.drop (k + 1)))) := by rw [Hid, HC2.out, if_neg (by simp at hm0; simp [hm0])]
        go_wp2_with fail
        go_round
        case rel => exact ⟨k + 1, by omega, by go_num, HC3.out⟩
        case measure => simp [intOf]; omega
      · go_wp2_with fail
        refine (find_any _ L e.main _ HV.out).mono ?_
        rintro e' w2 ⟨rfl, rfl⟩
        rcases find_cases HV.out e.main with ⟨g1, g2⟩ | ⟨i, e2, b2, off2, g1, g2, g3, g4, hA2, g5, g6⟩
        · have HC3 : Hid (chk1 (keys L) (keys L) = 9) := by rw [Hid, HC2.out, if_pos ⟨by simpa using hm0, by rw [HGK.out, g2]; rfl⟩]
          rw [g1]
          clear g1 g2
          go_wp2_with fail
          go_ret
          exact ⟨by rw [chkK, if_pos (by rw [HC3.out]; decide)]; rfl, Below.refl _ _⟩
        · have HC3 : Hid (chk1 (keys L) (keys L) = chk1 (keys L) (keys (L.drop (k + 1)))) := by rw [Hid, HC2.out, if_neg (by rw [HGK.out, g4]; simp)]
          rw [g1]
          clear g1 g2 g3 g4 hA2 g5 g6
          go_wp2_with fail
          go_round
          case rel => exact ⟨k + 1, by omega, by go_num, HC3.out⟩
          case measure => simp [intOf]; omega
    · have HC2 : Hid (chk1 (keys L) (keys L) = 0) := by rw [Hid, HC.out, List.drop_of_length_le (by rw [HN.out]; omega)]; rfl
      have HCK : Hid (chkK (keys L) = chk2 (keys L) (keys L)) := by rw [Hid, chkK, if_neg (by rw [HC2.out]; decide)]
      go_wp2_with fail
      go_loopw [4] (fun i wr => ∃ k : Nat, k ≤ n ∧ i = .int .i64 k ∧ Hid (chk2 (keys L) (keys L) = chk2 (keys L) (keys (L.drop k))) ∧ Hid (Below w.heap.size w wr)) (fun i _ => n - (intOf i).toNat)
      case atStart => exact ⟨0, Nat.zero_le _, rfl, rfl, Below.refl _ _⟩
      case round =>
        obtain ⟨k, hk, rfl, HC, HB⟩ := hrel
        by_cases hlt : k < n
        · obtain ⟨b, off, e, rfl, hb, hd, c0, c1, c2, c3, c4, c5, c6, c7⟩ := (HR.out k hlt).below HB.out
          have HC2 : Hid (chk2 (keys L) (keys L) = if (keys L).length < (wK (keys L) e.id).length then 17 else chk2 (keys L) (keys (L.drop (k + 1)))) := by rw [Hid, HC.out, hd.out]; rfl
          have HWK := Lib.hid (wIds_len L e.id)
          have HKL := Lib.hid (keys_length L)
          go_wp2_with fail
          refine (rway_any _ L e.id _ (HV.out.below HB.out) HL.out).mono ?_
          rintro e' w2 ⟨⟨v2, rfl, hr⟩, hb2⟩
          have HB2 := Lib.hid (bchain HB.out hb2)
          obtain ⟨A2, n2, c2', rfl, _, _, HN2, _⟩ := hr.op
          have HNN : Hid ((wK (keys L) e.id).length = n2) := HWK.out.symm.trans HN2.out
          clear hb2 hr c0 c1 c2 c3 c4 c5 c6 c7
          by_cases hlong : n < n2
          · have HC3 : Hid (chk2 (keys L) (keys L) = 17) := by rw [Hid, HC2.out, if_pos (by rw [HKL.out, HN.out, HNN.out]; exact hlong)]
            have hd1 : decide (n < n2) = true := by simp; omega
            go_wp2_with fail
            go_ret
            exact ⟨by rw [HCK.out, HC3.out]; rfl, HB2.out⟩
          · have HC3 : Hid (chk2 (keys L) (keys L) = chk2 (keys L) (keys (L.drop (k + 1)))) := by rw [Hid, HC2.out, if_neg (by rw [HKL.out, HN.out, HNN.out]; exact hlong)]
            have hd1 : decide (n < n2) = false := by simp; omega
            go_wp2_with fail
            go_roundw
            case rel => exact ⟨k + 1, by omega, by go_num, HC3.out, HB2.out⟩
            case measure => simp [intOf]; omega
        · have HC2 : Hid (chk2 (keys L) (keys L) = 0) := by rw [Hid, HC.out, List.drop_of_length_le (by rw [HN.out]; omega)]; rfl
          go_wp2_with fail
          go_ret
          exact ⟨by rw [HCK.out, HC2.out]; rfl, HB.out⟩
end Go.Proofs.Ytnjniganlielcaa
