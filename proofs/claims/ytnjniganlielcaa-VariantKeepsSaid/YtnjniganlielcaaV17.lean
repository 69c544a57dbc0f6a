/-
  The reference: Join, Part.
-/
import Derived.Test.YtnjniganlielcaaV16
namespace Go.Proofs.Ytnjniganlielcaa
open Go.ChangeShapes Go.WideShapes Go.ChangeAt Go.RowKit
set_option maxHeartbeats 1000000 in
set_option maxRecDepth 100000 in
theorem rpart_any (v : Value) (L : List EV) (id : Int) (w : World) (hv : RdV w v L) (hl : L.length ≤ 100000) (hup : UpK (keys L)) :
    Calls Try.prog 27 #[v, .int .i64 id] w fun e w' => (∃ v', e = .returned (.tuple #[v', .int .i64 (partK (keys L) id)]) ∧ OwnV w' w.heap.size v' (partE L id)) ∧ Below w.heap.size w w' := by
  obtain ⟨A, n, c, rfl, h1, h2, HN, _⟩ := hv.op
  have HV := Lib.hid hv
  have HL := Lib.hid hl
  have HUP := Lib.hid hup
  clear hl hup
  have HK := Lib.hid (getK_keys L id)
  rcases find_cases hv id with ⟨g3, g4⟩ | ⟨i, e, b, off, g3, g4, g5, g6, hA, hb, hc⟩
  · have HP : Hid (partK (keys L) id = 9) := by rw [Hid, partK, HK.out, g4]; rfl
    have HE : Hid (partE L id = []) := by rw [Hid, partE, HP.out]; rfl
    have HG := Lib.hid g3
    clear g3 g4 hv
    go_enter Try.func27, Try.ntmps27
    go_wp2_with fail
    refine (find_any _ L id _ HV.out).mono ?_
    rintro e' w1 ⟨rfl, rfl⟩
    rw [HG.out]
    go_wp2_with fail
    go_ret2
    refine ⟨⟨_, by rw [HP.out]; rfl, ?_⟩, Below.refl _ _⟩
    rw [HE.out]
    exact World.ownsRow_nil _ _ _ _
  · subst hA
    have HP : Hid (partK (keys L) id = if e.main = 0 then 1 else if e.s.n = 0 then 4 else 0) := by rw [Hid, partK, HK.out, g6]; rfl
    have HG := Lib.hid g3
    have HI := Lib.hid g5
    have HID := Lib.hid (getE_id g6)
    obtain ⟨c0, c1, c2, c3, c4, c5, c6, c7⟩ := hc
    clear g3 g5 g6 hv
    by_cases hm : e.main = 0
    · have hm0 : (e.main == 0) = true := by simpa using hm
      have HP2 : Hid (partK (keys L) id = 1) := by rw [Hid, HP.out, if_pos hm]
      have HE : Hid (partE L id = []) := by rw [Hid, partE, HP2.out]; rfl
      clear hm
      go_enter Try.func27, Try.ntmps27
      go_wp2_with fail
      refine (find_any _ L id _ HV.out).mono ?_
      rintro e' w1 ⟨rfl, rfl⟩
      rw [HG.out]
      go_wp2_with fail
      go_ret2
      refine ⟨⟨_, by rw [HP2.out]; rfl, ?_⟩, Below.refl _ _⟩
      rw [HE.out]
      exact World.ownsRow_nil _ _ _ _
    have hm0 : (e.main == 0) = false := by simpa using hm
    by_cases hs : e.s.n = 0
    · have hs0 : ((e.s.n : Int) == 0) = true := by simpa using hs
      have HP2 : Hid (partK (keys L) id = 4) := by rw [Hid, HP.out, if_neg hm, if_pos hs]
      have HE : Hid (partE L id = []) := by rw [Hid, partE, HP2.out]; rfl
      clear hm hs
      go_enter Try.func27, Try.ntmps27
      go_wp2_with fail
      refine (find_any _ L id _ HV.out).mono ?_
      rintro e' w1 ⟨rfl, rfl⟩
      rw [HG.out]
      go_wp2_with fail
      go_ret2
      refine ⟨⟨_, by rw [HP2.out]; rfl, ?_⟩, Below.refl _ _⟩
      rw [HE.out]
      exact World.ownsRow_nil _ _ _ _
    have hs0 : ((e.s.n : Int) == 0) = false := by simpa using hs
    have HP2 : Hid (partK (keys L) id = 0) := by rw [Hid, HP.out, if_neg hm, if_neg hs]
    have HE : Hid (partE L id = L.set i (withMain 0 e)) := by rw [Hid, partE, if_pos HP2.out, set_up HUP.out id 0 i e HI.out HID.out]
    clear hm hs
    go_enter Try.func27, Try.ntmps27
    go_wp2_with fail
    refine (find_any _ L id _ HV.out).mono ?_
    rintro e' w1 ⟨rfl, rfl⟩
    rw [HG.out]
    go_wp2_with fail
    refine (with_any _ L i e 0 _ HV.out HL.out HI.out).mono ?_
    rintro e' w2 ⟨⟨v2, rfl, ho⟩, hb2⟩
    have HB2 := Lib.hid hb2
    have HO := Lib.hid ho
    clear ho hb2 c0 c1 c2 c3 c4 c5 c6 c7
    go_wp2_with fail
    go_ret2
    refine ⟨⟨_, by rw [HP2.out]; rfl, ?_⟩, HB2.out⟩
    rw [HE.out]
    exact HO.out
theorem any_ids (L : List EV) (id tt : Int) : (wIds L (L.length + 1) tt).any (fun x => x == id) = (wK (keys L) tt).any (fun e => e.id == id) := by
  rw [wIds_keys, List.any_map]
  rfl
set_option maxHeartbeats 2000000 in
set_option maxRecDepth 100000 in
theorem rjoin_any (v : Value) (L : List EV) (id tt : Int) (w : World) (hv : RdV w v L) (hl : L.length ≤ 100000) (hup : UpK (keys L)) :
    Calls Try.prog 25 #[v, .int .i64 id, .int .i64 tt] w (JoinOut L id tt w) := by
  obtain ⟨A, n, c, rfl, h1, h2, HN, _⟩ := hv.op
  have HV := Lib.hid hv
  have HL := Lib.hid hl
  have HUP := Lib.hid hup
  clear hl hup
  have HK1 := Lib.hid (getK_keys L id)
  have HK2 := Lib.hid (getK_keys L tt)
  rcases find_cases hv id with ⟨g3, g4⟩ | ⟨i, e, b, off, g3, g4, g5, g6, hA, hb, hc⟩
  · have HP : Hid (joinK (keys L) id tt = 9) := by rw [Hid, joinK, HK1.out, g4]; simp
    have HE : Hid (joinE L id tt = []) := by rw [Hid, joinE, HP.out]; rfl
    have HG := Lib.hid g3
    clear g3 g4 hv
    go_enter Try.func25, Try.ntmps25
    go_wp2_with fail
    refine (find_any _ L id _ HV.out).mono ?_
    rintro e' w1 ⟨rfl, rfl⟩
    rw [HG.out]
    go_wp2_with fail
    go_ret2
    refine ⟨⟨_, by rw [HP.out]; rfl, ?_⟩, Below.refl _ _⟩
    rw [HE.out]
    exact World.ownsRow_nil _ _ _ _
  have HG := Lib.hid g3
  have HI := Lib.hid g5
  have HGE := Lib.hid g6
  have HID := Lib.hid (getE_id g6)
  clear g3 g5 g6 hc hb hA
  rcases find_cases hv tt with ⟨g3, g4⟩ | ⟨i2, e2, b2, off2, g3, g4, g5, g6, hA, hb, hc⟩
  · have HP : Hid (joinK (keys L) id tt = 9) := by rw [Hid, joinK, HK2.out, g4]; simp
    have HE : Hid (joinE L id tt = []) := by rw [Hid, joinE, HP.out]; rfl
    have HG2 := Lib.hid g3
    clear g3 g4 hv
    go_enter Try.func25, Try.ntmps25
    go_wp2_with fail
    refine (find_any _ L id _ HV.out).mono ?_
    rintro e' w1 ⟨rfl, rfl⟩
    rw [HG.out]
    go_wp2_with fail
    refine (find_any _ L tt _ HV.out).mono ?_
    rintro e' w1 ⟨rfl, rfl⟩
    rw [HG2.out]
    go_wp2_with fail
    go_ret2
    refine ⟨⟨_, by rw [HP.out]; rfl, ?_⟩, Below.refl _ _⟩
    rw [HE.out]
    exact World.ownsRow_nil _ _ _ _
  have HG2 := Lib.hid g3
  have HP : Hid (joinK (keys L) id tt = if (wIds L (L.length + 1) tt).any (fun x => x == id) then 17 else 0) := by
    rw [Hid, joinK, HK1.out, HK2.out, HGE.out, g6, any_ids]
    simp
  have HM : Hid (joinK (keys L) id tt = 0 → joinE L id tt = L.set i (withMain tt e)) := fun h => by rw [joinE, if_pos h, set_up HUP.out id tt i e HI.out HID.out]
  have HM2 : Hid (joinK (keys L) id tt = 17 → joinE L id tt = []) := fun h => by rw [joinE, h]; rfl
  clear g3 g4 g5 g6 hc hb hA hv
  go_enter Try.func25, Try.ntmps25
  go_wp2_with fail
  refine (find_any _ L id _ HV.out).mono ?_
  rintro e' w1 ⟨rfl, rfl⟩
  rw [HG.out]
  go_wp2_with fail
  refine (find_any _ L tt _ HV.out).mono ?_
  rintro e' w1 ⟨rfl, rfl⟩
  rw [HG2.out]
  go_wp2_with fail
  refine (rway_any _ L tt _ HV.out HL.out).mono ?_
  rintro e' w1 ⟨⟨v1, rfl, hr⟩, hb1⟩
  have HB1 := Lib.hid hb1
  obtain ⟨xs, hxs⟩ : ∃ xs, wIds L (L.length + 1) tt = xs := ⟨_, rfl⟩
  rw [hxs] at hr HP
  obtain ⟨A1, n1, c1, rfl, g1, g2, HN1, HR1⟩ := hr.op
  clear hb1 hr hxs
  go_wp2_with fail
  go_loop [10] (fun i => ∃ k : Nat, k ≤ n1 ∧ i = .int .i64 k ∧ Hid (xs.any (fun x => x == id) = (xs.drop k).any (fun x => x == id))) (fun i => n1 - (intOf i).toNat)
  case atStart => exact ⟨0, Nat.zero_le _, rfl, rfl⟩
  case round =>
    obtain ⟨k, hk, rfl, HX⟩ := hrel
    by_cases hlt : k < n1
    · obtain ⟨b1, off1, x, rfl, hbl1, hd1, e0⟩ := HR1.out k hlt
      have HX2 : Hid (xs.any (fun x => x == id) = ((x == id) || (xs.drop (k + 1)).any (fun x => x == id))) := by rw [Hid, HX.out, hd1.out, List.any_cons]
      cases hxi : (x == id)
      · have HX3 : Hid (xs.any (fun x => x == id) = (xs.drop (k + 1)).any (fun x => x == id)) := by rw [Hid, HX2.out, hxi, Bool.false_or]
        go_wp2_with fail
        go_round
        case rel => exact ⟨k + 1, by omega, by go_num, HX3.out⟩
        case measure => simp [intOf]; omega
      · have HP2 : Hid (joinK (keys L) id tt = 17) := by rw [Hid, HP.out, HX2.out, hxi, Bool.true_or]; rfl
        have HE := Lib.hid (HM2.out HP2.out)
        go_wp2_with fail
        go_ret2
        refine ⟨⟨_, by rw [HP2.out]; rfl, ?_⟩, HB1.out⟩
        rw [HE.out]
        exact World.ownsRow_nil _ _ _ _
    · have HP2 : Hid (joinK (keys L) id tt = 0) := by rw [Hid, HP.out, HX.out, List.drop_of_length_le (by rw [HN1.out]; omega)]; rfl
      have HE := Lib.hid (HM.out HP2.out)
      go_wp2_with fail
      refine (with_any _ L i e tt _ (HV.out.below HB1.out) HL.out HI.out).mono ?_
      rintro e' w2 ⟨⟨v2, rfl, ho⟩, hb2⟩
      have HB2 := Lib.hid (bchain HB1.out hb2)
      have HO := Lib.hid (own_base ho HB1.out.size)
      clear ho hb2
      go_wp2_with fail
      go_ret2
      refine ⟨⟨_, by rw [HP2.out]; rfl, ?_⟩, HB2.out⟩
      rw [HE.out]
      exact HO.out
end Go.Proofs.Ytnjniganlielcaa
