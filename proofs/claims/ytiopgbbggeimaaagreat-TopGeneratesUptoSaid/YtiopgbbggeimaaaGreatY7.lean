/-
  The part of older texts that this seat needs (printed by shake.py): V14 V15 V16
-/
import Derived.Test.YtiopgbbggeimaaaGreatY6
/-
  The reference: find, way, Main.
-/
namespace Go.Proofs.YtiopgbbggeimaaaGreat
open Go.ChangeShapes Go.WideShapes Go.ChangeAt Go.RowKit
set_option maxHeartbeats 1000000 in
theorem find_any (v : Value) (L : List EV) (id : Int) (w : World) (hv : RdV w v L) :
    Calls Tryz.prog 76 #[v, .int .i64 id] w fun e' w' => e' = .returned (.int .i64 (idxI L id)) ∧ w = w' := by
  obtain ⟨A, n, c, rfl, h1, h2, HN, HR⟩ := hv.op
  clear hv
  go_enter Tryz.func76, Tryz.ntmps76
  go_wp2_with fail
  go_loop [5] (fun i => ∃ k : Nat, k ≤ n ∧ i = .int .i64 k ∧ Hid (idxE id 0 L = idxE id k (L.drop k))) (fun i => n - (intOf i).toNat)
  case atStart => exact ⟨0, Nat.zero_le _, rfl, rfl⟩
  case round =>
    obtain ⟨k, hk, rfl, HP⟩ := hrel
    by_cases hlt : k < n
    · obtain ⟨b, off, e, rfl, hb, hd, c0, c1, c2, c3, c4, c5, c6, c7⟩ := HR.out k hlt
      have HP2 : Hid (idxE id 0 L = if e.id = id then some k else idxE id (k + 1) (L.drop (k + 1))) := by rw [Hid, HP.out, hd.out]; rfl
      cases hid : (e.id == id)
      · have HP3 : Hid (idxE id 0 L = idxE id (k + 1) (L.drop (k + 1))) := by rw [Hid, HP2.out, if_neg (by simpa using hid)]
        go_wp2_with fail
        go_round
        case rel => exact ⟨k + 1, by omega, by go_num, HP3.out⟩
        case measure => simp [intOf]; omega
      · have HP3 : Hid (idxE id 0 L = some k) := by rw [Hid, HP2.out, if_pos (by simpa using hid)]
        go_wp2_with fail
        go_ret
        exact ⟨by rw [idxI, HP3.out]; rfl, rfl⟩
    · have HP3 : Hid (idxE id 0 L = none) := by rw [Hid, HP.out, List.drop_of_length_le (by rw [HN.out]; omega)]; rfl
      go_wp2_with fail
      go_ret
      exact ⟨by rw [idxI, HP3.out]; rfl, rfl⟩
/-- find leads to the entry, or nowhere -/
theorem find_cases {w : World} {A : Option Addr} {n c : Nat} {L : List EV} (hv : RdV w (.slice A n c) L) (id : Int) : (idxI L id = -1 ∧ getE L id = none) ∨
    ∃ (i : Nat) (e : EV) (b off : Nat), idxI L id = (i : Int) ∧ i < n ∧ L[i]? = some e ∧ getE L id = some e ∧ A = some ⟨b, off, none⟩ ∧ b < w.heap.size ∧ ECells w b (off + i * 8) e := by
  obtain ⟨A', n', c', he, h1, h2, HN, HR⟩ := hv.op
  cases he
  rcases idxE_spec id L 0 with ⟨g1, g2⟩ | ⟨i, x, g1, g2, g3⟩
  · exact .inl ⟨by rw [idxI, g1], g2⟩
  · have hi := (List.getElem?_eq_some_iff.1 g2).1
    rw [HN.out] at hi
    obtain ⟨b, off, e, rfl, hb, hd, hc⟩ := HR.out i hi
    have he : e = x := by
      have := hd.out
      rw [List.drop_eq_getElem_cons (by rw [HN.out]; exact hi)] at this
      have h2 := (List.cons.inj this).1
      rw [List.getElem?_eq_getElem (by rw [HN.out]; exact hi), h2] at g2
      exact Option.some.inj g2
    subst he
    exact .inr ⟨i, e, b, off, by rw [idxI, g1]; simp, hi, g2, g3, rfl, hb, hc⟩
def lenOf (v : Value) : Nat := match v with
  | .slice _ n _ => n
  | _ => 0
def wIds (L : List EV) (k : Nat) (id : Int) : List Int := (wayL L k id).map EV.id
set_option maxHeartbeats 2000000 in
set_option maxRecDepth 100000 in
theorem rway_any (v : Value) (L : List EV) (id : Int) (w : World) (hv : RdV w v L) (hl : L.length ≤ 100000) :
    Calls Tryz.prog 77 #[v, .int .i64 id] w fun e w' => (∃ v', e = .returned v' ∧ RdI w' v' (wIds L (L.length + 1) id)) ∧ Below w.heap.size w w' := by
  obtain ⟨A, n, c, rfl, h1, h2, HN, _⟩ := hv.op
  have HV := Lib.hid hv
  have hln := hl
  rw [HN.out] at hln
  clear hv hl
  go_enter Tryz.func77, Tryz.ntmps77
  go_wp2_with fail
  refine (find_any _ L id _ (HV.out.below ((Below.refl _ _).alloc (Nat.le_refl _) _))).mono ?_
  rintro e w1 ⟨rfl, rfl⟩
  go_wp2_with fail
  go_loopw [5, 6] (fun v i wr => ∃ (pre : List Int) (A' : Option Addr) (m c' : Nat) (id' : Int), m ≤ n + 1 ∧ v = .slice A' m c' ∧ i = .int .i64 (idxI L id') ∧ Hid (pre.length = m) ∧ Hid (wIds L (L.length + 1) id = pre ++ wIds L (n + 1 - m) id') ∧ Hid (OwnI wr w.heap.size (.slice A' m c') pre) ∧ Hid (Below w.heap.size w wr)) (fun v _ _ => n + 1 - lenOf v)
  case atStart => exact ⟨[], _, 0, _, id, Nat.zero_le _, rfl, rfl, rfl, by rw [Hid, HN.out]; rfl, own_newI w w.heap.size _ rfl (Nat.le_refl _), (Below.refl _ _).alloc (Nat.le_refl _) _⟩
  case round =>
    obtain ⟨pre, A', m, c', id', hm, rfl, rfl, HPL, HW, HO, HB⟩ := hrel
    rcases find_cases HV.out id' with ⟨g1, g2⟩ | ⟨i, e, b, off, g1, g2, g3, g4, hA, hb, hc⟩
    · have HW2 : Hid (wIds L (L.length + 1) id = pre) := by
        rw [Hid, HW.out]
        have : wIds L (n + 1 - m) id' = [] := by
          unfold wIds
          rcases h : n + 1 - m with _ | k
          · rfl
          · rw [wayL, g2]; rfl
        rw [this, List.append_nil]
      rw [g1]
      clear g1 g2
      go_wp2_with fail
      go_ret
      refine ⟨⟨_, rfl, ?_⟩, HB.out⟩
      rw [HW2.out]
      have := HO.out.rd
      exact this
    · subst hA
      have HC := Lib.hid hc
      obtain ⟨c0, c1, c2, c3, c4, c5, c6, c7⟩ := hc.below HB.out hb
      have hbl : b < wr.heap.size := by have := HB.out.size; omega
      have hid := getE_id g4
      clear hc
      have HG := Lib.hid g4
      have HG1 := Lib.hid g1
      clear g4 g3
      by_cases hmn : m = n + 1
      · have HW2 : Hid (wIds L (L.length + 1) id = pre) := by
          rw [Hid, HW.out, hmn, Nat.sub_self]
          simp [wIds, wayL]
        have hle : decide (m ≤ n) = false := by simp; omega
        rw [g1]
        clear g1 hmn hid
        go_wp2_with fail
        go_ret
        refine ⟨⟨_, rfl, ?_⟩, HB.out⟩
        rw [HW2.out]
        exact HO.out.rd
      · have HW2 : Hid (wIds L (L.length + 1) id = (pre ++ [e.id]) ++ if e.main = 0 then [] else wIds L (n + 1 - (m + 1)) e.main) := by
          rw [Hid, HW.out, List.append_assoc]
          congr 1
          unfold wIds
          rw [show n + 1 - m = (n + 1 - (m + 1)) + 1 by omega, wayL, HG.out]
          simp only [List.map_cons, List.cons_append, List.nil_append]
          split <;> rfl
        have hle : decide (m ≤ n) = true := by simp; omega
        have hsz : w.heap.size ≤ wr.heap.size := HB.out.size
        have hm6 : m ≤ 1000000 := by omega
        have hmlt : m < n + 1 := by omega
        rw [g1]
        clear g1 hmn hid
        by_cases hz : e.main = 0
        · have hb0 : (e.main == 0) = true := by simpa using hz
          have HW3 : Hid (wIds L (L.length + 1) id = pre ++ [e.id]) := by rw [Hid, HW2.out, if_pos hz, List.append_nil]
          clear hz
          go_wp2_with (at_builtin; refine wpList_app_int rfl (.tmp 27) (.tmp 33) rfl w.heap.size (.slice A' m c') pre rfl HO.out e.id m HPL hm6 hsz rfl ?_; intro g' cap w3 ho3 hg3 hgr; have HO3 := Lib.hid ho3; have hb3 := below_grown HB.out (Nat.le_refl _) HO.out hgr; have HB3 := Lib.hid hb3; clear ho3 hgr c0 c1 c2 c3 c4 c5 c6 c7 hbl; obtain ⟨c0, c1, c2, c3, c4, c5, c6, c7⟩ := HC.out.below hb3 hb; have hbl : b < w3.heap.size := Nat.lt_of_lt_of_le hb hb3.size; clear hb3)
          go_ret
          refine ⟨⟨_, rfl, ?_⟩, HB3.out⟩
          rw [HW3.out]
          exact HO3.out.rd
        · have hb0 : (e.main == 0) = false := by simpa using hz
          have HW3 : Hid (wIds L (L.length + 1) id = (pre ++ [e.id]) ++ wIds L (n + 1 - (m + 1)) e.main) := by rw [Hid, HW2.out, if_neg hz]
          clear hz
          go_wp2_with (at_builtin; refine wpList_app_int rfl (.tmp 27) (.tmp 33) rfl w.heap.size (.slice A' m c') pre rfl HO.out e.id m HPL hm6 hsz rfl ?_; intro g' cap w3 ho3 hg3 hgr; have HO3 := Lib.hid ho3; have hb3 := below_grown HB.out (Nat.le_refl _) HO.out hgr; have HB3 := Lib.hid hb3; clear ho3 hgr c0 c1 c2 c3 c4 c5 c6 c7 hbl; obtain ⟨c0, c1, c2, c3, c4, c5, c6, c7⟩ := HC.out.below hb3 hb; have hbl : b < w3.heap.size := Nat.lt_of_lt_of_le hb hb3.size; clear hb3)
          refine (find_any _ L e.main _ (HV.out.below HB3.out)).mono ?_
          rintro e' w4 ⟨rfl, rfl⟩
          go_wp2_with fail
          go_roundw
          case rel => exact ⟨pre ++ [e.id], _, m + 1, cap, e.main, by omega, rfl, rfl, by rw [Hid, List.length_append, HPL.out]; rfl, HW3.out, HO3.out, HB3.out⟩
          case measure => simp [lenOf]; omega
end Go.Proofs.YtiopgbbggeimaaaGreat

/-
  The reference: Main, All, Check.
-/
namespace Go.Proofs.YtiopgbbggeimaaaGreat
open Go.ChangeShapes Go.WideShapes Go.ChangeAt Go.RowKit
theorem wIds_keys (L : List EV) (id : Int) : wIds L (L.length + 1) id = (wK (keys L) id).map EK.id := by
  rw [← wK_keys, wIds, List.map_map]
  rfl
theorem wIds_len (L : List EV) (id : Int) : (wIds L (L.length + 1) id).length = (wK (keys L) id).length := by rw [wIds_keys, List.length_map]
set_option maxHeartbeats 4000000 in
set_option maxRecDepth 100000 in
theorem rcheck_anyV (v : Value) (L : List EV) (w : World) (hv : RdV w v L) (hl : L.length ≤ 100000) :
    Calls Tryz.prog 40 #[v] w fun e w' => e = .returned (.int .i64 (chkK (keys L))) ∧ Below w.heap.size w w' := by
  obtain ⟨A, n, c, rfl, h1, h2, HN, HR⟩ := hv.op
  have HV := Lib.hid hv
  have HL := Lib.hid hl
  have hln := hl
  rw [HN.out] at hln
  clear hv hl
  go_enter Tryz.func40, Tryz.ntmps40
  go_wp2_with fail
  go_loop [3] (fun i => ∃ k : Nat, k ≤ n ∧ i = .int .i64 k ∧ Hid (chk1 (keys L) (keys L) = chk1 (keys L) (keys (L.drop k)))) (fun i => n - (intOf i).toNat)
  case atStart => exact ⟨0, Nat.zero_le _, rfl, rfl⟩
  case round =>
    obtain ⟨k, hk, rfl, HC⟩ := hrel
    by_cases hlt : k < n
    · obtain ⟨b, off, e, rfl, hb, hd, c0, c1, c2, c3, c4, c5, c6, c7⟩ := HR.out k hlt
      have HC2 : Hid (chk1 (keys L) (keys L) = if e.main ≠ 0 ∧ getK (keys L) e.main = none then 9 else chk1 (keys L) (keys (L.drop (k + 1)))) := by rw [Hid, HC.out, hd.out]; rfl
      have HGK := Lib.hid (getK_keys L e.main)
      cases hm0 : (e.main != 0)
      · have HC3 : Hid (chk1 (keys L) (keys L) = chk1 (keys L) (keys (L.drop (k + 1)))) := by rw [Hid, HC2.out, if_neg (by simp at hm0; simp [hm0])]
        go_wp2_with fail
        go_round
        case rel => exact ⟨k + 1, by omega, by go_num, HC3.out⟩
        case measure => simp [intOf]; omega
      · go_wp2_with fail
        refine (find_any _ L e.main _ HV.out).mono ?_
        rintro e' w2 ⟨rfl, rfl⟩
        rcases find_cases HV.out e.main with ⟨g1, g2⟩ | ⟨i, e2, b2, off2, g1, g2, g3, g4, hA2, g5, g6⟩
        · have HC3 : Hid (chk1 (keys L) (keys L) = 9) := by rw [Hid, HC2.out, if_pos ⟨by simpa using hm0, by rw [HGK.out, g2]; rfl⟩]
          rw [g1]
          clear g1 g2
          go_wp2_with fail
          go_ret
          exact ⟨by rw [chkK, if_pos (by rw [HC3.out]; decide)]; rfl, Below.refl _ _⟩
        · have HC3 : Hid (chk1 (keys L) (keys L) = chk1 (keys L) (keys (L.drop (k + 1)))) := by rw [Hid, HC2.out, if_neg (by rw [HGK.out, g4]; simp)]
          rw [g1]
          clear g1 g2 g3 g4 hA2 g5 g6
          go_wp2_with fail
          go_round
          case rel => exact ⟨k + 1, by omega, by go_num, HC3.out⟩
          case measure => simp [intOf]; omega
    · have HC2 : Hid (chk1 (keys L) (keys L) = 0) := by rw [Hid, HC.out, List.drop_of_length_le (by rw [HN.out]; omega)]; rfl
      have HCK : Hid (chkK (keys L) = chk2 (keys L) (keys L)) := by rw [Hid, chkK, if_neg (by rw [HC2.out]; decide)]
      go_wp2_with fail
      go_loopw [4] (fun i wr => ∃ k : Nat, k ≤ n ∧ i = .int .i64 k ∧ Hid (chk2 (keys L) (keys L) = chk2 (keys L) (keys (L.drop k))) ∧ Hid (Below w.heap.size w wr)) (fun i _ => n - (intOf i).toNat)
      case atStart => exact ⟨0, Nat.zero_le _, rfl, rfl, Below.refl _ _⟩
      case round =>
        obtain ⟨k, hk, rfl, HC, HB⟩ := hrel
        by_cases hlt : k < n
        · obtain ⟨b, off, e, rfl, hb, hd, c0, c1, c2, c3, c4, c5, c6, c7⟩ := (HR.out k hlt).below HB.out
          have HC2 : Hid (chk2 (keys L) (keys L) = if (keys L).length < (wK (keys L) e.id).length then 17 else chk2 (keys L) (keys (L.drop (k + 1)))) := by rw [Hid, HC.out, hd.out]; rfl
          have HWK := Lib.hid (wIds_len L e.id)
          have HKL := Lib.hid (keys_length L)
          go_wp2_with fail
          refine (rway_any _ L e.id _ (HV.out.below HB.out) HL.out).mono ?_
          rintro e' w2 ⟨⟨v2, rfl, hr⟩, hb2⟩
          have HB2 := Lib.hid (bchain HB.out hb2)
          obtain ⟨A2, n2, c2', rfl, _, _, HN2, _⟩ := hr.op
          have HNN : Hid ((wK (keys L) e.id).length = n2) := HWK.out.symm.trans HN2.out
          clear hb2 hr c0 c1 c2 c3 c4 c5 c6 c7
          by_cases hlong : n < n2
          · have HC3 : Hid (chk2 (keys L) (keys L) = 17) := by rw [Hid, HC2.out, if_pos (by rw [HKL.out, HN.out, HNN.out]; exact hlong)]
            have hd1 : decide (n < n2) = true := by simp; omega
            go_wp2_with fail
            go_ret
            exact ⟨by rw [HCK.out, HC3.out]; rfl, HB2.out⟩
          · have HC3 : Hid (chk2 (keys L) (keys L) = chk2 (keys L) (keys (L.drop (k + 1)))) := by rw [Hid, HC2.out, if_neg (by rw [HKL.out, HN.out, HNN.out]; exact hlong)]
            have hd1 : decide (n < n2) = false := by simp; omega
            go_wp2_with fail
            go_roundw
            case rel => exact ⟨k + 1, by omega, by go_num, HC3.out, HB2.out⟩
            case measure => simp [intOf]; omega
        · have HC2 : Hid (chk2 (keys L) (keys L) = 0) := by rw [Hid, HC.out, List.drop_of_length_le (by rw [HN.out]; omega)]; rfl
          go_wp2_with fail
          go_ret
          exact ⟨by rw [HCK.out, HC2.out]; rfl, HB.out⟩
end Go.Proofs.YtiopgbbggeimaaaGreat

/-
  The reference: Senses, Join, Part.
-/
namespace Go.Proofs.YtiopgbbggeimaaaGreat
open Go.ChangeShapes Go.WideShapes Go.ChangeAt Go.RowKit
theorem wayL_get (L : List EV) : ∀ (k : Nat) (id : Int) (x : EV), x ∈ wayL L k id → getE L x.id = some x
  | 0, _, _, h => by simp [wayL] at h
  | k + 1, id, x, h => by
    rw [wayL] at h
    rcases hg : getE L id with _ | e
    · rw [hg] at h; simp at h
    · rw [hg] at h
      simp only [List.mem_cons] at h
      rcases h with rfl | h
      · rw [getE_id hg]; exact hg
      · by_cases hz : e.main = 0
        · rw [if_pos hz] at h; simp at h
        · rw [if_neg hz] at h
          exact wayL_get L k _ x h
set_option maxHeartbeats 2000000 in
set_option maxRecDepth 100000 in
theorem rsenses_any (v : Value) (P : List PE) (id : Int) (w : World) (hv : RdP w v P) (hl : P.length ≤ 100000) :
    Calls Tryz.prog 60 #[v, .int .i64 id] w fun e w' => (∃ v', e = .returned v' ∧ RdSe w' v' (sensesP P id)) ∧ Below w.heap.size w w' := by
  obtain ⟨L, hv, hdp⟩ := hv
  obtain ⟨A, n, c, rfl, h1, h2, HN, _⟩ := hv.op
  have HV := Lib.hid hv
  have HDP := Lib.hid hdp
  have HL : Hid (L.length ≤ 100000) := by rw [Hid, hdp.length]; exact hl
  have hln := HL.out
  rw [HN.out] at hln
  clear hv hl hdp
  have HSEN : Hid (∀ (pre : List EV) (x : EV), pre ++ [x] <+: wayL L (L.length + 1) id → (∀ e ∈ pre, e.s.n = 0) → 0 < x.s.n → RdSe w (.slice x.s.A x.s.n x.s.c) (sensesP P id)) := by
    rintro pre x ⟨r, hr⟩ hpre hx
    have hww := way_all HDP.out (L.length + 1) id
    have hfx : (wayL L (L.length + 1) id).find? hasS = some x := by
      have h0 : pre.find? hasS = none := by rw [List.find?_eq_none]; intro y hy; simp [hasS, hpre y hy]
      rw [← hr, List.find?_append, List.find?_append, h0]
      simp [hasS, hx]
    rw [HDP.out.length] at hww hfx
    rcases hww.find (f := hasS) (g := pS) (fun a b k => by rw [hasS, pS, k.ns]) with ⟨h3, _⟩ | ⟨a, b, h3, h4, h5⟩
    · rw [h3] at hfx; cases hfx
    · rw [h3] at hfx
      cases hfx
      rw [sensesP, show (fun e : PE => decide (0 < e.senses.length)) = pS from rfl, h4]
      exact h5.s
  have HNIL : Hid ((∀ e ∈ wayL L (L.length + 1) id, e.s.n = 0) → sensesP P id = []) := by
    intro h
    have hww := way_all HDP.out (L.length + 1) id
    have hfx : (wayL L (L.length + 1) id).find? hasS = none := by
      rw [List.find?_eq_none]
      intro x hx
      simp [hasS, h x hx]
    rw [HDP.out.length] at hww hfx
    rcases hww.find (f := hasS) (g := pS) (fun a b k => by rw [hasS, pS, k.ns]) with ⟨_, h3⟩ | ⟨a, b, h3, h4, h5⟩
    · rw [sensesP, show (fun e : PE => decide (0 < e.senses.length)) = pS from rfl, h3]
    · rw [h3] at hfx; cases hfx
  have HGET := Lib.hid (wayL_get L (L.length + 1) id)
  go_enter Tryz.func60, Tryz.ntmps60
  go_wp2_with fail
  refine (rway_any _ L id _ HV.out HL.out).mono ?_
  rintro e w1 ⟨⟨v1, rfl, hr⟩, hb⟩
  have HB1 := Lib.hid hb
  unfold wIds at hr
  obtain ⟨Y, hY⟩ : ∃ Y, wayL L (L.length + 1) id = Y := ⟨_, rfl⟩
  rw [hY] at hr HSEN HNIL HGET
  obtain ⟨A1, n1, c1, rfl, g1, g2, HN1, HR1⟩ := hr.op
  have HYL : Hid (Y.length = n1) := by rw [← HN1.out]; simp [Hid]
  clear hb hr hY
  go_wp2_with fail
  go_loopw [6] (fun i wr => ∃ k : Nat, k ≤ n1 ∧ i = .int .i64 k ∧ Hid (∀ e ∈ Y.take k, e.s.n = 0) ∧ Hid (Below w1.heap.size w1 wr)) (fun i _ => n1 - (intOf i).toNat)
  case atStart => exact ⟨0, Nat.zero_le _, rfl, by simp [Hid], Below.refl _ _⟩
  case round =>
    obtain ⟨k, hk, rfl, HZ, HB⟩ := hrel
    by_cases hlt : k < n1
    · obtain ⟨b1, off1, x, rfl, hbl1, hd1, e0⟩ := (HR1.out k hlt).below HB.out
      have hky : k < Y.length := by rw [HYL.out]; exact hlt
      obtain ⟨y, hy⟩ : ∃ y, Y[k] = y := ⟨_, rfl⟩
      have hyx : y.id = x := by
        have := hd1.out
        rw [← List.map_drop, List.drop_eq_getElem_cons hky, List.map_cons, hy] at this
        exact (List.cons.inj this).1
      have HY1 : Hid (Y.take (k + 1) = Y.take k ++ [y]) := by rw [Hid, List.take_succ_eq_append_getElem hky, hy]
      have hg : getE L x = some y := by rw [← hyx]; exact HGET.out y (by rw [← hy]; exact List.getElem_mem hky)
      subst hyx
      go_wp2_with fail
      refine (find_any _ L _ _ (HV.out.below (bchain HB1.out HB.out))).mono ?_
      rintro e' w2 ⟨rfl, rfl⟩
      rcases find_cases HV.out y.id with ⟨g3, g4⟩ | ⟨i, e2, b2, off2, g3, g4, g5, g6, hA2, hb2, hc2⟩
      · rw [hg] at g4; cases g4
      · rw [hg] at g6
        cases g6
        subst hA2
        have HC : Hid (ECells wr b2 (off2 + i * 8) y) := hc2.below (bchain HB1.out HB.out) hb2
        have hbl2 : b2 < wr.heap.size := Nat.lt_of_lt_of_le hb2 (bchain HB1.out HB.out).size
        obtain ⟨c0, c1, c2, c3, c4, c5, c6, c7⟩ := HC.out
        rw [g3]
        have HDY : Hid (0 < y.s.n → RdSe w (.slice y.s.A y.s.n y.s.c) (sensesP P id)) := fun h => HSEN.out (Y.take k) y (by rw [← HY1.out]; exact List.take_prefix _ _) HZ.out h
        clear g3 g5 hg hc2 hy hky
        by_cases hz : y.s.n = 0
        · have hd : decide (0 < y.s.n) = false := by simp [hz]
          have HZ2 : Hid (∀ e ∈ Y.take (k + 1), e.s.n = 0) := by
            intro e he
            rw [HY1.out, List.mem_append] at he
            rcases he with he | he
            · exact HZ.out e he
            · simp at he; subst he; exact hz
          clear hz
          go_wp2_with fail
          go_roundw
          case rel => exact ⟨k + 1, by omega, by go_num, HZ2.out, HB.out.alloc HB.out.size _⟩
          case measure => simp [intOf]; omega
        · have hd : decide (0 < y.s.n) = true := by simp; omega
          have HR2 := Lib.hid (HDY.out (by omega))
          clear hz
          go_wp2_with fail
          go_ret
          have hbb := (bchain HB1.out HB.out).alloc (o := .cells #[.int .i64 y.id, .slice y.f.A y.f.n y.f.c, .int .i64 y.cls, .slice y.a.A y.a.n y.a.c, .int .i64 y.main, .slice y.s.A y.s.n y.s.c, .slice y.l.A y.l.n y.l.c, .slice y.r.A y.r.n y.r.c] 85) (bchain HB1.out HB.out).size
          exact ⟨⟨_, rfl, HR2.out.below hbb⟩, hbb⟩
    · have HE : Hid (sensesP P id = []) := HNIL.out (by have := HZ.out; rwa [List.take_of_length_le (by rw [HYL.out]; omega)] at this)
      go_wp2_with fail
      go_ret
      refine ⟨⟨_, rfl, ?_⟩, bchain HB1.out HB.out⟩
      rw [HE.out]
      exact Rd.own (World.ownsRow_nil _ w.heap.size 99 2)
end Go.Proofs.YtiopgbbggeimaaaGreat

