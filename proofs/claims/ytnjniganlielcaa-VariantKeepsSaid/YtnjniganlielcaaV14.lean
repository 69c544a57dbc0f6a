/-
  The reference: find, way, Main.
-/
import Derived.Test.YtnjniganlielcaaV13
namespace Go.Proofs.Ytnjniganlielcaa
open Go.ChangeShapes Go.WideShapes Go.ChangeAt Go.RowKit
set_option maxHeartbeats 1000000 in
theorem find_any (v : Value) (L : List EV) (id : Int) (w : World) (hv : RdV w v L) :
    Calls Try.prog 35 #[v, .int .i64 id] w fun e' w' => e' = .returned (.int .i64 (idxI L id)) ∧ w = w' := by
  obtain ⟨A, n, c, rfl, h1, h2, HN, HR⟩ := hv.op
  clear hv
  go_enter Try.func35, Try.ntmps35
  go_wp2_with fail
  go_loop [5] (fun i => ∃ k : Nat, k ≤ n ∧ i = .int .i64 k ∧ Hid (idxE id 0 L = idxE id k (L.drop k))) (fun i => n - (intOf i).toNat)
  case atStart => exact ⟨0, Nat.zero_le _, rfl, rfl⟩
  case round =>
    obtain ⟨k, hk, rfl, HP⟩ := hrel
    by_cases hlt : k < n
    · obtain ⟨b, off, e, rfl, hb, hd, c0, c1, c2, c3, c4, c5, c6, c7⟩ := HR.out k hlt
      have HP2 : Hid (idxE id 0 L = if e.id = id then some k else idxE id (k + 1) (L.drop (k + 1))) := by rw [Hid, HP.out, hd.out]; rfl
      cases hid : (e.id == id)
      · have HP3 : Hid (idxE id 0 L = idxE id (k + 1) (L.drop (k + 1))) := by rw [Hid, HP2.out, if_neg (by simpa using hid)]
        go_wp2_with fail
        go_round
        case rel => exact ⟨k + 1, by omega, by go_num, HP3.out⟩
        case measure => simp [intOf]; omega
      · have HP3 : Hid (idxE id 0 L = some k) := by rw [Hid, HP2.out, if_pos (by simpa using hid)]
        go_wp2_with fail
        go_ret
        exact ⟨by rw [idxI, HP3.out]; rfl, rfl⟩
    · have HP3 : Hid (idxE id 0 L = none) := by rw [Hid, HP.out, List.drop_of_length_le (by rw [HN.out]; omega)]; rfl
      go_wp2_with fail
      go_ret
      exact ⟨by rw [idxI, HP3.out]; rfl, rfl⟩
/-- find leads to the entry, or nowhere -/
theorem find_cases {w : World} {A : Option Addr} {n c : Nat} {L : List EV} (hv : RdV w (.slice A n c) L) (id : Int) : (idxI L id = -1 ∧ getE L id = none) ∨
    ∃ (i : Nat) (e : EV) (b off : Nat), idxI L id = (i : Int) ∧ i < n ∧ L[i]? = some e ∧ getE L id = some e ∧ A = some ⟨b, off, none⟩ ∧ b < w.heap.size ∧ ECells w b (off + i * 8) e := by
  obtain ⟨A', n', c', he, h1, h2, HN, HR⟩ := hv.op
  cases he
  rcases idxE_spec id L 0 with ⟨g1, g2⟩ | ⟨i, x, g1, g2, g3⟩
  · exact .inl ⟨by rw [idxI, g1], g2⟩
  · have hi := (List.getElem?_eq_some_iff.1 g2).1
    rw [HN.out] at hi
    obtain ⟨b, off, e, rfl, hb, hd, hc⟩ := HR.out i hi
    have he : e = x := by
      have := hd.out
      rw [List.drop_eq_getElem_cons (by rw [HN.out]; exact hi)] at this
      have h2 := (List.cons.inj this).1
      rw [List.getElem?_eq_getElem (by rw [HN.out]; exact hi), h2] at g2
      exact Option.some.inj g2
    subst he
    exact .inr ⟨i, e, b, off, by rw [idxI, g1]; simp, hi, g2, g3, rfl, hb, hc⟩
def lenOf (v : Value) : Nat := match v with
  | .slice _ n _ => n
  | _ => 0
def wIds (L : List EV) (k : Nat) (id : Int) : List Int := (wayL L k id).map EV.id
set_option maxHeartbeats 2000000 in
set_option maxRecDepth 100000 in
theorem rway_any (v : Value) (L : List EV) (id : Int) (w : World) (hv : RdV w v L) (hl : L.length ≤ 100000) :
    Calls Try.prog 36 #[v, .int .i64 id] w fun e w' => (∃ v', e = .returned v' ∧ RdI w' v' (wIds L (L.length + 1) id)) ∧ Below w.heap.size w w' := by
  obtain ⟨A, n, c, rfl, h1, h2, HN, _⟩ := hv.op
  have HV := Lib.hid hv
  have hln := hl
  rw [HN.out] at hln
  clear hv hl
  go_enter Try.func36, Try.ntmps36
  go_wp2_with fail
  refine (find_any _ L id _ (HV.out.below ((Below.refl _ _).alloc (Nat.le_refl _) _))).mono ?_
  rintro e w1 ⟨rfl, rfl⟩
  go_wp2_with fail
  go_loopw [5, 6] (fun v i wr => ∃ (pre : List Int) (A' : Option Addr) (m c' : Nat) (id' : Int), m ≤ n + 1 ∧ v = .slice A' m c' ∧ i = .int .i64 (idxI L id') ∧ Hid (pre.length = m) ∧ Hid (wIds L (L.length + 1) id = pre ++ wIds L (n + 1 - m) id') ∧ Hid (OwnI wr w.heap.size (.slice A' m c') pre) ∧ Hid (Below w.heap.size w wr)) (fun v _ _ => n + 1 - lenOf v)
  case atStart => exact ⟨[], _, 0, _, id, Nat.zero_le _, rfl, rfl, rfl, by rw [Hid, HN.out]; rfl, own_newI w w.heap.size _ rfl (Nat.le_refl _), (Below.refl _ _).alloc (Nat.le_refl _) _⟩
  case round =>
    obtain ⟨pre, A', m, c', id', hm, rfl, rfl, HPL, HW, HO, HB⟩ := hrel
    rcases find_cases HV.out id' with ⟨g1, g2⟩ | ⟨i, e, b, off, g1, g2, g3, g4, hA, hb, hc⟩
    · have HW2 : Hid (wIds L (L.length + 1) id = pre) := by
        rw [Hid, HW.out]
        have : wIds L (n + 1 - m) id' = [] := by
          unfold wIds
          rcases h : n + 1 - m with _ | k
          · rfl
          · rw [wayL, g2]; rfl
        rw [this, List.append_nil]
      rw [g1]
      clear g1 g2
      go_wp2_with fail
      go_ret
      refine ⟨⟨_, rfl, ?_⟩, HB.out⟩
      rw [HW2.out]
      have := HO.out.rd
      exact this
    · subst hA
      have HC := Lib.hid hc
      obtain ⟨c0, c1, c2, c3, c4, c5, c6, c7⟩ := hc.below HB.out hb
      have hbl : b < wr.heap.size := by have := HB.out.size; omega
      have hid := getE_id g4
      clear hc
      have HG := Lib.hid g4
      have HG1 := Lib.hid g1
      clear g4 g3
      by_cases hmn : m = n + 1
      · have HW2 : Hid (wIds L (L.length + 1) id = pre) := by
          rw [Hid, HW.out, hmn, Nat.sub_self]
          simp [wIds, wayL]
        have hle : decide (m ≤ n) = false := by simp; omega
        rw [g1]
        clear g1 hmn hid
        go_wp2_with fail
        go_ret
        refine ⟨⟨_, rfl, ?_⟩, HB.out⟩
        rw [HW2.out]
        exact HO.out.rd
      · have HW2 : Hid (wIds L (L.length + 1) id = (pre ++ [e.id]) ++ if e.main = 0 then [] else wIds L (n + 1 - (m + 1)) e.main) := by
          rw [Hid, HW.out, List.append_assoc]
          congr 1
          unfold wIds
          rw [show n + 1 - m = (n + 1 - (m + 1)) + 1 by omega, wayL, HG.out]
          simp only [List.map_cons, List.cons_append, List.nil_append]
          split <;> rfl
        have hle : decide (m ≤ n) = true := by simp; omega
        have hsz : w.heap.size ≤ wr.heap.size := HB.out.size
        have hm6 : m ≤ 1000000 := by omega
        have hmlt : m < n + 1 := by omega
        rw [g1]
        clear g1 hmn hid
        by_cases hz : e.main = 0
        · have hb0 : (e.main == 0) = true := by simpa using hz
          have HW3 : Hid (wIds L (L.length + 1) id = pre ++ [e.id]) := by rw [Hid, HW2.out, if_pos hz, List.append_nil]
          clear hz
          go_wp2_with (at_builtin; refine wpList_app_int rfl (.tmp 27) (.tmp 33) rfl w.heap.size (.slice A' m c') pre rfl HO.out e.id m HPL hm6 hsz rfl ?_; intro g' cap w3 ho3 hg3 hgr; have HO3 := Lib.hid ho3; have hb3 := below_grown HB.out (Nat.le_refl _) HO.out hgr; have HB3 := Lib.hid hb3; clear ho3 hgr c0 c1 c2 c3 c4 c5 c6 c7 hbl; obtain ⟨c0, c1, c2, c3, c4, c5, c6, c7⟩ := HC.out.below hb3 hb; have hbl : b < w3.heap.size := Nat.lt_of_lt_of_le hb hb3.size; clear hb3)
          go_ret
          refine ⟨⟨_, rfl, ?_⟩, HB3.out⟩
          rw [HW3.out]
          exact HO3.out.rd
        · have hb0 : (e.main == 0) = false := by simpa using hz
          have HW3 : Hid (wIds L (L.length + 1) id = (pre ++ [e.id]) ++ wIds L (n + 1 - (m + 1)) e.main) := by rw [Hid, HW2.out, if_neg hz]
          clear hz
          go_wp2_with (at_builtin; refine wpList_app_int rfl (.tmp 27) (.tmp 33) rfl w.heap.size (.slice A' m c') pre rfl HO.out e.id m HPL hm6 hsz rfl ?_; intro g' cap w3 ho3 hg3 hgr; have HO3 := Lib.hid ho3; have hb3 := below_grown HB.out (Nat.le_refl _) HO.out hgr; have HB3 := Lib.hid hb3; clear ho3 hgr c0 c1 c2 c3 c4 c5 c6 c7 hbl; obtain ⟨c0, c1, c2, c3, c4, c5, c6, c7⟩ := HC.out.below hb3 hb; have hbl : b < w3.heap.size := Nat.lt_of_lt_of_le hb hb3.size; clear hb3)
          refine (find_any _ L e.main _ (HV.out.below HB3.out)).mono ?_
          rintro e' w4 ⟨rfl, rfl⟩
          go_wp2_with fail
          go_roundw
          case rel => exact ⟨pre ++ [e.id], _, m + 1, cap, e.main, by omega, rfl, rfl, by rw [Hid, List.length_append, HPL.out]; rfl, HW3.out, HO3.out, HB3.out⟩
          case measure => simp [lenOf]; omega
end Go.Proofs.Ytnjniganlielcaa
