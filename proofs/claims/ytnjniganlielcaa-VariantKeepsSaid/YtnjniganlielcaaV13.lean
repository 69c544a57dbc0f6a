/-
  All of variants.
-/
import Derived.Test.YtnjniganlielcaaV12
import Derived.Test.YtnjniganlielcaaV11
namespace Go.Proofs.Ytnjniganlielcaa
open Go.ChangeShapes Go.WideShapes Go.ChangeAt Go.RowKit
def UpK (K : List EK) : Prop := (K.map EK.id).Pairwise (· < ·)
theorem allK_up {K : List EK} (h : UpK K) (id : Int) : (allK K id).Pairwise (· < ·) := h.sublist (List.filter_sublist.map _)
theorem allK_len (K : List EK) (id : Int) : (allK K id).length ≤ K.length := by rw [allK, List.length_map]; exact List.length_filter_le _ _
def allTo (K : List EK) (id : Int) (k : Nat) : List Int := ((K.take k).filter fun e => e.id != id && mainK K e.id == id).map EK.id
theorem allTo_all (K : List EK) (id : Int) (k : Nat) (h : K.length ≤ k) : allTo K id k = allK K id := by rw [allTo, List.take_of_length_le h, allK]
theorem allTo_len (K : List EK) (id : Int) (k : Nat) : (allTo K id k).length ≤ k := by
  rw [allTo, List.length_map]
  exact Nat.le_trans (List.length_filter_le _ _) (List.length_take_le _ _)
theorem allTo_succ (L : List EV) (id : Int) (k : Nat) (e : EV) (r : List EV) (h : L.drop k = e :: r) : allTo (keys L) id (k + 1) = allTo (keys L) id k ++ if e.id != id && mainK (keys L) e.id == id then [e.id] else [] := by
  have hk : k < L.length := by
    rcases Nat.lt_or_ge k L.length with h1 | h1
    · exact h1
    · rw [List.drop_of_length_le h1] at h; cases h
  rw [List.drop_eq_getElem_cons hk] at h
  have hkk : k < (keys L).length := by rw [keys_length]; exact hk
  have he : (keys L)[k] = e.key := by simp only [keys, List.getElem_map]; rw [(List.cons.inj h).1]
  rw [allTo, List.take_succ_eq_append_getElem hkk, he, List.filter_append, List.map_append, ← allTo]
  congr 1
  simp only [List.filter_cons, List.filter_nil]
  show List.map EK.id (if (e.id != id && mainK (keys L) e.id == id) = true then [e.key] else []) = _
  split <;> rfl
set_option maxHeartbeats 2000000 in
set_option maxRecDepth 100000 in
theorem all_any (v : Value) (L : List EV) (id : Int) (w : World) (hv : RdV w v L) (hl : L.length ≤ 100000) (hup : UpK (keys L)) :
    Calls Try.prog 20 #[v, .int .i64 id] w fun e w' => (∃ v', e = .returned v' ∧ RdI w' v' (allK (keys L) id)) ∧ Below w.heap.size w w' := by
  obtain ⟨A, n, c, rfl, h1, h2, HN, HR⟩ := hv.op
  have HV := Lib.hid hv
  have HL := Lib.hid hl
  have hln := hl
  rw [HN.out] at hln
  have HUP := Lib.hid (allK_up hup id)
  have HAL := Lib.hid (allK_len (keys L) id)
  have HKL := Lib.hid (keys_length L)
  clear hv hl hup
  go_enter Try.func20, Try.ntmps20
  go_wp2_with fail
  go_loopw [5, 10] (fun v i wr => ∃ k : Nat, k ≤ n ∧ i = .int .i64 k ∧ Hid (OwnI wr w.heap.size v (allTo (keys L) id k)) ∧ Hid (Below w.heap.size w wr)) (fun _ i _ => n - (intOf i).toNat)
  case atStart => exact ⟨0, Nat.zero_le _, rfl, World.ownsRow_nil _ _ _ _, Below.refl _ _⟩
  case round =>
    obtain ⟨k, hk, rfl, HO, HB⟩ := hrel
    obtain ⟨AO, nO, cO, rfl, _, _, HNO, _⟩ := HO.out.rd.op
    by_cases hlt : k < n
    · obtain ⟨b, off, e, rfl, hb, hd, c0, c1, c2, c3, c4, c5, c6, c7⟩ := (HR.out k hlt).below HB.out
      have HT := Lib.hid (allTo_succ L id k e _ hd.out)
      cases h1 : (e.id != id)
      · have HT2 : Hid (allTo (keys L) id (k + 1) = allTo (keys L) id k) := by rw [Hid, HT.out, h1]; simp
        go_wp2_with fail
        go_roundw
        case rel => exact ⟨k + 1, by omega, by go_num, by rw [HT2.out]; exact own_below HO.out ((Below.refl _ _).alloc (Nat.le_refl _) _), HB.out.alloc HB.out.size _⟩
        case measure => simp [intOf]; omega
      have HT1 : Hid (allTo (keys L) id (k + 1) = allTo (keys L) id k ++ if mainK (keys L) e.id == id then [e.id] else []) := by rw [Hid, HT.out, h1]; rfl
      go_wp2_with fail
      generalize hX : World.alloc wr _ = X
      have HXB : Hid (Below w.heap.size w X) := by rw [← hX]; exact HB.out.alloc HB.out.size _
      have HXE : Hid (EBlk X wr.heap.size e) := by rw [← hX]; exact heap_alloc_new wr _
      have HXO : Hid (OwnI X w.heap.size (.slice AO nO cO) (allTo (keys L) id k)) := by rw [← hX]; exact own_below HO.out ((Below.refl _ _).alloc (Nat.le_refl _) _)
      clear hX c0 c1 c2 c3 c4 c5 c6 c7
      refine (main_any _ L e.id _ (HV.out.below HXB.out) HL.out).mono ?_
      rintro e' w2 ⟨rfl, hb2⟩
      have HB2 := Lib.hid (bchain HXB.out hb2)
      have HO2 : Hid (OwnI w2 w.heap.size (.slice AO nO cO) (allTo (keys L) id k)) := own_below HXO.out hb2
      have HE2 := Lib.hid (HXE.out.below hb2)
      clear hb2 HXE HXO
      generalize wr.heap.size = gx at HE2 ⊢
      cases h2 : (mainK (keys L) e.id == id)
      · have HT2 : Hid (allTo (keys L) id (k + 1) = allTo (keys L) id k) := by rw [Hid, HT1.out, h2]; simp
        go_wp2_with fail
        go_roundw
        case rel => exact ⟨k + 1, by omega, by go_num, by rw [HT2.out]; exact HO2.out, HB2.out⟩
        case measure => simp [intOf]; omega
      · have HT2 : Hid (allTo (keys L) id (k + 1) = allTo (keys L) id k ++ [e.id]) := by rw [Hid, HT1.out, h2]; rfl
        obtain ⟨z0, z1, z2, z3, z4, z5, z6, z7, zl⟩ := HE2.out.facts
        have hno : nO ≤ 1000000 := by have := allTo_len (keys L) id k; rw [HNO.out] at this; omega
        have hsz : w.heap.size ≤ w2.heap.size := HB2.out.size
        go_wp2_with (at_builtin; refine wpList_app_int rfl (.tmp 26) (.tmp 29) rfl w.heap.size (.slice AO nO cO) (allTo (keys L) id k) rfl HO2.out e.id nO HNO hno hsz rfl ?_; intro g' cap w3 ho3 hg3 hgr; have HO3 := Lib.hid ho3; have HB3 := Lib.hid (below_grown HB2.out (Nat.le_refl _) HO2.out hgr); clear ho3 hgr)
        go_roundw
        case rel => exact ⟨k + 1, by omega, by go_num, by rw [HT2.out]; exact HO3.out, HB3.out⟩
        case measure => simp [intOf]; omega
    · have HFIN : Hid (OwnI wr w.heap.size (.slice AO nO cO) (allK (keys L) id)) := by
        have := HO.out
        rw [allTo_all _ _ _ (by rw [HKL.out, HN.out]; omega)] at this
        exact this
      go_wp2_with fail
      refine (sorted_any _ (allK (keys L) id) (by have := HAL.out; have := HKL.out; have := HN.out; omega) HUP.out _ HFIN.out.rd).mono ?_
      rintro e w2 ⟨⟨v2, rfl, hr⟩, hb⟩
      have HR2 := Lib.hid hr
      have HB2 := Lib.hid (bchain HB.out hb)
      clear hr hb
      go_wp2_with fail
      go_ret
      exact ⟨⟨_, rfl, HR2.out⟩, HB2.out⟩
end Go.Proofs.Ytnjniganlielcaa
