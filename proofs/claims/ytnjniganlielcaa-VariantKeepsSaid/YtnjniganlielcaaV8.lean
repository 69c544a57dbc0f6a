/-
  An entry gets another Main: set of variants, with of the reference.
-/
import Derived.Test.YtnjniganlielcaaV7
namespace Go.Proofs.Ytnjniganlielcaa
open Go.ChangeShapes Go.WideShapes Go.ChangeAt Go.RowKit
def withMain (m : Int) (e : EV) : EV := { e with main := m }
theorem evs_append (A B : List EV) : evs (A ++ B) = evs A ++ evs B := by simp [evs]
theorem evs_set (L : List EV) (k : Nat) (m : Int) (h : k < L.length) : (evs L).set (k * 8 + 4) (.int .i64 m) = evs (L.set k (withMain m L[k])) := by
  induction L generalizing k with
  | nil => simp at h
  | cons a L ih =>
    cases k with
    | zero => rfl
    | succ k =>
      have hk : k < L.length := by simpa using h
      show (EV.cells a ++ evs L).set ((k + 1) * 8 + 4) _ = EV.cells a ++ evs (L.set k (withMain m L[k]))
      rw [List.set_append_right _ _ (by simp [EV.cells]; omega), ← ih k hk]
      congr 2
      simp [EV.cells]; omega
theorem own_withMain {w : World} {base g n c k : Nat} {L : List EV} (h : OwnV w base (.slice (some ⟨g, 0, none⟩) n c) L) (hn : L.length = n) (hk : k < L.length) (m : Int) : OwnV (w.setCell ⟨g, k * 8 + 4, none⟩ (.int .i64 m)) base (.slice (some ⟨g, 0, none⟩) n c) (L.set k (withMain m L[k])) := by
  unfold OwnV at h ⊢
  rw [List.length_set, ← evs_set L k m hk, hn]
  rw [hn] at h
  exact (World.ownsRow.stored h _ _).1
theorem setE_step (L : List EV) (id m : Int) (k : Nat) (hk : k < L.length) : setE (L.take (k + 1)) id m ++ L.drop (k + 1) = if L[k].id = id then (setE (L.take k) id m ++ L.drop k).set k (withMain m L[k]) else setE (L.take k) id m ++ L.drop k := by
  have h1 : L.take (k + 1) = L.take k ++ [L[k]] := List.take_succ_eq_append_getElem hk
  have h2 : L.drop k = L[k] :: L.drop (k + 1) := List.drop_eq_getElem_cons hk
  have h3 : (setE (L.take k) id m).length = k := by simp [setE]; omega
  rw [h1, h2, setE, List.map_append]
  by_cases hid : L[k].id = id
  · rw [if_pos hid, List.set_append_right _ _ (by omega), h3, Nat.sub_self]
    simp [hid, setE, withMain]
    rw [h2]
    rfl
  · rw [if_neg hid]
    simp [hid, setE]
theorem setE_mid (L : List EV) (id m : Int) (k : Nat) (hk : k < L.length) : (setE (L.take k) id m ++ L.drop k)[k]? = some L[k] := by
  have h3 : (setE (L.take k) id m).length = k := by simp [setE]; omega
  rw [List.getElem?_append_right (by omega), h3, Nat.sub_self, List.drop_eq_getElem_cons hk]
  rfl
set_option maxHeartbeats 2000000 in
set_option maxRecDepth 100000 in
theorem set_any (v : Value) (L : List EV) (id m : Int) (w : World) (hv : RdV w v L) (hl : L.length ≤ 100000) :
    Calls Try.prog 41 #[v, .int .i64 id, .int .i64 m] w fun e w' => (∃ v', e = .returned v' ∧ OwnV w' w.heap.size v' (setE L id m)) ∧ Below w.heap.size w w' := by
  obtain ⟨A, n, c, rfl, h1, h2, HN, _⟩ := hv.op
  have HV := Lib.hid hv
  have HL := Lib.hid hl
  have hln := hl
  rw [HN.out] at hln
  clear hv hl
  go_enter Try.func41, Try.ntmps41
  go_wp2_with fail
  refine (cloneE_any _ L _ HV.out HL.out).mono ?_
  rintro e w1 ⟨⟨v1, rfl, ho⟩, hb⟩
  have HB1 := Lib.hid hb
  have HO1 := Lib.hid ho
  obtain ⟨A1, n1, c1, rfl, h3, h4, HN1, _⟩ := ho.rd.op
  obtain rfl : n = n1 := HN.out.symm.trans HN1.out
  clear ho hb
  go_wp2_with fail
  go_loopw [12] (fun i wr => ∃ k : Nat, k ≤ n ∧ i = .int .i64 k ∧ Hid (OwnV wr w.heap.size (.slice A1 n c1) (setE (L.take k) id m ++ L.drop k)) ∧ Hid (Below w.heap.size w wr)) (fun i _ => n - (intOf i).toNat)
  case atStart => exact ⟨0, Nat.zero_le _, rfl, by have := HO1.out; rw [Hid]; simpa [setE] using this, HB1.out⟩
  case round =>
    obtain ⟨k, hk, rfl, HO, HB⟩ := hrel
    by_cases hlt : k < n
    · have hkl : k < L.length := by rw [HN.out]; exact hlt
      have HLEN : Hid ((setE (L.take k) id m ++ L.drop k).length = n) := by rw [Hid, List.length_append]; simp [setE]; have := HN.out; omega
      have hor := HO.out
      unfold OwnV at hor
      rw [HLEN.out] at hor
      obtain ⟨g, cap, he, hg1, hg2⟩ := World.ownsRow.form hor (by omega)
      cases he
      clear hor
      have hcell : ∀ j, j < 8 → wr.cell? ⟨g, k * 8 + j, none⟩ = (EV.cells L[k])[j]? := fun j hj => by
        have hm := setE_mid L id m k hkl
        have hkm := (List.getElem?_eq_some_iff.1 hm)
        have h8 := evs_at _ k hkm.1 j hj
        rw [hkm.2] at h8
        rw [← h8]
        have ho := HO.out
        unfold OwnV at ho
        rw [HLEN.out] at ho
        exact World.ownsRow.cellAt ho (k * 8 + j) (by omega)
      have c0 : wr.cell? ⟨g, k * 8, none⟩ = some (.int .i64 L[k].id) := hcell 0 (by omega)
      have c4 : wr.cell? ⟨g, k * 8 + 4, none⟩ = some (.int .i64 L[k].main) := hcell 4 (by omega)
      have f4 : wr.frozen? ⟨g, k * 8 + 4, none⟩ = false := by
        have ho := HO.out
        unfold OwnV at ho
        rw [HLEN.out] at ho
        exact World.ownsRow.frozenAt ho _
      have HST := Lib.hid (setE_step L id m k hkl)
      have HSET : Hid (OwnV (wr.setCell ⟨g, k * 8 + 4, none⟩ (.int .i64 m)) w.heap.size (.slice (some ⟨g, 0, none⟩) n c1) ((setE (L.take k) id m ++ L.drop k).set k (withMain m L[k]))) := by
        have hm := setE_mid L id m k hkl
        have hkm := (List.getElem?_eq_some_iff.1 hm)
        have := own_withMain HO.out HLEN.out hkm.1 m
        rw [hkm.2] at this
        exact this
      clear hcell HN1
      cases hid : (L[k].id == id)
      · have HST2 : Hid (setE (L.take (k + 1)) id m ++ L.drop (k + 1) = setE (L.take k) id m ++ L.drop k) := by rw [Hid, HST.out, if_neg (by simpa using hid)]
        generalize L[k].id = xid at c0 hid
        go_wp2_with fail
        go_roundw
        case rel => exact ⟨k + 1, by omega, by go_num, by rw [HST2.out]; exact HO.out, HB.out⟩
        case measure => simp [intOf]; omega
      · have HST2 : Hid (setE (L.take (k + 1)) id m ++ L.drop (k + 1) = (setE (L.take k) id m ++ L.drop k).set k (withMain m L[k])) := by rw [Hid, HST.out, if_pos (by simpa using hid)]
        have hgb : w.heap.size ≤ g := hg1
        generalize L[k].id = xid at c0 hid
        go_wp2_with fail
        go_roundw
        case rel => exact ⟨k + 1, by omega, by go_num, by rw [HST2.out]; exact HSET.out, HB.out.setCell (p := ⟨g, k * 8 + 4, none⟩) hgb _⟩
        case measure => simp [intOf]; omega
    · have HFIN : Hid (OwnV wr w.heap.size (.slice A1 n c1) (setE L id m)) := by
        have h := HO.out
        rw [List.take_of_length_le (by rw [HN.out]; omega), List.drop_of_length_le (by rw [HN.out]; omega), List.append_nil] at h
        exact h
      go_wp2_with fail
      go_ret
      exact ⟨⟨_, rfl, HFIN.out⟩, HB.out⟩
end Go.Proofs.Ytnjniganlielcaa
