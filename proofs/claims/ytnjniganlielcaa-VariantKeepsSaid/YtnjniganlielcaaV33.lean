/-
  Copy, with rows of its own; other of the statements.
-/
import Derived.Test.YtnjniganlielcaaV32
namespace Go.Proofs.Ytnjniganlielcaa
open Go.ChangeShapes Go.WideShapes Go.ChangeAt Go.RowKit
theorem grownBy_cell (w : World) (b i : Nat) (v : Value) : w.grownBy (w.setCell ⟨b, i, none⟩ v) (some b) :=
  ⟨rfl, rfl, rfl, by simp [World.setCell], fun k _ hk => Below.heap_setCell _ _ _ _ (fun e => hk (by simp [e]))⟩
set_option maxHeartbeats 2000000 in
set_option maxRecDepth 100000 in
theorem copyO_any (v : Value) (P : List PE) (w : World) (hv : RdP w v P) (hl : P.length ≤ 100000) (hs : ∀ p ∈ P, SmP p) :
    Calls Try.prog 13 #[v] w fun e' w' => (∃ v' L', e' = .returned v' ∧ OwnV w' w.heap.size v' L' ∧ All2 (DoE w' w.heap.size) L' P) ∧ Below w.heap.size w w' := by
  obtain ⟨L, hv, hdp⟩ := hv
  obtain ⟨A, n, c, rfl, h1, h2, HN, HR⟩ := hv.op
  have HDP := Lib.hid hdp
  have HS := Lib.hid hs
  have hln := hl
  rw [← hdp.length, HN.out] at hln
  clear hv hl hdp hs
  go_enter Try.func13, Try.ntmps13
  go_wp2_with fail
  go_loopw [3, 4] (fun v i wr => ∃ (k : Nat) (L' : List EV), k ≤ n ∧ i = .int .i64 k ∧ Hid (L'.length = k) ∧ Hid (OwnV wr w.heap.size v L') ∧ Hid (All2 (DoE wr w.heap.size) L' (P.take k)) ∧ Hid (Below w.heap.size w wr)) (fun _ i _ => n - (intOf i).toNat)
  case atStart => exact ⟨0, [], Nat.zero_le _, rfl, rfl, own_newR w w.heap.size _ _ 8 rfl (Nat.le_refl _), by rw [Hid, List.take_zero]; exact .nil, (Below.refl _ _).alloc (Nat.le_refl _) _⟩
  case round =>
    obtain ⟨k, L', hk, rfl, HLL, HO, HA, HB⟩ := hrel
    by_cases hlt : k < n
    · obtain ⟨b, off, e, rfl, hb, hd, hc⟩ := HR.out k hlt
      obtain ⟨c0, c1, c2, c3, c4, c5, c6, c7⟩ := hc.below HB.out hb
      have hbl : b < wr.heap.size := Nat.lt_of_lt_of_le hb HB.out.size
      have hkL : k < L.length := by rw [HN.out]; exact hlt
      have hLk : L[k]? = some e := by
        have := hd.out
        rw [List.drop_eq_getElem_cons hkL] at this
        rw [List.getElem?_eq_getElem hkL, (List.cons.inj this).1]
      obtain ⟨p, hp, hdp⟩ := HDP.out.get hLk
      have HTK : Hid (P.take (k + 1) = P.take k ++ [p]) := by
        have hkp := (List.getElem?_eq_some_iff.1 hp)
        rw [Hid, List.take_succ_eq_append_getElem hkp.1, hkp.2]
      have hsp := HS.out p (List.mem_of_getElem? hp)
      have HDE := Lib.hid hdp
      have HSP := Lib.hid hsp
      obtain ⟨AO, nO, cO, rfl, _, _, HNO, _⟩ := HO.out.rd.op
      clear hc hLk hp hdp hsp hkL
      go_wp2_with fail
      refine (copy1_any e p _ (HDE.out.below HB.out) HSP.out).mono ?_
      rintro e' w2 ⟨⟨x, rfl, hx⟩, hb2⟩
      have HB2 := Lib.hid hb2
      have HX := Lib.hid hx
      have hsz2 : wr.heap.size ≤ w2.heap.size := hb2.size
      have hwr : w.heap.size ≤ wr.heap.size := HB.out.size
      clear hb2 hx c0 c1 c2 c3 c4 c5 c6 c7
      go_wp2_with (at_builtin; refine wpList_app_ent rfl (.tmp 12) (.tmp 18) rfl w.heap.size (.slice AO nO cO) L' rfl (OwnV.below HO.out HB2.out) x k HLL (by omega) (Nat.le_trans hwr hsz2) rfl ?_; intro g' cap w3 ho3 hg3 hgr; have HO3 := Lib.hid ho3; have HGR := Lib.hid hgr; clear ho3 hgr)
      have HA3 : Hid (All2 (DoE w3 w.heap.size) (L' ++ [x]) (P.take (k + 1))) := by
        rw [Hid, HTK.out]
        refine (HA.out.mono fun a b _ _ h => (h.below HB2.out).grown (OwnV.below HO.out HB2.out) HGR.out).append (.cons ?_ .nil)
        exact (HX.out.grown (OwnV.below HO.out HB2.out) HGR.out).base hwr
      have HB3 : Hid (Below w.heap.size w w3) := below_grown (bchain HB.out HB2.out) (Nat.le_refl _) (OwnV.below HO.out HB2.out) HGR.out
      go_roundw
      case rel => exact ⟨k + 1, L' ++ [x], by omega, by go_num, by rw [Hid, List.length_append, HLL.out]; rfl, HO3.out, HA3.out, HB3.out⟩
      case measure => simp [intOf]; omega
    · have HA2 : Hid (All2 (DoE wr w.heap.size) L' P) := by
        have := HA.out
        rwa [List.take_of_length_le (by rw [← HDP.out.length, HN.out]; omega)] at this
      go_wp2_with fail
      go_ret
      exact ⟨⟨_, L', rfl, HO.out, HA2.out⟩, HB.out⟩
set_option maxHeartbeats 2000000 in
set_option maxRecDepth 100000 in
theorem other_set (v u : Value) (P : List PE) (id m : Int) (w : World) (hv : RdP w v P) (hu : RdP w u (setP P id m)) (hl : P.length ≤ 100000) (hs : ∀ p ∈ P, SmP p) :
    Calls Try.prog 29 #[v, u, .int .i64 id] w fun e w' => e = .returned (.bool true) ∧ Below w.heap.size w w' := by
  have HV := Lib.hid hv
  have HU := Lib.hid hu
  have HLE := Lib.hid hl
  have HSM := Lib.hid hs
  obtain ⟨A, n, c, rfl, hn⟩ := hv.opn
  obtain ⟨A', n', c', rfl, h1', h2', HN', HR'⟩ := hu.op
  obtain rfl : n = n' := by rw [← HN'.out, setP_len, hn]
  have HN := Lib.hid hn
  have hb0 : ((n : Int) != (n : Int)) = false := by simp
  clear hv hu hl hs hn
  go_enter Try.func29, Try.ntmps29
  go_wp2_with fail
  refine (copyO_any _ P _ HV.out HLE.out HSM.out).mono ?_
  rintro e w1 ⟨⟨v1, L, rfl, ho, hd⟩, hb⟩
  have HB1 := Lib.hid hb
  have HO1 := Lib.hid ho
  have HD1 := Lib.hid hd
  have HLL : Hid (L.length = n) := hd.length.trans HN.out
  obtain ⟨A1, n1, c1, rfl, h3, h4, HN1, _⟩ := ho.rd.op
  obtain rfl : n1 = n := HN1.out.symm.trans HLL.out
  have HX : Hid (∀ k, (hk : k < L.length) → L[k].id = id → ∀ q r, (setP P id m).drop k = q :: r → q.main = m) := by
    intro k hk hid q r hq
    obtain ⟨p, hp, hdp⟩ := hd.get (List.getElem?_eq_getElem hk)
    have h5 : (setP P id m)[k]? = some q := by
      have := congrArg (fun l => l[0]?) hq
      simpa [List.getElem?_drop] using this
    rw [setP, List.getElem?_map, hp] at h5
    simp only [Option.map_some, Option.some.injEq] at h5
    rw [if_pos (by rw [← hdp.id]; exact hid)] at h5
    rw [← h5]
  clear ho hb hd hb0
  go_wp2_with fail
  go_loopw [8] (fun i wr => ∃ k : Nat, k ≤ n1 ∧ i = .int .i64 k ∧ Hid (OwnV wr w.heap.size (.slice A1 n1 c1) (setE (L.take k) id m ++ L.drop k)) ∧ Hid (All2 (DoE wr w.heap.size) L P) ∧ Hid (Below w.heap.size w wr)) (fun i _ => n1 - (intOf i).toNat)
  case atStart => exact ⟨0, Nat.zero_le _, rfl, by have := HO1.out; rw [Hid]; simpa [setE] using this, HD1.out, HB1.out⟩
  case round =>
    obtain ⟨k, hk, rfl, HO, HD, HB⟩ := hrel
    by_cases hlt : k < n1
    · have hkl : k < L.length := by rw [HLL.out]; exact hlt
      have HLEN : Hid ((setE (L.take k) id m ++ L.drop k).length = n1) := by rw [Hid, List.length_append]; simp [setE]; have := HLL.out; omega
      have hor := HO.out
      unfold OwnV at hor
      rw [HLEN.out] at hor
      have HOR := Lib.hid hor
      obtain ⟨g, cap, he, hg1, hg2⟩ := World.ownsRow.form hor (by omega)
      cases he
      clear hor
      have hcell : ∀ j, j < 8 → wr.cell? ⟨g, k * 8 + j, none⟩ = (EV.cells L[k])[j]? := fun j hj => by
        have hm := setE_mid L id m k hkl
        have hkm := (List.getElem?_eq_some_iff.1 hm)
        have h8 := evs_at _ k hkm.1 j hj
        rw [hkm.2] at h8
        rw [← h8]
        exact World.ownsRow.cellAt HOR.out (k * 8 + j) (by omega)
      have c0 : wr.cell? ⟨g, k * 8, none⟩ = some (.int .i64 L[k].id) := hcell 0 (by omega)
      have c4 : wr.cell? ⟨g, k * 8 + 4, none⟩ = some (.int .i64 L[k].main) := hcell 4 (by omega)
      have f4 : wr.frozen? ⟨g, k * 8 + 4, none⟩ = false := World.ownsRow.frozenAt HOR.out _
      have HST := Lib.hid (setE_step L id m k hkl)
      have HSET : Hid (OwnV (wr.setCell ⟨g, k * 8 + 4, none⟩ (.int .i64 m)) w.heap.size (.slice (some ⟨g, 0, none⟩) n1 c1) ((setE (L.take k) id m ++ L.drop k).set k (withMain m L[k]))) := by
        have hm := setE_mid L id m k hkl
        have hkm := (List.getElem?_eq_some_iff.1 hm)
        have := own_withMain HO.out HLEN.out hkm.1 m
        rw [hkm.2] at this
        exact this
      have HDS : Hid (All2 (DoE (wr.setCell ⟨g, k * 8 + 4, none⟩ (.int .i64 m)) w.heap.size) L P) := HD.out.mono fun _ _ _ _ h => h.grown HOR.out (grownBy_cell wr g (k * 8 + 4) (.int .i64 m))
      obtain ⟨b, off, x, q, rfl, hbl, hdr, HDE, d0, d1, d2, d3, d4, d5, d6, d7⟩ := (HR'.out k hlt).below HB.out
      clear hcell d0 d1 d2 d3 d5 d6 d7
      cases hid : (L[k].id == id)
      · have HST2 : Hid (setE (L.take (k + 1)) id m ++ L.drop (k + 1) = setE (L.take k) id m ++ L.drop k) := by rw [Hid, HST.out, if_neg (by simpa using hid)]
        generalize L[k].id = xid at c0 hid
        go_wp2_with fail
        go_roundw
        case rel => exact ⟨k + 1, by omega, by go_num, by rw [HST2.out]; exact HO.out, HD.out, HB.out⟩
        case measure => simp [intOf]; omega
      · have HST2 : Hid (setE (L.take (k + 1)) id m ++ L.drop (k + 1) = (setE (L.take k) id m ++ L.drop k).set k (withMain m L[k])) := by rw [Hid, HST.out, if_pos (by simpa using hid)]
        have hgb : w.heap.size ≤ g := hg1
        rw [HDE.out.main, HX.out k hkl (by simpa using hid) q _ hdr.out] at d4
        generalize L[k].id = xid at c0 hid
        go_wp2_with fail
        go_roundw
        case rel => exact ⟨k + 1, by omega, by go_num, by rw [HST2.out]; exact HSET.out, HDS.out, HB.out.setCell (p := ⟨g, k * 8 + 4, none⟩) hgb _⟩
        case measure => simp [intOf]; omega
    · have HFIN : Hid (OwnV wr w.heap.size (.slice A1 n1 c1) (setE L id m)) := by
        have h := HO.out
        rw [List.take_of_length_le (by rw [HLL.out]; omega), List.drop_of_length_le (by rw [HLL.out]; omega), List.append_nil] at h
        exact h
      have HFP : Hid (RdP wr (.slice A1 n1 c1) (setP P id m)) := ⟨_, HFIN.out.rd, set_all (HD.out.mono fun _ _ _ _ h => h.rd) id m⟩
      go_wp2_with fail
      refine (same_any _ _ _ _ _ HFP.out (HU.out.below HB.out)).mono ?_
      rintro e w2 ⟨rfl, hb⟩
      rw [show decide (setP P id m = setP P id m) = true by simp]
      have HB2 := Lib.hid (bchain HB.out hb)
      clear hb
      go_wp2_with fail
      go_ret
      exact ⟨rfl, HB2.out⟩
end Go.Proofs.Ytnjniganlielcaa
