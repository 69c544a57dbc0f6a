/-
  The reference's lexicon: Get, has, Check.
-/
import Derived.Test.YtiopgbbggeimaaaGreatKR
namespace Go.Proofs.YtiopgbbggeimaaaGreat
open Go.ChangeShapes Go.WideShapes Go.ChangeAt Go.RowKit
set_option maxHeartbeats 2000000 in
set_option maxRecDepth 100000 in
theorem rget_any (v : Value) (L : List EV) (id : Int) (w : World) (hv : RdV w v L) :
    Calls Tryz.prog 58 #[v, .int .i64 id] w fun e' w' => e' = .returned (getV L id) ∧ Below w.heap.size w w' := by
  obtain ⟨A, n, c, rfl, h1, h2, HN, HR⟩ := hv.op
  clear hv
  obtain ⟨gv, hgv⟩ : ∃ gv, getV L id = gv := ⟨_, rfl⟩
  have HG := Lib.hid hgv
  rw [hgv]
  clear hgv
  go_enter Tryz.func58, Tryz.ntmps58
  go_upto_region 1 with (fail)
  generalize hW : World.alloc w _ = W
  have HBW : Hid (Below w.heap.size w W) := by rw [← hW]; exact al_below _ _
  have HZ : Hid (EBlk W w.heap.size evz) := by rw [← hW]; exact heap_alloc_new w _
  clear hW
  go_wp2_with fail
  go_loopw [9] (fun vi wr => ∃ k : Nat, k ≤ n ∧ vi = .int .i64 k ∧ Hid (getE L id = getE (L.drop k) id) ∧ Hid (Below W.heap.size W wr)) (fun vi _ => n - (intOf vi).toNat)
  case atStart => exact ⟨0, Nat.zero_le _, rfl, rfl, Below.refl _ _⟩
  case round =>
    obtain ⟨k, hk, rfl, HP, HBR⟩ := hrel
    have HZR := Lib.hid (HZ.out.below HBR.out)
    by_cases hlt : k < n
    · obtain ⟨b, off, e, rfl, hb, hd, c0, c1, c2, c3, c4, c5, c6, c7⟩ := (HR.out k hlt).below (bchain HBW.out HBR.out)
      have hk0 : (0 : Int) ≤ (k : Int) := by omega
      cases hid : (e.id == id)
      · have HP3 : Hid (getE L id = getE (L.drop (k + 1)) id) := by rw [Hid, HP.out, hd.out, getE, List.find?_cons_of_neg (by simp [hid])]; rfl
        go_wp2_with fail
        go_roundw
        case rel => exact ⟨k + 1, by omega, by go_num, HP3.out, HBR.out⟩
        case measure => simp [intOf]; omega
      · have HGV : Hid (gv = .tuple #[e.val, .bool true]) := by
          have h : getE L id = some e := by rw [HP.out, hd.out, getE, List.find?_cons_of_pos (by simp [hid])]
          rw [Hid, ← HG.out, getV, h]; rfl
        have hf := HZR.out.free
        obtain ⟨y0, y1, y2, y3, y4, y5, y6, y7, hl⟩ := HZR.out.facts
        go_wp2_with fail
        generalize hX : World.setCell _ _ _ = X
        have hX' : put8 wr w.heap.size e = X := by rw [← hX]; simp only [put8]
        have HX : Hid (EBlk X w.heap.size e) := by rw [Hid, ← hX']; exact HZR.out.put e
        have HXB : Hid (Below w.heap.size w X) := by rw [Hid, ← hX']; exact put8_below (bchain HBW.out HBR.out) (by omega) _
        clear hX hX' hf hl y0 y1 y2 y3 y4 y5 y6 y7 c0 c1 c2 c3 c4 c5 c6 c7
        obtain ⟨z0, z1, z2, z3, z4, z5, z6, z7, zl⟩ := HX.out.facts
        rw [HGV.out]
        refine bodyPost_ret (v := .tuple #[e.val, .bool true]) ?_ rfl ?_
        · simp [results, Tryz.results58, go_sem, z0, z1, z2, z3, z4, z5, z6, z7, EV.val]
        exact ⟨rfl, HXB.out⟩
    · have HGV : Hid (gv = .tuple #[evz.val, .bool false]) := by
        have h : getE L id = none := by rw [HP.out, List.drop_of_length_le (by rw [HN.out]; omega)]; rfl
        rw [Hid, ← HG.out, getV, h]; rfl
      have hf := HZR.out.free
      obtain ⟨y0, y1, y2, y3, y4, y5, y6, y7, hl⟩ := HZR.out.facts
      go_wp2_with fail
      generalize hX : World.setCell _ _ _ = X
      have hX' : put8 wr w.heap.size evz = X := by rw [← hX]; simp only [put8, evz, slz]
      have HX : Hid (EBlk X w.heap.size evz) := by rw [Hid, ← hX']; exact HZR.out.put evz
      have HXB : Hid (Below w.heap.size w X) := by rw [Hid, ← hX']; exact put8_below (bchain HBW.out HBR.out) (by omega) _
      clear hX hX' hf hl y0 y1 y2 y3 y4 y5 y6 y7
      obtain ⟨z0, z1, z2, z3, z4, z5, z6, z7, zl⟩ := HX.out.facts
      rw [HGV.out]
      refine bodyPost_ret (v := .tuple #[evz.val, .bool false]) ?_ rfl ?_
      · simp [results, Tryz.results58, go_sem, z0, z1, z2, z3, z4, z5, z6, z7, EV.val]
      exact ⟨rfl, HXB.out⟩
theorem al_belowX {w W : World} (h : ∃ o, W = w.alloc o) : Below w.heap.size w W := by
  obtain ⟨o, rfl⟩ := h
  exact al_below _ _
set_option maxHeartbeats 2000000 in
set_option maxRecDepth 100000 in
theorem rhas_any (v : Value) (L : List EV) (id : Int) (w : World) (hv : RdV w v L) :
    Calls Tryz.prog 70 #[v, .int .i64 id] w fun e' w' => RetB AnyB e' ∧ Below w.heap.size w w' := by
  have HV := Lib.hid hv
  obtain ⟨A, n, c, rfl, h1, h2, HN, HR⟩ := hv.op
  clear hv
  go_enter Tryz.func70, Tryz.ntmps70
  go_wp2_with fail
  refine (rget_any _ L id _ HV.out).mono ?_
  rintro e' w1 ⟨rfl, hb⟩
  have HB1 := Lib.hid hb
  clear hb
  unfold getV
  generalize (getE L id).getD evz = x
  generalize (getE L id).isSome = y
  simp only [EV.val]
  go_wp2_with fail
  go_ret
  exact ⟨RetB.mk trivial, HB1.out.alloc HB1.out.size _⟩
end Go.Proofs.YtiopgbbggeimaaaGreat
