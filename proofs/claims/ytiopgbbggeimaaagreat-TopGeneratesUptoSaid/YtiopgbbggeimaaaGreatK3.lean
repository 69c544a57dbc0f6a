/-
  Word of the reference of phonemes; glosses and definitions of entries, identifiers.
-/
import Derived.Test.YtiopgbbggeimaaaGreatK2
namespace Go.Proofs.YtiopgbbggeimaaaGreat
open Go.ChangeShapes Go.WideShapes Go.ChangeAt Go.RowKit
set_option maxHeartbeats 2000000 in
set_option maxRecDepth 100000 in
theorem rword_any (v u : Value) (I : List PPh) (l : List Int) (w : World) (hv : RdVQ w v I) (hu : RdI w u l) :
    Calls Tryz.prog 121 #[v, u] w fun e w' => e = .returned (.int .i64 (wordC I l)) ∧ Below w.heap.size w w' := by
  obtain ⟨A0, n0, c0, rfl⟩ := rdV_form hv
  have HV := Lib.hid hv
  obtain ⟨A, n, c, rfl, _, hc63, HN, HR⟩ := hu.op
  clear hv hu
  obtain ⟨cc, hcc⟩ : ∃ x, wordC I l = x := ⟨_, rfl⟩
  have HC := Lib.hid hcc
  rw [hcc]
  clear hcc
  go_enter Tryz.func121, Tryz.ntmps121
  go_upto_region 1 with (fail)
  generalize hW : World.alloc w _ = W
  have HBW : Hid (Below w.heap.size w W) := by rw [← hW]; exact al_below _ _
  have HP : Hid (VBlk W w.heap.size (.slice A0 n0 c0)) := by rw [← hW]; exact heap_alloc_new w _
  clear hW
  by_cases h0 : n = 0
  · subst h0
    have HF : Hid (cc = 4) := by rw [Hid, ← HC.out, wordC, if_pos (List.eq_nil_of_length_eq_zero HN.out)]
    go_wp2_with fail
    go_ret
    exact ⟨by rw [HF.out]; rfl, HBW.out⟩
  have h0' : ¬ (n : Int) = 0 := by omega
  by_cases h1 : 24 < n
  · have d1 : (24 : Int) < (n : Int) := by omega
    have HF : Hid (cc = 5) := by rw [Hid, ← HC.out, wordC, if_neg (by intro h; rw [h] at HN; exact h0 HN.out.symm), if_pos (by rw [HN.out]; exact h1)]
    go_wp2_with fail
    go_ret
    exact ⟨by rw [HF.out]; rfl, HBW.out⟩
  have d1 : ¬ (24 : Int) < (n : Int) := by omega
  have HC2 : Hid (cc = if l.all (isB I) then 0 else 19) := by rw [Hid, ← HC.out, wordC, if_neg (by intro h; rw [h] at HN; exact h0 HN.out.symm), if_neg (by rw [HN.out]; exact h1)]
  go_wp2_with fail
  clear h0 h0' h1 d1 HC
  go_loopw [14] (fun vi wr => ∃ k : Nat, k ≤ n ∧ vi = .int .i64 k ∧ Hid ((l.take k).all (isB I) = true) ∧ Hid (Below W.heap.size W wr)) (fun vi _ => n - (intOf vi).toNat)
  case atStart => exact ⟨0, Nat.zero_le _, rfl, rfl, Below.refl _ _⟩
  case round =>
    obtain ⟨k, hk, rfl, HK, HBR⟩ := hrel
    have HBX := Lib.hid (bchain HBW.out HBR.out)
    by_cases hlt : k < n
    · obtain ⟨b, off, x, rfl, hb, hd, hc0⟩ := (HR.out k hlt).below HBX.out
      have hk0 : (0 : Int) ≤ (k : Int) := by omega
      have HTK : Hid (l.take (k + 1) = l.take k ++ [x]) := by rw [Hid, List.take_add_one, ← List.head?_drop, hd.out]; rfl
      have HS : Hid (∀ w' : World, Below wr.heap.size wr w' → w'.cell? ⟨w.heap.size, 0, none⟩ = some (.slice A0 n0 c0) ∧ w'.cell? ⟨b, off + k, none⟩ = some (.int .i64 x)) :=
        fun w' h => ⟨(HP.out.below (bchain HBR.out h)).cell, (h.cell (p := ⟨b, off + k, none⟩) hb).trans hc0⟩
      clear hb hc0
      go_upto_region 8 with (fail)
      refine wp_region_ord 5 [0, 1, 2, 3, 4] [] [0, 1, 2, 3, 4] [5, 6] (fun w' => Below wr.heap.size wr w') (by kernel_rfl) (by kernel_rfl) ?_
      rintro Z hZ
      have HSZ : Hid (Below wr.heap.size wr Z) := by rw [hZ]; exact (Below.refl _ _).drew
      clear hZ
      refine ⟨HSZ.out, ?_⟩
      iterate 5 (refine wpHead_cons (v := ?_) rfl rfl (fun w' hS => ?_) ?_; rotate_left; (focus ((try obtain ⟨s0, s1⟩ := HS.out _ (hS rfl)); clear hS; go_simp; try with_reducible rfl; done)); (try simp only [Act.put, List.setIfInBounds_toArray, List.set_cons_zero, List.set_cons_succ]))
      refine wpHead_nil ?_
      refine wpTail_cons rfl rfl (fun K hK => ?_)
      go_simp
      refine (ris_any _ I x _ (HV.out.below (bchain HBX.out HSZ.out))).mono ?_
      rintro e w2 ⟨rfl, hb2⟩
      have HB2 := Lib.hid (bchain HBR.out (bchain HSZ.out hb2))
      refine hK.out _ _ (fun _ => bchain HSZ.out hb2) ?_
      clear hK K HS hb2
      (try simp only [Act.put, List.setIfInBounds_toArray, List.set_cons_zero, List.set_cons_succ])
      refine wpTail_rest 6 rfl ?_
      simp only [List.drop_succ_cons, List.drop_zero]
      cases hx : isB I x
      · have HF : Hid (cc = 19) := by
          have h : l.all (isB I) = false := by
            rw [List.all_eq_false]
            exact ⟨x, List.mem_of_mem_drop (by rw [hd.out]; exact List.mem_cons_self), by rw [hx]; simp⟩
          rw [Hid, HC2.out, h]; rfl
        clear hx
        go_wp2_with fail
        refine NoPanic.normal ?_
        go_wp2_with fail
        go_ret
        exact ⟨by rw [HF.out]; rfl, bchain HBW.out HB2.out⟩
      · have HK2 : Hid ((l.take (k + 1)).all (isB I) = true) := by rw [Hid, HTK.out, List.all_append, HK.out]; simp [hx]
        clear hx
        go_wp2_with fail
        refine NoPanic.normal ?_
        go_wp2_with fail
        go_roundw
        case rel => exact ⟨k + 1, by omega, by go_num, HK2.out, HB2.out⟩
        case measure => simp [intOf]; omega
    · obtain rfl : n = k := by omega
      have HF : Hid (cc = 0) := by
        have h := HK.out
        rw [← HN.out, List.take_length] at h
        rw [Hid, HC2.out, h]; rfl
      go_wp2_with fail
      go_ret
      exact ⟨by rw [HF.out]; rfl, HBX.out⟩
set_option maxHeartbeats 4000000 in
set_option maxRecDepth 100000 in
theorem gloss_any (s : ByteArray) (w : World) (hs : s.size ≤ 1048576) : Calls Tryz.prog 134 #[.string s] w fun e w' => RetB AnyB e ∧ Below w.heap.size w w' := by
  go_enter Tryz.func134, Tryz.ntmps134
  go_wp2_with fail
  go_loop [3] (fun i => ∃ k : Nat, k ≤ s.size ∧ i = .int .i64 k) (fun i => s.size - (intOf i).toNat)
  case atStart => exact ⟨0, Nat.zero_le _, rfl⟩
  case round =>
    obtain ⟨k, hk, rfl⟩ := hrel
    by_cases hlt : k < s.size
    · cases hd2 : ((((s[k]'hlt).toNat : Nat) : Int) == 32)
      · cases hd3 : ((((s[k]'hlt).toNat : Nat) : Int) == 45)
        · go_wp2_with fail
          go_round
          case rel => exact ⟨k + 1, by omega, by go_num⟩
          case measure => simp [intOf]; omega
        · go_wp2_with fail
          go_ret
          exact ⟨RetB.mk (b := false) trivial, Below.refl _ _⟩
      · go_wp2_with fail
        go_ret
        exact ⟨RetB.mk (b := false) trivial, Below.refl _ _⟩
    · go_wp2_with fail
      refine (label_any s _ hs).mono ?_
      rintro e w2 ⟨⟨b, rfl, hq⟩, hb⟩
      clear hq
      go_wp2_with fail
      go_ret
      exact ⟨RetB.mk trivial, hb⟩
/-- what Points returns, with the points -/
def PtsL (e : Ending) (w : World) : Prop := ∃ v b l, e = .returned (.tuple #[v, .bool b]) ∧ RdI w v l
theorem PtsL.mk {v : Value} {b : Bool} {l : List Int} {w : World} (h : RdI w v l) : PtsL (.returned (.tuple #[v, .bool b])) w := ⟨v, b, l, rfl, h⟩
theorem rdI_none (w : World) : RdI w (.slice none 0 0) [] := ⟨none, 0, rfl, by simp, by simp, rfl, fun h => absurd h (by simp)⟩
set_option maxHeartbeats 4000000 in
set_option maxRecDepth 100000 in
theorem pointsL_any (s : ByteArray) (w : World) (hs : s.size ≤ 1048576) : Calls Tryz.prog 96 #[.string s] w fun e w' => PtsL e w' ∧ Below w.heap.size w w' := by
  go_enter Tryz.func96, Tryz.ntmps96
  go_wp2_with fail
  go_loopw [4, 5] (fun v i wr => ∃ (k : Nat) (l : List Int), k ≤ s.size ∧ i = .int .i64 k ∧ Hid (l.length ≤ k) ∧ Hid (OwnI wr w.heap.size v l) ∧ Hid (Below w.heap.size w wr)) (fun _ i _ => s.size - (intOf i).toNat)
  case atStart => exact ⟨0, [], Nat.zero_le _, rfl, Nat.le_refl _, World.ownsRow_nil _ _ _ _, Below.refl _ _⟩
  case round =>
    obtain ⟨k, l, hk, rfl, HL, HO, HB⟩ := hrel
    obtain ⟨A, n, c, rfl, _, _, HN, _⟩ := HO.out.rd.op
    by_cases hlt : k < s.size
    · go_wp2_with fail
      refine (first_any s k _ hs hlt).mono ?_
      rintro e w2 ⟨⟨p, j, rfl, hj⟩, hb⟩
      have HB2 := Lib.hid (bchain HB.out hb)
      have HO2 : Hid (OwnI w2 w.heap.size (.slice A n c) l) := own_below HO.out hb
      have hbl : w.heap.size ≤ w2.heap.size := HB2.out.size
      clear hb
      by_cases hj0 : j = 0
      · subst hj0
        clear hj
        go_wp2_with fail
        go_ret2
        exact ⟨PtsL.mk (rdI_none _), HB2.out⟩
      · have hd : ((j : Int) == 0) = false := by simp; omega
        have hj2 := hj (by omega)
        have hn : n ≤ 200000000 := by have := HL.out; have := HN.out; omega
        clear hj
        go_wp2_with (at_builtin; refine wpList_app_int2 rfl (.tmp 20) (.tmp 22) rfl w.heap.size (.slice A n c) l rfl HO2.out p n HN hn hbl rfl ?_; intro g' cap' w5 ho hge hg)
        have HO5 := Lib.hid ho
        have HG5 := Lib.hid hg
        clear ho hg
        go_roundw
        case rel => exact ⟨k + j, l ++ [p], by omega, by go_num, by rw [Hid, List.length_append]; have := HL.out; simp; omega, HO5.out, HB2.out.grown HG5.out HB2.out.size (fun j hj => (World.ownsRow.lt HO2.out j hj).1)⟩
        case measure => simp [intOf]; omega
    · go_wp2_with fail
      go_ret2
      exact ⟨PtsL.mk HO.out.rd, HB.out⟩
set_option maxHeartbeats 4000000 in
set_option maxRecDepth 100000 in
theorem text12_any (s : ByteArray) (w : World) (hs : s.size ≤ 1048576) : Calls Tryz.prog 135 #[.string s] w fun e w' => RetE AnyE e ∧ Below w.heap.size w w' := by
  by_cases h0 : 200 < s.size
  · have d0 : (200 : Int) < (s.size : Int) := by omega
    go_enter Tryz.func135, Tryz.ntmps135
    go_wp2_with fail
    go_ret
    exact ⟨RetE.mk (x := 5) trivial, Below.refl _ _⟩
  have d0 : ¬ (200 : Int) < (s.size : Int) := by omega
  go_enter Tryz.func135, Tryz.ntmps135
  go_wp2_with fail
  refine (pointsL_any s _ hs).mono ?_
  rintro e w2 ⟨⟨v, b, l, rfl, hl⟩, hb⟩
  have HB2 := Lib.hid hb
  obtain ⟨A, n, c, rfl, _, hc63, HN, HR⟩ := hl.op
  clear hb hl
  cases b
  · go_wp2_with fail
    go_ret
    exact ⟨RetE.mk (x := 3) trivial, HB2.out⟩
  go_wp2_with fail
  go_loopw [5] (fun vi wr => ∃ k : Nat, k ≤ n ∧ vi = .int .i64 k ∧ Hid (Below w2.heap.size w2 wr)) (fun vi _ => n - (intOf vi).toNat)
  case atStart => exact ⟨0, Nat.zero_le _, rfl, Below.refl _ _⟩
  case round =>
    obtain ⟨k, hk, rfl, HBR⟩ := hrel
    by_cases hlt : k < n
    · obtain ⟨b, off, x, rfl, hb, hd, hc0⟩ := (HR.out k hlt).below HBR.out
      have hk0 : (0 : Int) ≤ (k : Int) := by omega
      cases hx1 : decide (x < 32)
      · cases hx2 : (x == 127)
        · go_wp2_with fail
          go_roundw
          case rel => exact ⟨k + 1, by omega, by go_num, HBR.out⟩
          case measure => simp [intOf]; omega
        · go_wp2_with fail
          go_ret
          exact ⟨RetE.mk (x := 3) trivial, bchain HB2.out HBR.out⟩
      · go_wp2_with fail
        go_ret
        exact ⟨RetE.mk (x := 3) trivial, bchain HB2.out HBR.out⟩
    · go_wp2_with fail
      go_ret
      exact ⟨RetE.mk (x := 0) trivial, bchain HB2.out HBR.out⟩
end Go.Proofs.YtiopgbbggeimaaaGreat
