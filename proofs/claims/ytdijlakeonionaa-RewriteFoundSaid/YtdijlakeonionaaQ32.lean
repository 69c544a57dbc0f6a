/-
  Back.
-/
import Derived.Test.YtdijlakeonionaaQ31
namespace Go.Proofs.Ytdijlakeonionaa
open Go.ChangeShapes Go.WideShapes Go.ChangeAt Go.RowKit
theorem own_newPl (w : World) (p : Pl) (base g : Nat) (hg : w.heap.size = g) (hb : base ≤ g) : OwnPl (w.alloc (.cells (plA p) 87)) base (.slice (some ⟨g, 0, none⟩) 1 1) [p] := by
  subst hg
  exact ⟨rfl, .inr ⟨w.heap.size, 1, _, rfl, hb, heap_alloc_new w _, Nat.le_refl _, by simp [maxLen], rfl, rfl⟩⟩
set_option maxHeartbeats 8000000 in
set_option maxRecDepth 100000 in
theorem back_any (v vr vw : Value) (I : List PPh) (R : PRule) (wl : List Int) (len : Int) (w : World) (hv : RdV w v I) (hr : RdR w vr R) (hw : RdI w vw wl) (hI : I.length ≤ 60) (hR : RGood I R) (hwl : wl.length ≤ 24) (hfew : 0 ≤ len → len ≤ 24 → cF I.length len.toNat ≤ 60000) :
    Calls Try.prog 23 #[v, vr, vw, .int .i64 len] w fun e w' => (∃ v', e = .returned v' ∧ RdL w' v' (backF I R wl len)) ∧ Below w.heap.size w w' := by
  have HVW := Lib.hid hw
  obtain ⟨Aw, nw, cw, rfl⟩ := rdI_slice hw
  have HWN : Hid (wl.length = nw) := by
    obtain ⟨A, c, he, _⟩ := hw
    injection he with _ h1 _
    exact h1.symm
  have HR0 := Lib.hid hR
  have HFEW := Lib.hid hfew
  have HII := Lib.hid hI
  have HWL := Lib.hid hwl
  clear hw hR hfew hI hwl
  obtain ⟨u, rfl, hp⟩ := id hv
  obtain ⟨A0, n0, c0, rfl, _, _, _, _⟩ := hp.op
  obtain ⟨vf, vt, vl, vg, rfl, hf, ht, hl, hg⟩ := id hr
  obtain ⟨A1, n1, c1, rfl, _, _, HN1, HR1⟩ := hf.op
  obtain ⟨A2, n2, c2, rfl, _, _, HN2, HR2⟩ := ht.op
  obtain ⟨A3, n3, c3, rfl, _, _, HN3, _⟩ := hl.op
  obtain ⟨A4, n4, c4, rfl, _, _, HN4, _⟩ := hg.op
  have HV := Lib.hid hv
  have HRR := Lib.hid hr
  have HF := Lib.hid hf
  have HT := Lib.hid ht
  clear hp hf ht hl hg hv hr
  obtain ⟨beg, hbeg⟩ : ∃ x, R.beg = x := ⟨_, rfl⟩
  obtain ⟨fin, hfin⟩ : ∃ x, R.fin = x := ⟨_, rfl⟩
  rw [hbeg, hfin] at HRR ⊢
  clear hbeg hfin
  have HBF : Hid (R.beg = beg ∧ R.fin = fin) := by
    obtain ⟨vf, vt, vl, vg, he, _⟩ := HRR.out
    injection he with he
    simp only [Array.mk.injEq, List.cons.injEq, Value.bool.injEq] at he
    exact ⟨he.2.2.2.2.1.symm, he.2.2.2.2.2.1.symm⟩
  obtain ⟨ls, hls⟩ : ∃ ls, backF I R wl len = ls := ⟨_, rfl⟩
  have HLS := Lib.hid hls
  rw [hls]
  clear hls
  have hmm := @run_makeMap Try.prog
  go_enter Try.func23, Try.ntmps23
  go_upto_region 1 with (fail)
  generalize hW : World.alloc (World.alloc w _) _ = W
  have HBW : Hid (Below w.heap.size w W) := by rw [← hW]; exact bchain (al_below _ _) (al_below _ _)
  have HP : Hid (VBlk W w.heap.size (.slice A0 n0 c0)) := by rw [← hW]; exact VBlk.below (heap_alloc_new w _) (al_below _ _)
  have HQ : Hid (RBlk W (w.heap.size + 1) (.slice A1 n1 c1) (.slice A2 n2 c2) (.slice A3 n3 c3) (.slice A4 n4 c4) beg fin) := by
    have h := heap_alloc_new (w.alloc (.cells #[.slice A0 n0 c0] 24)) (.cells #[.slice A1 n1 c1, .slice A2 n2 c2, .slice A3 n3 c3, .slice A4 n4 c4, .bool beg, .bool fin] 28)
    rw [World.size_alloc] at h
    rw [← hW]; exact h
  clear hW
  by_cases h0 : len < 0
  · have d1 : decide (len < 0) = true := decide_eq_true h0
    have HF0 : Hid (ls = []) := by rw [Hid, ← HLS.out, backF, if_pos (.inl h0)]
    clear h0
    go_wp2_with fail
    go_ret
    exact ⟨⟨_, rfl, by rw [HF0.out]; exact (OwnL.nil _ 0).rd⟩, HBW.out⟩
  have d1 : decide (len < 0) = false := decide_eq_false h0
  by_cases h1 : 24 < len
  · have d2 : decide (24 < len) = true := decide_eq_true h1
    have HF0 : Hid (ls = []) := by rw [Hid, ← HLS.out, backF, if_pos (.inr h1)]
    clear h0 h1
    go_wp2_with fail
    go_ret
    exact ⟨⟨_, rfl, by rw [HF0.out]; exact (OwnL.nil _ 0).rd⟩, HBW.out⟩
  have d2 : decide (24 < len) = false := decide_eq_false h1
  obtain ⟨k, rfl⟩ : ∃ k : Nat, len = (k : Int) := ⟨len.toNat, by omega⟩
  have hk : k ≤ 24 := by omega
  have HF0 : Hid (ls = fromL I R wl k []) := by rw [Hid, ← HLS.out, backF, if_neg (by omega), Int.toNat_natCast]
  have HCF : Hid (([] : List (List Int)).length + cF I.length k ≤ 1000000) := by
    have := HFEW.out (by omega) (by omega)
    rw [Int.toNat_natCast] at this
    rw [Hid, List.length_nil]; omega
  have y0 := HP.out.cell
  have y1 := HP.out.lt
  obtain ⟨z0, z1, z2, z3, z4, z5⟩ := HQ.out.cells
  have zl := HQ.out.lt
  clear h0 h1
  go_wp2_with fail
  clear y0 y1 z0 z1 z2 z3 z4 z5 zl d1 d2
  have hmach := mach_any _ _ I R W (HV.out.below HBW.out) (HRR.out.below HBW.out)
  rw [HBF.out.1, HBF.out.2] at hmach
  refine hmach.mono ?_
  clear hmach
  rintro e w2 ⟨⟨m, rfl, hm⟩, hb2⟩
  have HM2 := Lib.hid hm
  have HB2 := Lib.hid (bchain HBW.out hb2)
  clear hm hb2 HP HQ
  simp only [mchV, mchC]
  go_upto_region 4 with (fail)
  obtain ⟨bm, hbm⟩ : ∃ bm, w2.heap.size = bm := ⟨_, rfl⟩
  have hm3 : OwnM KP (w2.alloc (.map #[] 0)) bm allPl (fun _ => none) := OwnM.made KP w2 allPl bm hbm
  have hs3 : (w2.alloc (.map #[] 0)).heap.size = bm + 1 := by rw [World.size_alloc, hbm]
  have hb3 : Below w2.heap.size w2 (w2.alloc (.map #[] 0)) := al_below _ _
  generalize hW3 : w2.alloc (.map #[] 0) = W3 at hm3 hs3 hb3 ⊢
  obtain ⟨B, hB⟩ : ∃ B, bm + 1 = B := ⟨_, rfl⟩
  rw [hB] at hs3
  rw [hbm, hB]
  generalize hW4 : World.alloc W3 _ = W4
  have hb4 : Below W3.heap.size W3 W4 := by rw [← hW4]; exact al_below _ _
  have hf4 : FndBlk W4 B m beg fin Aw nw cw bm (.slice none 0 0) := by rw [← hW4, ← hs3]; exact heap_alloc_new W3 _
  have hb24 : Below w2.heap.size w2 W4 := bchain hb3 hb4
  have HE : Hid (FE w2 I R wl m beg fin Aw nw cw B bm) := ⟨HM2.out, HVW.out.below HB2.out, HR0.out, HBF.out, HWN.out, by rw [← HWN.out]; exact HWL.out, HII.out, HM2.out.len.1, by omega, by omega⟩
  have HK4 : Hid (KnM I R wl bm W4) := ⟨fun _ => none, hm3.below hb4, fun p x h => by cases h⟩
  have HF4 := Lib.hid hf4
  have HB24 := Lib.hid hb24
  clear hmm hW3 hW4 hb4 hf4 hb24 hm3 hs3 hb3 hB hbm
  go_wp2_with fail
  obtain ⟨gl, hgl⟩ : ∃ gl, W4.heap.size = gl := ⟨_, rfl⟩
  generalize hW5 : World.alloc W4 _ = W5
  have hb5 : Below W4.heap.size W4 W5 := by rw [← hW5]; exact al_below _ _
  have HL5 : Hid (OwnPl W5 w2.heap.size (.slice (some ⟨gl, 0, none⟩) 1 1) [⟨St.zero, 0, k⟩]) := by rw [← hW5]; exact own_newPl W4 ⟨St.zero, 0, k⟩ _ gl hgl (by rw [← hgl]; exact HB24.out.size)
  have HB25 : Hid (Below w2.heap.size w2 W5) := bchain HB24.out hb5
  have HF5 := Lib.hid (HF4.out.below hb5)
  have HK5 := Lib.hid (HK4.out.below hb5)
  rw [hgl]
  clear hgl hW5 hb5 HF4 HK4 HB24
  refine (search_any HE k hk k [] [⟨St.zero, 0, k⟩] (.slice none 0 0) (.slice (some ⟨gl, 0, none⟩) 1 1) (.slice none 0 0) [] W5 (by simp) (World.ownsRow_nil _ _ _ _) HL5.out (by simp) (fun p hp => by rw [List.mem_singleton.1 hp]; exact ⟨rfl, ⟨StOk.zero, by show 0 ≤ 24; omega, hk⟩, Nat.zero_le _⟩) HB25.out HF5.out (OwnL.nil _ _) HK5.out HCF.out).mono ?_
  rintro e w6 ⟨rfl, vf, hf6, ho6, hk6, hr6⟩
  have HB26 : Hid (Below w2.heap.size w2 w6) := HB25.out.trans (hr6.low HB25.out.size HE.out.bb.1 HE.out.bb.2)
  have HO6 : Hid (OwnL w6 B vf ls) := by
    rw [Hid, HF0.out, ← srch_start I R wl k HR0.out.l1 HR0.out.l2]
    exact ho6
  have HF6 := Lib.hid hf6
  obtain ⟨A7, n7, c7, rfl⟩ := ownL_formN HO6.out
  obtain ⟨_, _, _, t3⟩ := HF6.out.cells
  have tl := HF6.out.lt
  clear hf6 ho6 hk6 hr6
  go_wp2_with fail
  go_ret
  exact ⟨⟨_, rfl, HO6.out.rd⟩, bchain HB2.out HB26.out⟩
end Go.Proofs.Ytdijlakeonionaa
