/-
  The reference's Back.
-/
import Derived.Test.YtdijlakeonionaaQ20
namespace Go.Proofs.Ytdijlakeonionaa
open Go.ChangeShapes Go.WideShapes Go.ChangeAt Go.RowKit
/-- the lists that are turned into a given one, of at most so many segments -/
def backF (I : List PPh) (R : PRule) (wl : List Int) (len : Int) : List (List Int) := if len < 0 ∨ 24 < len then [] else fromL I R wl len.toNat []
set_option maxHeartbeats 4000000 in
set_option maxRecDepth 100000 in
theorem rback_any (v vr vw : Value) (I : List PPh) (R : PRule) (wl : List Int) (len : Int) (w : World) (hv : RdV w v I) (hr : RdR w vr R) (hw : RdI w vw wl) (hI : I.length ≤ 60) (hR : RGood I R) (hfew : 0 ≤ len → len ≤ 24 → cF I.length len.toNat ≤ 60000) :
    Calls Try.prog 24 #[v, vr, vw, .int .i64 len] w fun e w' => (∃ v', e = .returned v' ∧ RdL w' v' (backF I R wl len)) ∧ Below w.heap.size w w' := by
  have HVW := Lib.hid hw
  obtain ⟨Aw, nw, cw, rfl⟩ := rdI_slice hw
  have HR0 := Lib.hid hR
  have HFEW := Lib.hid hfew
  have HII := Lib.hid hI
  clear hw hR hfew hI
  obtain ⟨u, rfl, hp⟩ := id hv
  obtain ⟨A0, n0, c0, rfl, _, _, _, _⟩ := hp.op
  obtain ⟨vf, vt, vl, vg, rfl, hf, ht, hl, hg⟩ := id hr
  obtain ⟨A1, n1, c1, rfl, _, _, HN1, HR1⟩ := hf.op
  obtain ⟨A2, n2, c2, rfl, _, _, HN2, HR2⟩ := ht.op
  obtain ⟨A3, n3, c3, rfl, _, _, HN3, _⟩ := hl.op
  obtain ⟨A4, n4, c4, rfl, _, _, HN4, _⟩ := hg.op
  have HV := Lib.hid hv
  have HRR := Lib.hid hr
  have HF := Lib.hid hf
  have HT := Lib.hid ht
  clear hp hf ht hl hg hv hr
  obtain ⟨beg, hbeg⟩ : ∃ x, R.beg = x := ⟨_, rfl⟩
  obtain ⟨fin, hfin⟩ : ∃ x, R.fin = x := ⟨_, rfl⟩
  rw [hbeg, hfin] at HRR ⊢
  clear hbeg hfin
  have HIN : Hid (I.length = n0) := by
    obtain ⟨u, he, hp⟩ := HV.out
    cases he
    obtain ⟨A, c, he2, _⟩ := hp
    cases he2
    rfl
  obtain ⟨ls, hls⟩ : ∃ ls, backF I R wl len = ls := ⟨_, rfl⟩
  have HLS := Lib.hid hls
  rw [hls]
  clear hls
  go_enter Try.func24, Try.ntmps24
  go_upto_region 1 with (fail)
  generalize hW : World.alloc (World.alloc w _) _ = W
  have HBW : Hid (Below w.heap.size w W) := by rw [← hW]; exact bchain (al_below _ _) (al_below _ _)
  have HP : Hid (VBlk W w.heap.size (.slice A0 n0 c0)) := by rw [← hW]; exact VBlk.below (heap_alloc_new w _) (al_below _ _)
  have HQ : Hid (RBlk W (w.heap.size + 1) (.slice A1 n1 c1) (.slice A2 n2 c2) (.slice A3 n3 c3) (.slice A4 n4 c4) beg fin) := by
    have h := heap_alloc_new (w.alloc (.cells #[.slice A0 n0 c0] 24)) (.cells #[.slice A1 n1 c1, .slice A2 n2 c2, .slice A3 n3 c3, .slice A4 n4 c4, .bool beg, .bool fin] 28)
    rw [World.size_alloc] at h
    rw [← hW]; exact h
  clear hW
  by_cases h0 : len < 0
  · have d1 : decide (len < 0) = true := decide_eq_true h0
    have HF0 : Hid (ls = []) := by rw [Hid, ← HLS.out, backF, if_pos (.inl h0)]
    clear h0
    go_wp2_with fail
    go_ret
    exact ⟨⟨_, rfl, by rw [HF0.out]; exact (OwnL.nil _ 0).rd⟩, HBW.out⟩
  have d1 : decide (len < 0) = false := decide_eq_false h0
  by_cases h1 : 24 < len
  · have d2 : decide (24 < len) = true := decide_eq_true h1
    have HF0 : Hid (ls = []) := by rw [Hid, ← HLS.out, backF, if_pos (.inr h1)]
    clear h0 h1
    go_wp2_with fail
    go_ret
    exact ⟨⟨_, rfl, by rw [HF0.out]; exact (OwnL.nil _ 0).rd⟩, HBW.out⟩
  have d2 : decide (24 < len) = false := decide_eq_false h1
  obtain ⟨k, rfl⟩ : ∃ k : Nat, len = (k : Int) := ⟨len.toNat, by omega⟩
  have hk : k ≤ 24 := by omega
  have HF0 : Hid (ls = fromL I R wl k []) := by rw [Hid, ← HLS.out, backF, if_neg (by omega), Int.toNat_natCast]
  have HFA : Hid (FrArg W I R wl A0 n0 c0 A1 n1 c1 A2 n2 c2 A3 n3 c3 A4 n4 c4 beg fin Aw nw cw) := ⟨HV.out.below HBW.out, HRR.out.below HBW.out, HVW.out.below HBW.out, HR0.out.ok, HR0.out.nd, HIN.out, by have := HII.out; rw [HIN.out] at this; omega⟩
  have HCF : Hid (([] : List (List Int)).length + cF n0 k ≤ 1000000) := by
    have := HFEW.out (by omega) (by omega)
    rw [HIN.out, Int.toNat_natCast] at this
    rw [Hid, List.length_nil]; omega
  have y0 := HP.out.cell
  have y1 := HP.out.lt
  obtain ⟨z0, z1, z2, z3, z4, z5⟩ := HQ.out.cells
  have zl := HQ.out.lt
  clear h0 h1
  go_wp2_with fail
  clear y0 y1 z0 z1 z2 z3 z4 z5 zl d1 d2
  refine (from_any HFA k hk k [] (.slice none 0 0) W (.slice none 0 0) [] (by simp) (fun x hx => (nomatch hx)) (World.ownsRow_nil _ _ _ _) (Below.refl _ _) (OwnL.nil _ _) HCF.out).mono ?_
  rintro e w1 ⟨⟨v1, rfl, hl⟩, hg⟩
  have HL1 : Hid (OwnL w1 W.heap.size v1 ls) := by rw [Hid, HF0.out]; exact hl
  have HB1 : Hid (Below w.heap.size w w1) := bchain HBW.out hg.1
  obtain ⟨A7, n7, c7, rfl⟩ := ownL_formN HL1.out
  clear hl hg
  go_wp2_with fail
  go_ret
  exact ⟨⟨_, rfl, HL1.out.rd⟩, HB1.out⟩
end Go.Proofs.Ytdijlakeonionaa
