/-
  The walks of VariantChecks, VariantMains.
-/
import Derived.Test.YtnjniganlielcaaV27
namespace Go.Proofs.Ytnjniganlielcaa
open Go.ChangeShapes Go.WideShapes Go.ChangeAt Go.RowKit
theorem below_drew1 (w : World) : Below w.heap.size w w.drew := (Below.refl _ _).drew
set_option maxHeartbeats 2000000 in
set_option maxRecDepth 100000 in
theorem checks_walk (v : Value) (P : List PE) (w : World) (hv : RdP w v P) (hrb : ∀ p ∈ P, RbP p) :
    Calls Try.prog 3 #[v] w fun e w' => e = .returned (.bool true) ∧ Below w.heap.size w w' := by
  have HV := Lib.hid hv
  have HRB := Lib.hid hrb
  obtain ⟨A, n, c, rfl, hn⟩ := hv.opn
  have HN := Lib.hid hn
  have HB0 : Hid (Below w.heap.size w w) := Below.refl _ _
  clear hv hrb hn
  go_enter Try.func3, Try.ntmps3
  go_wp2_with fail
  refine (some_any _ P _ HV.out HRB.out).mono ?_
  rintro e w1 ⟨rfl, hb⟩
  have HBw1 := Lib.hid (bchain HB0.out hb)
  have HXw1 := Lib.hid hb
  clear hb
  cases hs : someB P
  · skip
    go_wp2_with fail
    refine (awake_any _).mono ?_
    rintro e wz ⟨rfl, hbz⟩
    have HBZ := Lib.hid (bchain HBw1.out hbz)
    clear hbz
    go_wp2_with fail
    go_ret
    exact ⟨rfl, HBZ.out⟩
  have HF := Lib.hid (someB_fit hs)
  have HLEN : Hid (P.length ≤ 100000) := by have := HF.out.len; rw [Hid]; omega
  have HSM : Hid (∀ p ∈ P, SmP p) := HF.out.sm
  have HUP : Hid (UpK (pk P)) := HF.out.up
  clear hs
  go_wp2_with fail
  refine (copy_any _ P _ (HV.out.below HBw1.out) HLEN.out HSM.out).mono ?_
  rintro e w2 ⟨⟨vw2, rfl, hr⟩, hb⟩
  have HBw2 := Lib.hid (bchain HBw1.out hb)
  have HXw2 := Lib.hid hb
  have Rw2 := Lib.hid hr
  obtain ⟨Aw2, nw2, cw2, rfl, hn⟩ := hr.opn
  clear hr hb hn
  go_wp2_with fail
  refine (check_p Rw2.out HLEN.out).mono ?_
  rintro e w3 ⟨rfl, hb⟩
  have HBw3 := Lib.hid (bchain HBw2.out hb)
  have HXw3 := Lib.hid hb
  clear hb
  go_wp2_with fail
  refine (rcheck_p _ P _ (HV.out.below HBw3.out) HLEN.out).mono ?_
  rintro e w4 ⟨rfl, hb⟩
  have HBw4 := Lib.hid (bchain HBw3.out hb)
  have HXw4 := Lib.hid hb
  clear hb
  have hb : (chkK (pk P) == chkK (pk P)) = true := by simp
  go_wp2_with fail
  refine (awake_any _).mono ?_
  rintro e wz ⟨rfl, hbz⟩
  have HBZ := Lib.hid (bchain HBw4.out hbz)
  clear hbz
  go_wp2_with fail
  go_ret
  exact ⟨rfl, HBZ.out⟩
theorem rightFit {P : List PE} (h : rightB P = true) : someB P = true ∧ chkK (pk P) = 0 := by
  rw [rightB, Bool.and_eq_true] at h
  exact ⟨h.1, by simpa using h.2⟩
set_option maxHeartbeats 4000000 in
set_option maxRecDepth 100000 in
theorem mains_walk (v : Value) (P : List PE) (id : Int) (w : World) (hv : RdP w v P) (hrb : ∀ p ∈ P, RbP p) :
    Calls Try.prog 4 #[v, .int .i64 id] w fun e w' => e = .returned (.bool true) ∧ Below w.heap.size w w' := by
  have HV := Lib.hid hv
  have HRB := Lib.hid hrb
  obtain ⟨A, n, c, rfl, hn⟩ := hv.opn
  have HN := Lib.hid hn
  have HB0 : Hid (Below w.heap.size w w) := Below.refl _ _
  clear hv hrb hn
  go_enter Try.func4, Try.ntmps4
  go_wp2_with fail
  refine (right_any _ P _ HV.out HRB.out).mono ?_
  rintro e w1 ⟨rfl, hb⟩
  have HBw1 := Lib.hid (bchain HB0.out hb)
  have HXw1 := Lib.hid hb
  clear hb
  cases hs : rightB P
  · skip
    go_wp2_with fail
    refine (awake_any _).mono ?_
    rintro e wz ⟨rfl, hbz⟩
    have HBZ := Lib.hid (bchain HBw1.out hbz)
    clear hbz
    go_wp2_with fail
    go_ret
    exact ⟨rfl, HBZ.out⟩
  have HF := Lib.hid (someB_fit (rightFit hs).1)
  have HLEN : Hid (P.length ≤ 100000) := by have := HF.out.len; rw [Hid]; omega
  have HSM : Hid (∀ p ∈ P, SmP p) := HF.out.sm
  have HUP : Hid (UpK (pk P)) := HF.out.up
  clear hs
  have HPO := Lib.hid HV.out.op
  go_wp2_with fail
  go_loopw [5] (fun i wr => ∃ k : Nat, k ≤ n ∧ i = .int .i64 k ∧ Hid (Below w.heap.size w wr)) (fun i _ => n - (intOf i).toNat)
  case atStart => exact ⟨0, Nat.zero_le _, rfl, HBw1.out⟩
  case round =>
    obtain ⟨k, hk, rfl, HBr⟩ := hrel
    obtain ⟨_, _, _, h0, hnc, hcm, _, HR⟩ := HPO.out
    cases h0
    by_cases hlt : k < n
    · obtain ⟨b, off, x, p, rfl, hbl, hd, HDE, c0, c1, c2, c3, c4, c5, c6, c7⟩ := (HR.out k hlt).below HBr.out
      generalize x.id = xid at c0
      go_wp2_with fail
      clear c0 c1 c2 c3 c4 c5 c6 c7
      refine (copy_any _ P _ (HV.out.below HBr.out) HLEN.out HSM.out).mono ?_
      rintro e w2 ⟨⟨vw2, rfl, hr⟩, hb⟩
      have HBw2 := Lib.hid (bchain HBr.out hb)
      have HXw2 := Lib.hid hb
      have Rw2 := Lib.hid hr
      obtain ⟨Aw2, nw2, cw2, rfl, hn⟩ := hr.opn
      clear hr hb hn
      go_wp2_with fail
      refine (main_p xid Rw2.out HLEN.out).mono ?_
      rintro e w3 ⟨rfl, hb⟩
      have HBw3 := Lib.hid (bchain HBw2.out hb)
      have HXw3 := Lib.hid hb
      clear hb
      go_wp2_with fail
      refine (rmain_p xid (HV.out.below HBw3.out) HLEN.out).mono ?_
      rintro e w4 ⟨rfl, hb⟩
      have HBw4 := Lib.hid (bchain HBw3.out hb)
      have HXw4 := Lib.hid hb
      clear hb
      have hb : (mainK (pk P) xid != mainK (pk P) xid) = false := by simp
      go_wp2_with fail
      refine (copy_any _ P _ (HV.out.below HBw4.out) HLEN.out HSM.out).mono ?_
      rintro e w5 ⟨⟨vw5, rfl, hr⟩, hb⟩
      have HBw5 := Lib.hid (bchain HBw4.out hb)
      have HXw5 := Lib.hid hb
      have Rw5 := Lib.hid hr
      obtain ⟨Aw5, nw5, cw5, rfl, hn⟩ := hr.opn
      clear hr hb hn
      go_wp2_with fail
      refine (all_p xid Rw5.out HLEN.out HUP.out).mono ?_
      rintro e w6 ⟨⟨vw6, rfl, hr⟩, hb⟩
      have HBw6 := Lib.hid (bchain HBw5.out hb)
      have HXw6 := Lib.hid hb
      have Rw6 := Lib.hid hr
      obtain ⟨Aw6, nw6, cw6, rfl, _, _, HNw6, HRw6⟩ := hr.op
      clear hr hb
      go_wp2_with fail
      refine (rall_p xid (HV.out.below HBw6.out) HLEN.out).mono ?_
      rintro e w7 ⟨⟨vw7, rfl, hr⟩, hb⟩
      have HBw7 := Lib.hid (bchain HBw6.out hb)
      have HXw7 := Lib.hid hb
      have Rw7 := Lib.hid hr
      obtain ⟨Aw7, nw7, cw7, rfl, _, _, HNw7, HRw7⟩ := hr.op
      clear hr hb
      go_wp2_with fail
      refine (rsame_b _ _ _ _ _ (Rw6.out.below HXw7.out) Rw7.out).mono ?_
      rintro e w8 ⟨rfl, hb⟩
      have HBw8 := Lib.hid (bchain HBw7.out hb)
      have HXw8 := Lib.hid hb
      clear hb
      rw [(sameB_iff _ _).2 rfl]
      go_wp2_with fail
      go_roundw
      case rel => exact ⟨k + 1, by omega, by go_num, HBw8.out⟩
      case measure => simp [intOf]; omega
    · go_wp2_with fail
      refine (copy_any _ P _ (HV.out.below HBr.out) HLEN.out HSM.out).mono ?_
      rintro e w2 ⟨⟨vw2, rfl, hr⟩, hb⟩
      have HBw2 := Lib.hid (bchain HBr.out hb)
      have HXw2 := Lib.hid hb
      have Rw2 := Lib.hid hr
      obtain ⟨Aw2, nw2, cw2, rfl, hn⟩ := hr.opn
      clear hr hb hn
      go_wp2_with fail
      refine (main_p id Rw2.out HLEN.out).mono ?_
      rintro e w3 ⟨rfl, hb⟩
      have HBw3 := Lib.hid (bchain HBw2.out hb)
      have HXw3 := Lib.hid hb
      clear hb
      go_wp2_with fail
      refine (rmain_p id (HV.out.below HBw3.out) HLEN.out).mono ?_
      rintro e w4 ⟨rfl, hb⟩
      have HBw4 := Lib.hid (bchain HBw3.out hb)
      have HXw4 := Lib.hid hb
      clear hb
      have hb : (mainK (pk P) id == mainK (pk P) id) = true := by simp
      go_wp2_with fail
      refine (copy_any _ P _ (HV.out.below HBw4.out) HLEN.out HSM.out).mono ?_
      rintro e w5 ⟨⟨vw5, rfl, hr⟩, hb⟩
      have HBw5 := Lib.hid (bchain HBw4.out hb)
      have HXw5 := Lib.hid hb
      have Rw5 := Lib.hid hr
      obtain ⟨Aw5, nw5, cw5, rfl, hn⟩ := hr.opn
      clear hr hb hn
      go_wp2_with fail
      refine (all_p id Rw5.out HLEN.out HUP.out).mono ?_
      rintro e w6 ⟨⟨vw6, rfl, hr⟩, hb⟩
      have HBw6 := Lib.hid (bchain HBw5.out hb)
      have HXw6 := Lib.hid hb
      have Rw6 := Lib.hid hr
      obtain ⟨Aw6, nw6, cw6, rfl, _, _, HNw6, HRw6⟩ := hr.op
      clear hr hb
      go_wp2_with fail
      refine (rall_p id (HV.out.below HBw6.out) HLEN.out).mono ?_
      rintro e w7 ⟨⟨vw7, rfl, hr⟩, hb⟩
      have HBw7 := Lib.hid (bchain HBw6.out hb)
      have HXw7 := Lib.hid hb
      have Rw7 := Lib.hid hr
      obtain ⟨Aw7, nw7, cw7, rfl, _, _, HNw7, HRw7⟩ := hr.op
      clear hr hb
      go_wp2_with fail
      refine (rsame_b _ _ _ _ _ (Rw6.out.below HXw7.out) Rw7.out).mono ?_
      rintro e w8 ⟨rfl, hb⟩
      have HBw8 := Lib.hid (bchain HBw7.out hb)
      have HXw8 := Lib.hid hb
      clear hb
      rw [(sameB_iff _ _).2 rfl]
      go_wp2_with fail
      refine (awake_any _).mono ?_
      rintro e wz ⟨rfl, hbz⟩
      have HBZ := Lib.hid (bchain HBw8.out hbz)
      clear hbz
      go_wp2_with fail
      go_ret
      exact ⟨rfl, HBZ.out⟩
end Go.Proofs.Ytnjniganlielcaa
