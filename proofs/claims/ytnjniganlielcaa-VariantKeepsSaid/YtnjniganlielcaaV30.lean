/-
  The walk of VariantBack.
-/
import Derived.Test.YtnjniganlielcaaV29
import Derived.Test.YtnjniganlielcaaVP3
namespace Go.Proofs.Ytnjniganlielcaa
open Go.ChangeShapes Go.WideShapes Go.ChangeAt Go.RowKit
theorem fit_good {P : List PE} (h : Fit P) (hc : chkK (pk P) = 0) : GoodK (pk P) := by
  refine (goodK_chk h.up ?_).1 hc
  intro e he
  obtain ⟨p, hp, rfl⟩ := List.mem_map.1 he
  exact h.pos p hp
theorem setP_len (P : List PE) (id m : Int) : (setP P id m).length = P.length := by simp [setP]
theorem setP_le {P : List PE} (h : P.length ≤ 100000) (id m : Int) : (setP P id m).length ≤ 100000 := by rw [setP_len]; exact h
theorem setP_sm {P : List PE} (h : ∀ p ∈ P, SmP p) (id m : Int) : ∀ p ∈ setP P id m, SmP p := by
  intro p hp
  obtain ⟨q, hq, rfl⟩ := List.mem_map.1 hp
  have := h q hq
  split
  · exact ⟨this.n, this.a⟩
  · exact this
set_option maxHeartbeats 4000000 in
set_option maxRecDepth 100000 in
theorem back_walk (v : Value) (P : List PE) (id tt : Int) (w : World) (hv : RdP w v P) (hrb : ∀ p ∈ P, RbP p) :
    Calls Try.prog 9 #[v, .int .i64 id, .int .i64 tt] w fun e w' => e = .returned (.bool true) ∧ Below w.heap.size w w' := by
  have HV := Lib.hid hv
  have HRB := Lib.hid hrb
  obtain ⟨A, n, c, rfl, hn⟩ := hv.opn
  have HN := Lib.hid hn
  have HB0 : Hid (Below w.heap.size w w) := Below.refl _ _
  clear hv hrb hn
  go_enter Try.func9, Try.ntmps9
  go_wp2_with fail
  refine (some_any _ P _ HV.out HRB.out).mono ?_
  rintro e w1 ⟨rfl, hb⟩
  have HBw1 := Lib.hid (bchain HB0.out hb)
  have HXw1 := Lib.hid hb
  clear hb
  cases hs : someB P
  · skip
    go_wp2_with fail
    refine (awake_any _).mono ?_
    rintro e wz ⟨rfl, hbz⟩
    have HBZ := Lib.hid (bchain HBw1.out hbz)
    clear hbz
    go_wp2_with fail
    go_ret
    exact ⟨rfl, HBZ.out⟩
  have HF := Lib.hid (someB_fit hs)
  have HLEN : Hid (P.length ≤ 100000) := by have := HF.out.len; rw [Hid]; omega
  have HSM : Hid (∀ p ∈ P, SmP p) := HF.out.sm
  have HUP : Hid (UpK (pk P)) := HF.out.up
  have HSS := Lib.hid (sm_senses HSM.out)
  clear hs
  go_wp2_with fail
  refine (copy_any _ P _ (HV.out.below HBw1.out) HLEN.out HSM.out).mono ?_
  rintro e w2 ⟨⟨vw2, rfl, hr⟩, hb⟩
  have HBw2 := Lib.hid (bchain HBw1.out hb)
  have HXw2 := Lib.hid hb
  have Rw2 := Lib.hid hr
  obtain ⟨Aw2, nw2, cw2, rfl, hn⟩ := hr.opn
  clear hr hb hn
  go_wp2_with fail
  refine (check_p Rw2.out HLEN.out).mono ?_
  rintro e w3 ⟨rfl, hb⟩
  have HBw3 := Lib.hid (bchain HBw2.out hb)
  have HXw3 := Lib.hid hb
  clear hb
  by_cases hc : chkK (pk P) = 0
  rotate_left
  · have hb0 : (chkK (pk P) != 0) = true := by simp [hc]
    go_wp2_with fail
    refine (awake_any _).mono ?_
    rintro e wz ⟨rfl, hbz⟩
    have HBZ := Lib.hid (bchain HBw3.out hbz)
    clear hbz
    go_wp2_with fail
    go_ret
    exact ⟨rfl, HBZ.out⟩
  have hb0 : (chkK (pk P) != 0) = false := by simp [hc]
  have HG := Lib.hid (fit_good HF.out hc)
  clear hc
  go_wp2_with fail
  clear hb0
  refine (copy_any _ P _ (HV.out.below HBw3.out) HLEN.out HSM.out).mono ?_
  rintro e w4 ⟨⟨vw4, rfl, hr⟩, hb⟩
  have HBw4 := Lib.hid (bchain HBw3.out hb)
  have HXw4 := Lib.hid hb
  have Rw4 := Lib.hid hr
  obtain ⟨Aw4, nw4, cw4, rfl, hn⟩ := hr.opn
  clear hr hb hn
  go_wp2_with fail
  refine (main_p id Rw4.out HLEN.out).mono ?_
  rintro e w5 ⟨rfl, hb⟩
  have HBw5 := Lib.hid (bchain HBw4.out hb)
  have HXw5 := Lib.hid hb
  clear hb
  by_cases hm : mainK (pk P) id = id
  rotate_left
  · have hb0 : (mainK (pk P) id != id) = true := by simp [hm]
    go_wp2_with fail
    refine (awake_any _).mono ?_
    rintro e wz ⟨rfl, hbz⟩
    have HBZ := Lib.hid (bchain HBw5.out hbz)
    clear hbz
    go_wp2_with fail
    go_ret
    exact ⟨rfl, HBZ.out⟩
  have hb0 : (mainK (pk P) id != id) = false := by simp [hm]
  have HM := Lib.hid hm
  clear hm
  go_wp2_with fail
  clear hb0
  refine (copy_any _ P _ (HV.out.below HBw5.out) HLEN.out HSM.out).mono ?_
  rintro e w6 ⟨⟨vw6, rfl, hr⟩, hb⟩
  have HBw6 := Lib.hid (bchain HBw5.out hb)
  have HXw6 := Lib.hid hb
  have Rw6 := Lib.hid hr
  obtain ⟨Aw6, nw6, cw6, rfl, hn⟩ := hr.opn
  clear hr hb hn
  go_wp2_with fail
  refine (senses_any _ P id _ Rw6.out HLEN.out HSS.out).mono ?_
  rintro e w7 ⟨⟨vw7, rfl, hr⟩, hb⟩
  have HBw7 := Lib.hid (bchain HBw6.out hb)
  have HXw7 := Lib.hid hb
  have Rw7 := Lib.hid hr
  obtain ⟨Aw7, nw7, cw7, rfl, _, _, HNw7, HRw7⟩ := hr.op
  clear hr hb
  by_cases hz : nw7 = 0
  · subst hz
    go_wp2_with fail
    refine (awake_any _).mono ?_
    rintro e wz ⟨rfl, hbz⟩
    have HBZ := Lib.hid (bchain HBw7.out hbz)
    clear hbz
    go_wp2_with fail
    go_ret
    exact ⟨rfl, HBZ.out⟩
  have hb0 : ((nw7 : Int) == 0) = false := by simp [hz]
  have HSN : Hid (sensesP P id ≠ []) := fun h => hz (by rw [← HNw7.out, h]; rfl)
  go_wp2_with fail
  clear hb0 hz
  refine (copy_any _ P _ (HV.out.below HBw7.out) HLEN.out HSM.out).mono ?_
  rintro e w8 ⟨⟨vw8, rfl, hr⟩, hb⟩
  have HBw8 := Lib.hid (bchain HBw7.out hb)
  have HXw8 := Lib.hid hb
  have Rw8 := Lib.hid hr
  obtain ⟨Aw8, nw8, cw8, rfl, hn⟩ := hr.opn
  clear hr hb hn
  go_wp2_with fail
  refine (join_p id tt Rw8.out HLEN.out).mono ?_
  rintro e w9 ⟨⟨vw9, rfl, hr⟩, hb⟩
  have HBw9 := Lib.hid (bchain HBw8.out hb)
  have HXw9 := Lib.hid hb
  have Rw9 := Lib.hid hr
  obtain ⟨Aw9, nw9, cw9, rfl, hn⟩ := hr.opn
  have HNw9 := Lib.hid hn
  clear hr hb hn
  by_cases hj : joinK (pk P) id tt = 0
  · have HJ := Lib.hid hj
    have hb0 : (joinK (pk P) id tt != 0) = false := by simp [hj]
    have RS : Hid (RdP w9 (.slice Aw9 nw9 cw9) (setP P id tt)) := by have := Rw9.out; rwa [joinP, if_pos hj] at this
    clear hj
    go_wp2_with fail
    clear hb0
    refine (copy_any _ _ _ (RS.out) (setP_le HLEN.out id tt) (setP_sm HSM.out id tt)).mono ?_
    rintro e w10 ⟨⟨vw10, rfl, hr⟩, hb⟩
    have HBw10 := Lib.hid (bchain HBw9.out hb)
    have HXw10 := Lib.hid hb
    have Rw10 := Lib.hid hr
    obtain ⟨Aw10, nw10, cw10, rfl, hn⟩ := hr.opn
    clear hr hb hn
    go_wp2_with fail
    refine (part_p id Rw10.out (setP_le HLEN.out id tt)).mono ?_
    rintro e w11 ⟨⟨vw11, rfl, hr⟩, hb⟩
    have HBw11 := Lib.hid (bchain HBw10.out hb)
    have HXw11 := Lib.hid hb
    have Rw11 := Lib.hid hr
    obtain ⟨Aw11, nw11, cw11, rfl, hn⟩ := hr.opn
    have HNw11 := Lib.hid hn
    clear hr hb hn
    have hback := back HG.out HM.out HSN.out HJ.out
    have hb1 : (partK (pk (setP P id tt)) id == 0) = true := by rw [hback.1]; rfl
    have RP : Hid (RdP w11 (.slice Aw11 nw11 cw11) P) := by have := Rw11.out; rwa [partP, if_pos hback.1, hback.2] at this
    clear hback
    go_wp2_with fail
    clear hb1
    refine (same_any _ _ _ _ _ RP.out (HV.out.below HBw11.out)).mono ?_
    rintro e w12 ⟨rfl, hb⟩
    have HBw12 := Lib.hid (bchain HBw11.out hb)
    have HXw12 := Lib.hid hb
    clear hb
    rw [show decide (P = P) = true by simp]
    go_wp2_with fail
    refine (awake_any _).mono ?_
    rintro e wz ⟨rfl, hbz⟩
    have HBZ := Lib.hid (bchain HBw12.out hbz)
    clear hbz
    go_wp2_with fail
    go_ret
    exact ⟨rfl, HBZ.out⟩
  · have hn0 : nw9 = 0 := by
      have := HNw9.out
      rw [joinP, if_neg hj] at this
      exact this.symm
    subst hn0
    rcases joinK_err (pk P) id tt with h9 | h9 | h9
    · exact absurd h9 hj
    · rw [h9]
      go_wp2_with fail
      refine (awake_any _).mono ?_
      rintro e wz ⟨rfl, hbz⟩
      have HBZ := Lib.hid (bchain HBw9.out hbz)
      clear hbz
      go_wp2_with fail
      go_ret
      exact ⟨rfl, HBZ.out⟩
    · rw [h9]
      go_wp2_with fail
      refine (awake_any _).mono ?_
      rintro e wz ⟨rfl, hbz⟩
      have HBZ := Lib.hid (bchain HBw9.out hbz)
      clear hbz
      go_wp2_with fail
      go_ret
      exact ⟨rfl, HBZ.out⟩
end Go.Proofs.Ytnjniganlielcaa
