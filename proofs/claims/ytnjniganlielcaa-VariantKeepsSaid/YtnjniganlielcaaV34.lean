/-
  The walk of VariantKeeps.
-/
import Derived.Test.YtnjniganlielcaaV33
namespace Go.Proofs.Ytnjniganlielcaa
open Go.ChangeShapes Go.WideShapes Go.ChangeAt Go.RowKit
set_option maxHeartbeats 4000000 in
set_option maxRecDepth 100000 in
theorem keeps_walk (v : Value) (P : List PE) (id tt : Int) (w : World) (hv : RdP w v P) (hrb : ∀ p ∈ P, RbP p) :
    Calls Try.prog 7 #[v, .int .i64 id, .int .i64 tt] w fun e w' => e = .returned (.bool true) ∧ Below w.heap.size w w' := by
  have HV := Lib.hid hv
  have HRB := Lib.hid hrb
  obtain ⟨A, n, c, rfl, hn⟩ := hv.opn
  have HN := Lib.hid hn
  have HB0 : Hid (Below w.heap.size w w) := Below.refl _ _
  clear hv hrb hn
  go_enter Try.func7, Try.ntmps7
  go_wp2_with fail
  refine (some_any _ P _ HV.out HRB.out).mono ?_
  rintro e w1 ⟨rfl, hb⟩
  have HBw1 := Lib.hid (bchain HB0.out hb)
  have HXw1 := Lib.hid hb
  clear hb
  cases hs : someB P
  · skip
    go_wp2_with fail
    refine (awake_any _).mono ?_
    rintro e wz ⟨rfl, hbz⟩
    have HBZ := Lib.hid (bchain HBw1.out hbz)
    clear hbz
    go_wp2_with fail
    go_ret
    exact ⟨rfl, HBZ.out⟩
  have HF := Lib.hid (someB_fit hs)
  have HLEN : Hid (P.length ≤ 100000) := by have := HF.out.len; rw [Hid]; omega
  have HSM : Hid (∀ p ∈ P, SmP p) := HF.out.sm
  have HUP : Hid (UpK (pk P)) := HF.out.up
  have HSS := Lib.hid (sm_senses HSM.out)
  clear hs
  go_wp2_with fail
  refine (copy_any _ P _ (HV.out.below HBw1.out) HLEN.out HSM.out).mono ?_
  rintro e w2 ⟨⟨vw2, rfl, hr⟩, hb⟩
  have HBw2 := Lib.hid (bchain HBw1.out hb)
  have HXw2 := Lib.hid hb
  have Rw2 := Lib.hid hr
  obtain ⟨Aw2, nw2, cw2, rfl, hn⟩ := hr.opn
  clear hr hb hn
  go_wp2_with fail
  refine (check_p Rw2.out HLEN.out).mono ?_
  rintro e w3 ⟨rfl, hb⟩
  have HBw3 := Lib.hid (bchain HBw2.out hb)
  have HXw3 := Lib.hid hb
  clear hb
  by_cases hc : chkK (pk P) = 0
  rotate_left
  · have hb0 : (chkK (pk P) != 0) = true := by simp [hc]
    go_wp2_with fail
    refine (awake_any _).mono ?_
    rintro e wz ⟨rfl, hbz⟩
    have HBZ := Lib.hid (bchain HBw3.out hbz)
    clear hbz
    go_wp2_with fail
    go_ret
    exact ⟨rfl, HBZ.out⟩
  have hb0 : (chkK (pk P) != 0) = false := by simp [hc]
  have HG := Lib.hid (fit_good HF.out hc)
  clear hc
  go_wp2_with fail
  clear hb0
  refine (copy_any _ P _ (HV.out.below HBw3.out) HLEN.out HSM.out).mono ?_
  rintro e w4 ⟨⟨vw4, rfl, hr⟩, hb⟩
  have HBw4 := Lib.hid (bchain HBw3.out hb)
  have HXw4 := Lib.hid hb
  have Rw4 := Lib.hid hr
  obtain ⟨Aw4, nw4, cw4, rfl, hn⟩ := hr.opn
  clear hr hb hn
  go_wp2_with fail
  refine (join_p id tt Rw4.out HLEN.out).mono ?_
  rintro e w5 ⟨⟨vw5, rfl, hr⟩, hb⟩
  have HBw5 := Lib.hid (bchain HBw4.out hb)
  have HXw5 := Lib.hid hb
  have Rw5 := Lib.hid hr
  obtain ⟨Aw5, nw5, cw5, rfl, hn⟩ := hr.opn
  have HNw5 := Lib.hid hn
  clear hr hb hn
  by_cases hj : joinK (pk P) id tt = 0
  · have hb0 : (joinK (pk P) id tt == 0) = true := by simp [hj]
    have RS : Hid (RdP w5 (.slice Aw5 nw5 cw5) (setP P id tt)) := by have := Rw5.out; rwa [joinP, if_pos hj] at this
    have HGJ := Lib.hid (good_join HG.out hj)
    clear hj
    go_wp2_with fail
    clear hb0
    refine (copy_any _ _ _ (RS.out) (setP_le HLEN.out id tt) (setP_sm HSM.out id tt)).mono ?_
    rintro e w6 ⟨⟨vw6, rfl, hr⟩, hb⟩
    have HBw6 := Lib.hid (bchain HBw5.out hb)
    have HXw6 := Lib.hid hb
    have Rw6 := Lib.hid hr
    obtain ⟨Aw6, nw6, cw6, rfl, hn⟩ := hr.opn
    clear hr hb hn
    go_wp2_with fail
    refine (check_p Rw6.out (setP_le HLEN.out id tt)).mono ?_
    rintro e w7 ⟨rfl, hb⟩
    have HBw7 := Lib.hid (bchain HBw6.out hb)
    have HXw7 := Lib.hid hb
    clear hb
    have hb0 : (chkK (pk (setP P id tt)) != 0) = false := by rw [pk_set, (goodK_chk HGJ.out.1.up HGJ.out.1.pos).2 HGJ.out.1]; rfl
    go_wp2_with fail
    clear hb0
    refine (other_set _ _ P id tt _ (HV.out.below HBw7.out) (RS.out.below (bchain HXw6.out HXw7.out)) HLEN.out HSM.out).mono ?_
    rintro e w8 ⟨rfl, hb⟩
    have HBw8 := Lib.hid (bchain HBw7.out hb)
    have HXw8 := Lib.hid hb
    clear hb
    go_wp2_with fail
    have h58 : Hid (Below w5.heap.size w5 w8) := bchain (bchain HXw6.out HXw7.out) HXw8.out
    refine (copy_any _ _ _ (RS.out.below h58.out) (setP_le HLEN.out id tt) (setP_sm HSM.out id tt)).mono ?_
    rintro e w9 ⟨⟨vw9, rfl, hr⟩, hb⟩
    have HBw9 := Lib.hid (bchain HBw8.out hb)
    have HXw9 := Lib.hid hb
    have Rw9 := Lib.hid hr
    obtain ⟨Aw9, nw9, cw9, rfl, hn⟩ := hr.opn
    clear hr hb hn
    go_wp2_with fail
    refine (main_p id Rw9.out (setP_le HLEN.out id tt)).mono ?_
    rintro e w10 ⟨rfl, hb⟩
    have HBw10 := Lib.hid (bchain HBw9.out hb)
    have HXw10 := Lib.hid hb
    clear hb
    go_wp2_with fail
    refine (copy_any _ P _ (HV.out.below HBw10.out) HLEN.out HSM.out).mono ?_
    rintro e w11 ⟨⟨vw11, rfl, hr⟩, hb⟩
    have HBw11 := Lib.hid (bchain HBw10.out hb)
    have HXw11 := Lib.hid hb
    have Rw11 := Lib.hid hr
    obtain ⟨Aw11, nw11, cw11, rfl, hn⟩ := hr.opn
    clear hr hb hn
    go_wp2_with fail
    refine (main_p tt Rw11.out HLEN.out).mono ?_
    rintro e w12 ⟨rfl, hb⟩
    have HBw12 := Lib.hid (bchain HBw11.out hb)
    have HXw12 := Lib.hid hb
    clear hb
    have hb0 : (mainK (pk (setP P id tt)) id != mainK (pk P) tt) = false := by rw [pk_set, HGJ.out.2.1]; simp
    go_wp2_with fail
    clear hb0
    have h512 : Hid (Below w5.heap.size w5 w12) := bchain (bchain (bchain (bchain h58.out HXw9.out) HXw10.out) HXw11.out) HXw12.out
    refine (copy_any _ _ _ (RS.out.below h512.out) (setP_le HLEN.out id tt) (setP_sm HSM.out id tt)).mono ?_
    rintro e w13 ⟨⟨vw13, rfl, hr⟩, hb⟩
    have HBw13 := Lib.hid (bchain HBw12.out hb)
    have HXw13 := Lib.hid hb
    have Rw13 := Lib.hid hr
    obtain ⟨Aw13, nw13, cw13, rfl, hn⟩ := hr.opn
    clear hr hb hn
    go_wp2_with fail
    refine (main_p id Rw13.out (setP_le HLEN.out id tt)).mono ?_
    rintro e w14 ⟨rfl, hb⟩
    have HBw14 := Lib.hid (bchain HBw13.out hb)
    have HXw14 := Lib.hid hb
    clear hb
    have hb0 : (mainK (pk (setP P id tt)) id == id) = false := by rw [pk_set]; exact beq_eq_false_iff_ne.2 HGJ.out.2.2
    go_wp2_with fail
    clear hb0
    refine (copy_any _ P _ (HV.out.below HBw14.out) HLEN.out HSM.out).mono ?_
    rintro e w20 ⟨⟨vw20, rfl, hr⟩, hb⟩
    have HBw20 := Lib.hid (bchain HBw14.out hb)
    have HXw20 := Lib.hid hb
    have Rw20 := Lib.hid hr
    obtain ⟨Aw20, nw20, cw20, rfl, hn⟩ := hr.opn
    clear hr hb hn
    go_wp2_with fail
    refine (part_p id Rw20.out HLEN.out).mono ?_
    rintro e w21 ⟨⟨vw21, rfl, hr⟩, hb⟩
    have HBw21 := Lib.hid (bchain HBw20.out hb)
    have HXw21 := Lib.hid hb
    have Rw21 := Lib.hid hr
    obtain ⟨Aw21, nw21, cw21, rfl, hn⟩ := hr.opn
    have HNw21 := Lib.hid hn
    clear hr hb hn
    by_cases hp : partK (pk P) id = 0
    rotate_left
    · have hb0 : (partK (pk P) id != 0) = true := by simp [hp]
      go_wp2_with fail
      refine (awake_any _).mono ?_
      rintro e wz ⟨rfl, hbz⟩
      have HBZ := Lib.hid (bchain HBw21.out hbz)
      clear hbz
      go_wp2_with fail
      go_ret
      exact ⟨rfl, HBZ.out⟩
    have hb0 : (partK (pk P) id != 0) = false := by simp [hp]
    have RP : Hid (RdP w21 (.slice Aw21 nw21 cw21) (setP P id 0)) := by have := Rw21.out; rwa [partP, if_pos hp] at this
    have HGP := Lib.hid (good_part HG.out hp)
    clear hp
    go_wp2_with fail
    clear hb0
    refine (copy_any _ _ _ (RP.out) (setP_le HLEN.out id 0) (setP_sm HSM.out id 0)).mono ?_
    rintro e w22 ⟨⟨vw22, rfl, hr⟩, hb⟩
    have HBw22 := Lib.hid (bchain HBw21.out hb)
    have HXw22 := Lib.hid hb
    have Rw22 := Lib.hid hr
    obtain ⟨Aw22, nw22, cw22, rfl, hn⟩ := hr.opn
    clear hr hb hn
    go_wp2_with fail
    refine (check_p Rw22.out (setP_le HLEN.out id 0)).mono ?_
    rintro e w23 ⟨rfl, hb⟩
    have HBw23 := Lib.hid (bchain HBw22.out hb)
    have HXw23 := Lib.hid hb
    clear hb
    have hb0 : (chkK (pk (setP P id 0)) == 0) = true := by rw [pk_set, (goodK_chk HGP.out.1.up HGP.out.1.pos).2 HGP.out.1]; rfl
    go_wp2_with fail
    clear hb0
    refine (other_set _ _ P id 0 _ (HV.out.below HBw23.out) (RP.out.below (bchain HXw22.out HXw23.out)) HLEN.out HSM.out).mono ?_
    rintro e w24 ⟨rfl, hb⟩
    have HBw24 := Lib.hid (bchain HBw23.out hb)
    have HXw24 := Lib.hid hb
    clear hb
    go_wp2_with fail
    refine (copy_any _ _ _ (RP.out.below (bchain (bchain HXw22.out HXw23.out) HXw24.out)) (setP_le HLEN.out id 0) (setP_sm HSM.out id 0)).mono ?_
    rintro e w25 ⟨⟨vw25, rfl, hr⟩, hb⟩
    have HBw25 := Lib.hid (bchain HBw24.out hb)
    have HXw25 := Lib.hid hb
    have Rw25 := Lib.hid hr
    obtain ⟨Aw25, nw25, cw25, rfl, hn⟩ := hr.opn
    clear hr hb hn
    go_wp2_with fail
    refine (main_p id Rw25.out (setP_le HLEN.out id 0)).mono ?_
    rintro e w26 ⟨rfl, hb⟩
    have HBw26 := Lib.hid (bchain HBw25.out hb)
    have HXw26 := Lib.hid hb
    clear hb
    have hb0 : (mainK (pk (setP P id 0)) id == id) = true := by rw [pk_set, HGP.out.2]; simp
    go_wp2_with fail
    refine (awake_any _).mono ?_
    rintro e wz ⟨rfl, hbz⟩
    have HBZ := Lib.hid (bchain HBw26.out hbz)
    clear hbz
    go_wp2_with fail
    go_ret
    exact ⟨rfl, HBZ.out⟩
  · have hb0 : (joinK (pk P) id tt == 0) = false := by simp [hj]
    go_wp2_with fail
    clear hb0
    refine (copy_any _ P _ (HV.out.below HBw5.out) HLEN.out HSM.out).mono ?_
    rintro e w20 ⟨⟨vw20, rfl, hr⟩, hb⟩
    have HBw20 := Lib.hid (bchain HBw5.out hb)
    have HXw20 := Lib.hid hb
    have Rw20 := Lib.hid hr
    obtain ⟨Aw20, nw20, cw20, rfl, hn⟩ := hr.opn
    clear hr hb hn
    go_wp2_with fail
    refine (part_p id Rw20.out HLEN.out).mono ?_
    rintro e w21 ⟨⟨vw21, rfl, hr⟩, hb⟩
    have HBw21 := Lib.hid (bchain HBw20.out hb)
    have HXw21 := Lib.hid hb
    have Rw21 := Lib.hid hr
    obtain ⟨Aw21, nw21, cw21, rfl, hn⟩ := hr.opn
    have HNw21 := Lib.hid hn
    clear hr hb hn
    by_cases hp : partK (pk P) id = 0
    rotate_left
    · have hb0 : (partK (pk P) id != 0) = true := by simp [hp]
      go_wp2_with fail
      refine (awake_any _).mono ?_
      rintro e wz ⟨rfl, hbz⟩
      have HBZ := Lib.hid (bchain HBw21.out hbz)
      clear hbz
      go_wp2_with fail
      go_ret
      exact ⟨rfl, HBZ.out⟩
    have hb0 : (partK (pk P) id != 0) = false := by simp [hp]
    have RP : Hid (RdP w21 (.slice Aw21 nw21 cw21) (setP P id 0)) := by have := Rw21.out; rwa [partP, if_pos hp] at this
    have HGP := Lib.hid (good_part HG.out hp)
    clear hp
    go_wp2_with fail
    clear hb0
    refine (copy_any _ _ _ (RP.out) (setP_le HLEN.out id 0) (setP_sm HSM.out id 0)).mono ?_
    rintro e w22 ⟨⟨vw22, rfl, hr⟩, hb⟩
    have HBw22 := Lib.hid (bchain HBw21.out hb)
    have HXw22 := Lib.hid hb
    have Rw22 := Lib.hid hr
    obtain ⟨Aw22, nw22, cw22, rfl, hn⟩ := hr.opn
    clear hr hb hn
    go_wp2_with fail
    refine (check_p Rw22.out (setP_le HLEN.out id 0)).mono ?_
    rintro e w23 ⟨rfl, hb⟩
    have HBw23 := Lib.hid (bchain HBw22.out hb)
    have HXw23 := Lib.hid hb
    clear hb
    have hb0 : (chkK (pk (setP P id 0)) == 0) = true := by rw [pk_set, (goodK_chk HGP.out.1.up HGP.out.1.pos).2 HGP.out.1]; rfl
    go_wp2_with fail
    clear hb0
    refine (other_set _ _ P id 0 _ (HV.out.below HBw23.out) (RP.out.below (bchain HXw22.out HXw23.out)) HLEN.out HSM.out).mono ?_
    rintro e w24 ⟨rfl, hb⟩
    have HBw24 := Lib.hid (bchain HBw23.out hb)
    have HXw24 := Lib.hid hb
    clear hb
    go_wp2_with fail
    refine (copy_any _ _ _ (RP.out.below (bchain (bchain HXw22.out HXw23.out) HXw24.out)) (setP_le HLEN.out id 0) (setP_sm HSM.out id 0)).mono ?_
    rintro e w25 ⟨⟨vw25, rfl, hr⟩, hb⟩
    have HBw25 := Lib.hid (bchain HBw24.out hb)
    have HXw25 := Lib.hid hb
    have Rw25 := Lib.hid hr
    obtain ⟨Aw25, nw25, cw25, rfl, hn⟩ := hr.opn
    clear hr hb hn
    go_wp2_with fail
    refine (main_p id Rw25.out (setP_le HLEN.out id 0)).mono ?_
    rintro e w26 ⟨rfl, hb⟩
    have HBw26 := Lib.hid (bchain HBw25.out hb)
    have HXw26 := Lib.hid hb
    clear hb
    have hb0 : (mainK (pk (setP P id 0)) id == id) = true := by rw [pk_set, HGP.out.2]; simp
    go_wp2_with fail
    refine (awake_any _).mono ?_
    rintro e wz ⟨rfl, hbz⟩
    have HBZ := Lib.hid (bchain HBw26.out hbz)
    clear hbz
    go_wp2_with fail
    go_ret
    exact ⟨rfl, HBZ.out⟩
end Go.Proofs.Ytnjniganlielcaa
