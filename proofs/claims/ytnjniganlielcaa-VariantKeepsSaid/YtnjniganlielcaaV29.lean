/-
  The walks of VariantSenses, VariantJoins.
-/
import Derived.Test.YtnjniganlielcaaV28
namespace Go.Proofs.Ytnjniganlielcaa
open Go.ChangeShapes Go.WideShapes Go.ChangeAt Go.RowKit
theorem sm_senses {P : List PE} (h : ∀ p ∈ P, SmP p) : ∀ p ∈ P, p.senses.length ≤ 100000 := fun p hp => by have := (h p hp).n; omega
set_option maxHeartbeats 4000000 in
set_option maxRecDepth 100000 in
theorem senses_walk (v : Value) (P : List PE) (id : Int) (w : World) (hv : RdP w v P) (hrb : ∀ p ∈ P, RbP p) :
    Calls Try.prog 5 #[v, .int .i64 id] w fun e w' => e = .returned (.bool true) ∧ Below w.heap.size w w' := by
  have HV := Lib.hid hv
  have HRB := Lib.hid hrb
  obtain ⟨A, n, c, rfl, hn⟩ := hv.opn
  have HN := Lib.hid hn
  have HB0 : Hid (Below w.heap.size w w) := Below.refl _ _
  clear hv hrb hn
  go_enter Try.func5, Try.ntmps5
  go_wp2_with fail
  refine (right_any _ P _ HV.out HRB.out).mono ?_
  rintro e w1 ⟨rfl, hb⟩
  have HBw1 := Lib.hid (bchain HB0.out hb)
  have HXw1 := Lib.hid hb
  clear hb
  cases hs : rightB P
  · skip
    go_wp2_with fail
    refine (awake_any _).mono ?_
    rintro e wz ⟨rfl, hbz⟩
    have HBZ := Lib.hid (bchain HBw1.out hbz)
    clear hbz
    go_wp2_with fail
    go_ret
    exact ⟨rfl, HBZ.out⟩
  have HF := Lib.hid (someB_fit (rightFit hs).1)
  have HLEN : Hid (P.length ≤ 100000) := by have := HF.out.len; rw [Hid]; omega
  have HSM : Hid (∀ p ∈ P, SmP p) := HF.out.sm
  have HUP : Hid (UpK (pk P)) := HF.out.up
  have HSS := Lib.hid (sm_senses HSM.out)
  clear hs
  go_wp2_with fail
  refine (copy_any _ P _ (HV.out.below HBw1.out) HLEN.out HSM.out).mono ?_
  rintro e w2 ⟨⟨vw2, rfl, hr⟩, hb⟩
  have HBw2 := Lib.hid (bchain HBw1.out hb)
  have HXw2 := Lib.hid hb
  have Rw2 := Lib.hid hr
  obtain ⟨Aw2, nw2, cw2, rfl, hn⟩ := hr.opn
  clear hr hb hn
  go_wp2_with fail
  refine (senses_any _ P id _ Rw2.out HLEN.out HSS.out).mono ?_
  rintro e w3 ⟨⟨vw3, rfl, hr⟩, hb⟩
  have HBw3 := Lib.hid (bchain HBw2.out hb)
  have HXw3 := Lib.hid hb
  have Rw3 := Lib.hid hr
  obtain ⟨Aw3, nw3, cw3, rfl, _, _, HNw3, HRw3⟩ := hr.op
  clear hr hb
  go_wp2_with fail
  refine (rsenses_any _ P id _ (HV.out.below HBw3.out) HLEN.out).mono ?_
  rintro e w4 ⟨⟨vw4, rfl, hr⟩, hb⟩
  have HBw4 := Lib.hid (bchain HBw3.out hb)
  have HXw4 := Lib.hid hb
  have Rw4 := Lib.hid hr
  obtain ⟨Aw4, nw4, cw4, rfl, _, _, HNw4, HRw4⟩ := hr.op
  clear hr hb
  have hnn : nw3 = nw4 := HNw3.out.symm.trans HNw4.out
  subst hnn
  have hb0 : ((nw3 : Int) != (nw3 : Int)) = false := by simp
  have HRA : Hid (∀ k, k < nw3 → SeAt w4 Aw3 (sensesP P id) k) := fun k hk => (HRw3.out k hk).below HXw4.out
  clear HRw3
  go_wp2_with fail
  go_loopw [7] (fun i wr => ∃ k : Nat, k ≤ nw3 ∧ i = .int .i64 k ∧ Hid (Below w4.heap.size w4 wr)) (fun i _ => nw3 - (intOf i).toNat)
  case atStart => exact ⟨0, Nat.zero_le _, rfl, Below.refl _ _⟩
  case round =>
    obtain ⟨k, hk, rfl, HB⟩ := hrel
    by_cases hlt : k < nw3
    · obtain ⟨b, off, x, rfl, hbl, hdr, e0, e1⟩ := (HRA.out k hlt).below HB.out
      obtain ⟨b', off', y, rfl, hbl', hdr', e0', e1'⟩ := (HRw4.out k hlt).below HB.out
      obtain rfl : x = y := (List.cons.inj (hdr.out.symm.trans hdr'.out)).1
      have hk0 : (0 : Int) ≤ (k : Int) := by omega
      have heq : ∀ W : World, (binOp .neq 41 (.agg #[.string x.g, .string x.d]) (.agg #[.string x.g, .string x.d])).run Try.prog W = .ok (.bool false) W := fun W => by rw [neqSe W x x]; simp
      have hgd := fun (W : World) x y xs ys => run_eqGuard_agg (P := Try.prog) W .neq 41 x y xs ys (by kernel_rfl)
      go_wp2_with fail
      go_quiet (fail)
      clear heq hgd
      go_wp2_with fail
      go_roundw
      case rel => exact ⟨k + 1, by omega, by go_num, by rw [Hid]; have := HB.out; repeat (first | assumption | exact Below.refl _ _ | refine Below.alloc ?_ (by first | omega | (simp; done) | (simp; omega)) _ | refine Below.drew ?_ | refine below_drewN ?_ _ | refine Below.setCell ?_ (by first | omega | (simp; done) | (simp; omega)) _)⟩
      case measure => simp [intOf]; omega
    · have HBr : Hid (Below w.heap.size w wr) := bchain HBw4.out HB.out
      go_wp2_with fail
      refine (awake_any _).mono ?_
      rintro e wz ⟨rfl, hbz⟩
      have HBZ := Lib.hid (bchain HBr.out hbz)
      clear hbz
      go_wp2_with fail
      go_ret
      exact ⟨rfl, HBZ.out⟩
set_option maxHeartbeats 4000000 in
set_option maxRecDepth 100000 in
theorem joins_walk (v : Value) (P : List PE) (id tt : Int) (w : World) (hv : RdP w v P) (hrb : ∀ p ∈ P, RbP p) :
    Calls Try.prog 6 #[v, .int .i64 id, .int .i64 tt] w fun e w' => e = .returned (.bool true) ∧ Below w.heap.size w w' := by
  have HV := Lib.hid hv
  have HRB := Lib.hid hrb
  obtain ⟨A, n, c, rfl, hn⟩ := hv.opn
  have HN := Lib.hid hn
  have HB0 : Hid (Below w.heap.size w w) := Below.refl _ _
  clear hv hrb hn
  go_enter Try.func6, Try.ntmps6
  go_wp2_with fail
  refine (right_any _ P _ HV.out HRB.out).mono ?_
  rintro e w1 ⟨rfl, hb⟩
  have HBw1 := Lib.hid (bchain HB0.out hb)
  have HXw1 := Lib.hid hb
  clear hb
  cases hs : rightB P
  · skip
    go_wp2_with fail
    refine (awake_any _).mono ?_
    rintro e wz ⟨rfl, hbz⟩
    have HBZ := Lib.hid (bchain HBw1.out hbz)
    clear hbz
    go_wp2_with fail
    go_ret
    exact ⟨rfl, HBZ.out⟩
  have HF := Lib.hid (someB_fit (rightFit hs).1)
  have HLEN : Hid (P.length ≤ 100000) := by have := HF.out.len; rw [Hid]; omega
  have HSM : Hid (∀ p ∈ P, SmP p) := HF.out.sm
  have HUP : Hid (UpK (pk P)) := HF.out.up
  clear hs
  go_wp2_with fail
  refine (copy_any _ P _ (HV.out.below HBw1.out) HLEN.out HSM.out).mono ?_
  rintro e w2 ⟨⟨vw2, rfl, hr⟩, hb⟩
  have HBw2 := Lib.hid (bchain HBw1.out hb)
  have HXw2 := Lib.hid hb
  have Rw2 := Lib.hid hr
  obtain ⟨Aw2, nw2, cw2, rfl, hn⟩ := hr.opn
  clear hr hb hn
  go_wp2_with fail
  refine (join_p id tt Rw2.out HLEN.out).mono ?_
  rintro e w3 ⟨⟨vw3, rfl, hr⟩, hb⟩
  have HBw3 := Lib.hid (bchain HBw2.out hb)
  have HXw3 := Lib.hid hb
  have Rw3 := Lib.hid hr
  obtain ⟨Aw3, nw3, cw3, rfl, hn⟩ := hr.opn
  have HNw3 := Lib.hid hn
  clear hr hb hn
  go_wp2_with fail
  refine (rjoin_p id tt (HV.out.below HBw3.out) HLEN.out HUP.out).mono ?_
  rintro e w4 ⟨⟨vw4, rfl, hr⟩, hb⟩
  have HBw4 := Lib.hid (bchain HBw3.out hb)
  have HXw4 := Lib.hid hb
  have Rw4 := Lib.hid hr
  obtain ⟨Aw4, nw4, cw4, rfl, hn⟩ := hr.opn
  have HNw4 := Lib.hid hn
  clear hr hb hn
  go_wp2_with fail
  refine (copy_any _ P _ (HV.out.below HBw4.out) HLEN.out HSM.out).mono ?_
  rintro e w5 ⟨⟨vw5, rfl, hr⟩, hb⟩
  have HBw5 := Lib.hid (bchain HBw4.out hb)
  have HXw5 := Lib.hid hb
  have Rw5 := Lib.hid hr
  obtain ⟨Aw5, nw5, cw5, rfl, hn⟩ := hr.opn
  clear hr hb hn
  go_wp2_with fail
  refine (part_p id Rw5.out HLEN.out).mono ?_
  rintro e w6 ⟨⟨vw6, rfl, hr⟩, hb⟩
  have HBw6 := Lib.hid (bchain HBw5.out hb)
  have HXw6 := Lib.hid hb
  have Rw6 := Lib.hid hr
  obtain ⟨Aw6, nw6, cw6, rfl, hn⟩ := hr.opn
  have HNw6 := Lib.hid hn
  clear hr hb hn
  go_wp2_with fail
  refine (rpart_p id (HV.out.below HBw6.out) HLEN.out HUP.out).mono ?_
  rintro e w7 ⟨⟨vw7, rfl, hr⟩, hb⟩
  have HBw7 := Lib.hid (bchain HBw6.out hb)
  have HXw7 := Lib.hid hb
  have Rw7 := Lib.hid hr
  obtain ⟨Aw7, nw7, cw7, rfl, hn⟩ := hr.opn
  have HNw7 := Lib.hid hn
  clear hr hb hn
  go_wp2_with fail
  have h34 : Below w3.heap.size w3 w7 := by
    refine bchain HXw4.out ?_
    refine bchain ?_ HXw7.out
    refine bchain HXw5.out HXw6.out
  refine (same_any _ _ _ _ _ (Rw3.out.below h34) (Rw4.out.below (bchain (bchain HXw5.out HXw6.out) HXw7.out))).mono ?_
  rintro e w8 ⟨rfl, hb⟩
  have HBw8 := Lib.hid (bchain HBw7.out hb)
  have HXw8 := Lib.hid hb
  clear hb
  clear h34
  have hb1 : (joinK (pk P) id tt == joinK (pk P) id tt) = true := by simp
  rw [show decide (joinP P id tt = joinP P id tt) = true by simp]
  go_wp2_with fail
  refine (same_any _ _ _ _ _ (Rw6.out.below (bchain HXw7.out HXw8.out)) (Rw7.out.below HXw8.out)).mono ?_
  rintro e w9 ⟨rfl, hb⟩
  have HBw9 := Lib.hid (bchain HBw8.out hb)
  have HXw9 := Lib.hid hb
  clear hb
  have hb2 : (partK (pk P) id == partK (pk P) id) = true := by simp
  rw [show decide (partP P id = partP P id) = true by simp]
  go_wp2_with fail
  refine (awake_any _).mono ?_
  rintro e wz ⟨rfl, hbz⟩
  have HBZ := Lib.hid (bchain HBw9.out hbz)
  clear hbz
  go_wp2_with fail
  go_ret
  exact ⟨rfl, HBZ.out⟩
end Go.Proofs.Ytnjniganlielcaa
