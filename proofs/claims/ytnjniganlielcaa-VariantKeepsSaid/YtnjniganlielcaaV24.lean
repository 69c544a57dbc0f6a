/-
  some and right of the statements.
-/
import Derived.Test.YtnjniganlielcaaV23
namespace Go.Proofs.Ytnjniganlielcaa
open Go.ChangeShapes Go.WideShapes Go.ChangeAt Go.RowKit
/-- no slice of an entry is longer than memory is large -/
structure RbP (p : PE) : Prop where
  f : p.form.length ≤ 17592186044416
  a : p.alts.length ≤ 17592186044416
  s : p.senses.length ≤ 17592186044416
  l : p.links.length ≤ 17592186044416
  r : p.refs.length ≤ 17592186044416
def altsB : List (List Int) → Bool
  | [] => true
  | a :: l => if 40 < a.length then false else altsB l
def smB (p : PE) : Bool := if 40 < p.form.length + p.alts.length + p.senses.length + p.links.length + p.refs.length then false else altsB p.alts
def smallsB : List PE → Bool
  | [] => true
  | p :: l => if smB p = false then false else smallsB l
def someB (P : List PE) : Bool := if 20 < P.length then false else if upFrom 0 P = false then false else smallsB P
theorem altsB_spec : ∀ l : List (List Int), altsB l = true → ∀ a ∈ l, a.length ≤ 40
  | [], _ => by simp
  | b :: l, h => by
    rw [altsB] at h
    by_cases hb : 40 < b.length
    · rw [if_pos hb] at h; cases h
    · rw [if_neg hb] at h
      intro a ha
      rcases List.mem_cons.1 ha with rfl | ha
      · omega
      · exact altsB_spec l h a ha
theorem smB_spec {p : PE} (h : smB p = true) : SmP p := by
  rw [smB] at h
  by_cases hb : 40 < p.form.length + p.alts.length + p.senses.length + p.links.length + p.refs.length
  · rw [if_pos hb] at h; cases h
  · rw [if_neg hb] at h
    exact ⟨by omega, fun a ha => by have := altsB_spec _ h a ha; omega⟩
theorem smallsB_spec : ∀ l : List PE, smallsB l = true → ∀ p ∈ l, SmP p
  | [], _ => by simp
  | q :: l, h => by
    rw [smallsB] at h
    by_cases hb : smB q = false
    · rw [if_pos hb] at h; cases h
    · rw [if_neg hb] at h
      intro p hp
      rcases List.mem_cons.1 hp with rfl | hp
      · exact smB_spec (by simpa using hb)
      · exact smallsB_spec l h p hp
/-- what some and right let through -/
structure Fit (P : List PE) : Prop where
  len : P.length ≤ 20
  pos : ∀ p ∈ P, 0 < p.id
  up : UpK (pk P)
  sm : ∀ p ∈ P, SmP p
theorem someB_fit {P : List PE} (h : someB P = true) : Fit P := by
  rw [someB] at h
  by_cases h1 : 20 < P.length
  · rw [if_pos h1] at h; cases h
  rw [if_neg h1] at h
  by_cases h2 : upFrom 0 P = false
  · rw [if_pos h2] at h; cases h
  rw [if_neg h2] at h
  obtain ⟨h3, h4⟩ := upFrom_spec P 0 (by simpa using h2)
  refine ⟨by omega, h3, ?_, smallsB_spec P h⟩
  rw [UpK, pk, List.map_map]
  exact h4
set_option maxHeartbeats 4000000 in
set_option maxRecDepth 100000 in
theorem some_any (v : Value) (P : List PE) (w : World) (hv : RdP w v P) (hrb : ∀ p ∈ P, RbP p) :
    Calls Try.prog 11 #[v] w fun e' w' => e' = .returned (.bool (someB P)) ∧ Below w.heap.size w w' := by
  have HV := Lib.hid hv
  have HRB := Lib.hid hrb
  obtain ⟨A, n, c, rfl, h1, h2, HN, HR⟩ := hv.op
  clear hv hrb
  by_cases h20 : 20 < n
  · have hd : decide (20 < (n : Int)) = true := by simp; omega
    have HS : Hid (someB P = false) := by rw [Hid, someB, if_pos (by rw [HN.out]; exact h20)]
    go_enter Try.func11, Try.ntmps11
    go_wp2_with fail
    go_ret
    exact ⟨by rw [HS.out]; rfl, Below.refl _ _⟩
  have hd : decide (20 < (n : Int)) = false := by simp; omega
  have HS1 : Hid (someB P = if upFrom 0 P = false then false else smallsB P) := by rw [Hid, someB, if_neg (by rw [HN.out]; exact h20)]
  go_enter Try.func11, Try.ntmps11
  go_wp2_with fail
  refine (up_any _ P _ HV.out).mono ?_
  rintro e' w1 ⟨rfl, rfl⟩
  cases hup : upFrom 0 P
  · have HS : Hid (someB P = false) := by rw [Hid, HS1.out, if_pos hup]
    clear hup
    go_wp2_with fail
    go_ret
    exact ⟨by rw [HS.out]; rfl, Below.refl _ _⟩
  have HS2 : Hid (someB P = smallsB P) := by rw [Hid, HS1.out, if_neg (by simp [hup])]
  clear hup hd
  go_wp2_with fail
  go_loopw [3] (fun i wr => ∃ k : Nat, k ≤ n ∧ i = .int .i64 k ∧ Hid (smallsB P = smallsB (P.drop k)) ∧ Hid (Below w.heap.size w wr)) (fun i _ => n - (intOf i).toNat)
  case atStart => exact ⟨0, Nat.zero_le _, rfl, rfl, Below.refl _ _⟩
  case round =>
    obtain ⟨k, hk, rfl, HP, HB⟩ := hrel
    by_cases hlt : k < n
    · obtain ⟨b, off, e, p, rfl, hb, hdr, HDE, c0, c1, c2, c3, c4, c5, c6, c7⟩ := (HR.out k hlt).below HB.out
      have HP2 : Hid (smallsB P = if smB p = false then false else smallsB (P.drop (k + 1))) := by rw [Hid, HP.out, hdr.out]; rfl
      have hmem : p ∈ P := List.mem_of_mem_drop (by rw [hdr.out]; exact List.mem_cons_self)
      obtain ⟨rf, ra, rs, rl, rr⟩ := HRB.out p hmem
      rw [← HDE.out.nf] at rf
      rw [← HDE.out.na] at ra
      rw [← HDE.out.ns] at rs
      rw [← HDE.out.nl] at rl
      rw [← HDE.out.nr] at rr
      have HSM : Hid (smB p = if 40 < e.f.n + e.a.n + e.s.n + e.l.n + e.r.n then false else altsB p.alts) := by
        rw [Hid, HDE.out.nf, HDE.out.na, HDE.out.ns, HDE.out.nl, HDE.out.nr]; rfl
      clear hmem
      by_cases hsum : 40 < e.f.n + e.a.n + e.s.n + e.l.n + e.r.n
      · have hd1 : decide (40 < (e.f.n : Int) + (e.a.n : Int) + (e.s.n : Int) + (e.l.n : Int) + (e.r.n : Int)) = true := by simp; omega
        have HP3 : Hid (smallsB P = false) := by rw [Hid, HP2.out, if_pos (by rw [HSM.out, if_pos hsum])]
        go_wp2_with fail
        go_ret
        exact ⟨by rw [HS2.out, HP3.out]; rfl, HB.out.alloc HB.out.size _⟩
      · have hd1 : decide (40 < (e.f.n : Int) + (e.a.n : Int) + (e.s.n : Int) + (e.l.n : Int) + (e.r.n : Int)) = false := by simp; omega
        have HSM2 : Hid (smB p = altsB p.alts) := by rw [Hid, HSM.out, if_neg hsum]
        obtain ⟨wo, rfl⟩ : ∃ wo : World, wo = wr := ⟨_, rfl⟩
        go_wp2_with fail
        generalize hX : World.alloc wo _ = X
        have HXB : Hid (Below w.heap.size w X) := by rw [← hX]; exact HB.out.alloc HB.out.size _
        have HXE : Hid (EBlk X wo.heap.size e) := by rw [← hX]; exact heap_alloc_new wo _
        have HXD : Hid (DpE X e p) := by rw [← hX]; exact HDE.out.below ((Below.refl _ _).alloc (Nat.le_refl _) _)
        clear hX c0 c1 c2 c3 c4 c5 c6 c7 hd1
        generalize wo.heap.size = gx at HXE ⊢
        obtain ⟨_, _, _, h0, _, hcm, HNA, HRA⟩ := HXD.out.a.op
        cases h0
        obtain ⟨z0, z1, z2, z3, z4, z5, z6, z7, zl⟩ := HXE.out.facts
        go_loop [5] (fun i => ∃ j : Nat, j ≤ e.a.n ∧ i = .int .i64 j ∧ Hid (altsB p.alts = altsB (p.alts.drop j))) (fun i => e.a.n - (intOf i).toNat)
        case atStart => exact ⟨0, Nat.zero_le _, rfl, rfl⟩
        case round =>
          obtain ⟨j, hj, rfl, HQ⟩ := hrel
          by_cases hjt : j < e.a.n
          · obtain ⟨ba, oa, B, m, cm, l, hA, hbl, hdl, e0, HRL⟩ := HRA.out j hjt
            have HQ2 : Hid (altsB p.alts = if 40 < l.length then false else altsB (p.alts.drop (j + 1))) := by rw [Hid, HQ.out, hdl.out]; rfl
            have HML : Hid (m = l.length) := rd_len HRL.out
            rw [hA] at z3
            have HZA := Lib.hid hA
            clear hA
            by_cases hm : 40 < m
            · have hd1 : decide (40 < (m : Int)) = true := by simp; omega
              have HP3 : Hid (smallsB P = false) := by rw [Hid, HP2.out, if_pos (by rw [HSM2.out, HQ2.out, if_pos (by rw [← HML.out]; exact hm)])]
              go_wp2_with fail
              go_ret
              exact ⟨by rw [HS2.out, HP3.out]; rfl, HXB.out⟩
            · have hd1 : decide (40 < (m : Int)) = false := by simp; omega
              have HQ3 : Hid (altsB p.alts = altsB (p.alts.drop (j + 1))) := by rw [Hid, HQ2.out, if_neg (by rw [← HML.out]; exact hm)]
              go_wp2_with fail
              go_round
              case rel => exact ⟨j + 1, by omega, by go_num, HQ3.out⟩
              case measure => simp [intOf]; omega
          · have HQ2 : Hid (altsB p.alts = true) := by rw [Hid, HQ.out, List.drop_of_length_le (by rw [HNA.out]; omega)]; rfl
            have HP3 : Hid (smallsB P = smallsB (P.drop (k + 1))) := by rw [Hid, HP2.out, if_neg (by rw [HSM2.out, HQ2.out]; simp)]
            go_wp2_with fail
            go_roundw
            case rel => exact ⟨k + 1, by omega, by go_num, HP3.out, HXB.out⟩
            case measure => simp [intOf]; omega
    · have HP3 : Hid (smallsB P = true) := by rw [Hid, HP.out, List.drop_of_length_le (by rw [HN.out]; omega)]; rfl
      go_wp2_with fail
      go_ret
      exact ⟨by rw [HS2.out, HP3.out]; rfl, HB.out⟩
def rightB (P : List PE) : Bool := someB P && chkK (pk P) == 0
theorem rcheck_p (v : Value) (P : List PE) (w : World) (hv : RdP w v P) (hl : P.length ≤ 100000) :
    Calls Try.prog 14 #[v] w fun e w' => e = .returned (.int .i64 (chkK (pk P))) ∧ Below w.heap.size w w' := by
  obtain ⟨L, h1, h2⟩ := hv
  rw [← keys_pk h2]
  exact rcheck_any v L w h1 (by rw [h2.length]; exact hl)
set_option maxHeartbeats 1000000 in
theorem right_any (v : Value) (P : List PE) (w : World) (hv : RdP w v P) (hrb : ∀ p ∈ P, RbP p) :
    Calls Try.prog 16 #[v] w fun e' w' => e' = .returned (.bool (rightB P)) ∧ Below w.heap.size w w' := by
  have HV := Lib.hid hv
  have HRB := Lib.hid hrb
  obtain ⟨A, n, c, rfl, HN⟩ := hv.opn
  have HN := Lib.hid HN
  clear hv hrb
  go_enter Try.func16, Try.ntmps16
  go_wp2_with fail
  refine (some_any _ P _ HV.out HRB.out).mono ?_
  rintro e' w1 ⟨rfl, hb⟩
  have HB := Lib.hid hb
  clear hb
  cases hs : someB P
  · have HS : Hid (rightB P = false) := by rw [Hid, rightB, hs]; rfl
    clear hs
    go_wp2_with fail
    go_ret
    exact ⟨by rw [HS.out]; rfl, HB.out⟩
  have HL : Hid (P.length ≤ 100000) := by have := (someB_fit hs).len; rw [Hid]; omega
  have HS : Hid (rightB P = (chkK (pk P) == 0)) := by rw [Hid, rightB, hs]; rfl
  clear hs
  go_wp2_with fail
  refine (rcheck_p _ P _ (HV.out.below HB.out) HL.out).mono ?_
  rintro e' w2 ⟨rfl, hb⟩
  have HB2 := Lib.hid (bchain HB.out hb)
  clear hb
  go_wp2_with fail
  go_ret
  exact ⟨by rw [HS.out]; rfl, HB2.out⟩
end Go.Proofs.Ytnjniganlielcaa
