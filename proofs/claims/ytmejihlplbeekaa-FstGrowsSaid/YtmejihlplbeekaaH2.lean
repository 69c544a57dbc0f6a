/-
  The reference 20: closed.
-/
import Derived.Test.YtmejihlplbeekaaH1
import Derived.Test.YtmejihlplbeekaaG5
namespace Go.Proofs.Ytmejihlplbeekaa
open Go.ChangeShapes Go.WideShapes Go.ChangeAt Go.RowKit
theorem PassC.vac {F : PFst} {xs : List Int} {N : Plc → Bool} {M0 M : List Bool} {Dn Dn' : PArc → Nat → Prop} {more : Bool} (h : PassC F xs N M0 Dn M more) (hD : ∀ a i, Dn' a i → Dn a i ∨ a.out ≠ 0) : PassC F xs N M0 Dn' M more :=
  ⟨h.1, h.2.1, h.2.2.1, fun hb => ⟨(h.2.2.2 hb).1, fun a c hd => by
    rcases hD a c hd with h1 | h1
    · exact (h.2.2.2 hb).2 a c h1
    · exact fun h2 => absurd h2 h1⟩⟩
set_option maxHeartbeats 4000000 in
set_option maxRecDepth 100000 in
theorem closed_any (w₀ w : World) (v vin : Value) (F : PFst) (xs : List Int) (g : Nat) (M : List Bool) (hw : Below w₀.heap.size w₀ w) (hv : RdF w₀ v F) (hx : RdI w₀ vin xs) (hg0 : w₀.heap.size ≤ g) (hM : Bls w g M) (hl : M.length = szP F xs)
    (hF : GoodA F) (hR : Right F) (hS : F.states ≤ 4096) (hX : xs.length ≤ 1000) :
    Calls Try.prog 45 #[v, vin, .slice (some ⟨g, 0, none⟩) (szP F xs) (szP F xs)] w fun e w' => e = .returned (.slice (some ⟨g, 0, none⟩) (szP F xs) (szP F xs)) ∧ ∃ M', Bls w' g M' ∧ M'.length = szP F xs ∧ SpreadP F xs (mkS F xs M) (mkS F xs M') ∧ Frm w.heap.size (fun k => k = g) w w' := by
  obtain ⟨va, vf, rfl, ha, hf⟩ := hv
  obtain ⟨A, n, c, rfl, h1, h2, hn, hr⟩ := ha.op
  obtain ⟨A', n', c', rfl, h1', h2', hn', hr'⟩ := hf.op
  obtain ⟨Ax, nx, cx, rfl, h1x, h2x, hnx, hrx⟩ := hx.op
  rw [hnx.out] at hX
  have Hx := Lib.hid hx
  have HR := Lib.hid hR
  have HF := Lib.hid hF
  have HW := Lib.hid hw
  have HM0 := Lib.hid hM
  have HL0 := Lib.hid hl
  have HG0 := Lib.hid hg0
  clear hf ha hx hR hF hr' hrx hw hM hl hg0
  obtain ⟨SN, hSN⟩ : ∃ SN : Nat, F.states = (SN : Int) := ⟨F.states.toNat, by have := HR.out.1; omega⟩
  have hS2 : SN ≤ 4096 := by omega
  have HSN := Lib.hid hSN
  clear hS
  obtain ⟨p1, hp1⟩ : ∃ p1 : Nat, szP F xs = p1 := ⟨_, rfl⟩
  have Hsz : Hid (szP F xs = p1) := hp1
  have hp1b : p1 ≤ 4100096 := by
    rw [← hp1, szP, HSN.out, hnx.out]
    exact Nat.mul_le_mul (by simpa using hS2) (by omega : nx + 1 ≤ 1001)
  rw [hp1, hSN]
  clear hSN hp1
  go_enter Try.func45, Try.ntmps45
  go_wp2_with fail
  generalize hw1 : World.alloc w _ = W
  obtain ⟨B, hB⟩ : ∃ B, w.heap.size = B := ⟨_, rfl⟩
  have HBW : Hid (Below w.heap.size w W) := by rw [← hw1]; exact (Below.refl _ _).alloc (Nat.le_refl _) _
  have HP : Hid (FBlk W B (.int .i64 (SN : Int)) (.slice A n c) (.slice A' n' c')) := by rw [← hw1, ← hB]; exact heap_alloc_new w _
  have HMW : Hid (Bls W g M) := by rw [← hw1]; exact HM0.out.alloc _
  have HFW : Hid (Frm w.heap.size (fun k => k = g) w W) := Frm.of_below HBW.out
  have HGB : Hid (g < B) := by have := HM0.out.lt; unfold Hid; omega
  have HBE := Lib.hid hB
  rw [hB]
  clear hw1 hB HBW
  go_loopg [8] (2 * cf M + 1) (fun gk v8 wr => ∃ (b : Bool) (M1 : List Bool), v8 = .bool b ∧ Hid (Bls wr g M1) ∧ Hid (CInv F xs (mkS F xs M) M1) ∧ Hid (b = false → ∀ a i, a ∈ F.arcs → i ≤ xs.length → CloAt xs M1 a i) ∧ Hid (gk = 2 * cf M1 + (if b then 1 else 0)) ∧ Hid (FBlk wr B (.int .i64 (SN : Int)) (.slice A n c) (.slice A' n' c')) ∧ Hid (Frm w.heap.size (fun k => k = g) w wr))
  case atStart => exact ⟨true, M, rfl, HMW.out, CInv.start HL0.out rfl, (fun h => by cases h), rfl, HP.out, HFW.out⟩
  case round =>
    obtain ⟨b, M3, rfl, HM3, HI3, HC3, HG3, HP3, HF3⟩ := hrel
    cases b
    · go_wp2_with fail
      go_ret
      exact ⟨rfl, M3, HM3.out, by rw [← Hsz.out]; exact HI3.out.len, HI3.out.done HF.out (HC3.out trivial), HF3.out⟩
    · obtain ⟨p0, c1, p2, _, _, _⟩ := HP3.out.facts
      have hgl := HM3.out.lt
      have hpl := HP3.out.lt
      go_wp2_with fail
      clear p0 c1 p2 hgl hpl
      go_loopg [8, 9] n (fun gk v8 v9 wx => ∃ (j : Nat) (more : Bool) (M4 : List Bool), j ≤ n ∧ gk = n - j ∧ v9 = .int .i64 j ∧ v8 = .bool more ∧ Hid (Bls wx g M4) ∧ Hid (PassC F xs (mkS F xs M) M3 (fun a i => i ≤ xs.length ∧ a ∈ F.arcs.take j) M4 more) ∧ Hid (FBlk wx B (.int .i64 (SN : Int)) (.slice A n c) (.slice A' n' c')) ∧ Hid (Frm w.heap.size (fun k => k = g) w wx))
      case atStart => exact ⟨0, false, M3, Nat.zero_le _, rfl, rfl, rfl, HM3.out, (PassC.start HI3.out).weaken (fun a i h => by simp at h), HP3.out, HF3.out⟩
      case round =>
        obtain ⟨j, more, M4, hj, hg2, rfl, rfl, HM4, HP4, HPB4, HF4⟩ := hrel
        have HG2 := Lib.hid hg2
        clear hg2 HM3
        have hf4 : Below w₀.heap.size w₀ wr := HW.out.trans (HF4.out.below (by have := HW.out.size; exact this) (fun k hk e => by have := HG0.out; omega))
        have HBw4 := Lib.hid hf4
        obtain ⟨p0, c1, p2, _, _, _⟩ := HPB4.out.facts
        have hpl := HPB4.out.lt
        by_cases hlt4 : j < n
        · obtain ⟨bb, off, x0, x1, x2, x3, rfl, hbb, hdr, e0, e1, e2, e3⟩ := (hr.out j hlt4).below hf4
          have HAM : Hid ((⟨x0, x1, x2, x3⟩ : PArc) ∈ F.arcs) := List.mem_of_mem_drop (by rw [hdr.out]; exact List.mem_cons_self)
          have HTK : Hid (F.arcs.take (j + 1) = F.arcs.take j ++ [⟨x0, x1, x2, x3⟩]) := take_of_drop hdr.out
          obtain ⟨y0, y1, y2, y3, y4⟩ := HF.out.tgt _ HAM.out
          simp only at y0 y1 y2 y3 y4
          obtain ⟨q0, rfl⟩ : ∃ q : Nat, x0 = (q : Int) := ⟨x0.toNat, by omega⟩
          obtain ⟨q3, rfl⟩ : ∃ q : Nat, x3 = (q : Int) := ⟨x3.toNat, by omega⟩
          have hq0 : q0 < SN := by have := HSN.out; omega
          have hq3 : q3 < SN := by have := HSN.out; omega
          clear y0 y1 y2 y3 y4 hf4
          go_wp2_with fail
          obtain ⟨wp, rfl⟩ : ∃ wp : World, wp = wr := ⟨_, rfl⟩
          generalize hwa : World.alloc wp _ = wa
          obtain ⟨ga, hga⟩ : ∃ ga, wp.heap.size = ga := ⟨_, rfl⟩
          have HAb : Hid (ABlk wa ga (q0 : Int) x1 x2 (q3 : Int)) := by rw [← hwa, ← hga]; exact heap_alloc_new wp _
          have HMa : Hid (Bls wa g M4) := by rw [← hwa]; exact HM4.out.alloc _
          have HPa : Hid (FBlk wa B (.int .i64 (SN : Int)) (.slice (some ⟨bb, off, none⟩) n c) (.slice A' n' c')) := by rw [← hwa]; exact HPB4.out.below ((Below.refl _ _).alloc (Nat.le_refl _) _)
          have HFa : Hid (Frm w.heap.size (fun k => k = g) w wa) := by rw [← hwa]; exact HF4.out.alloc (by have := HF4.out.size; exact this) _
          have HGA : Hid (B < ga) := by have := HPB4.out.lt; unfold Hid; omega
          rw [hga]
          clear hwa e0 e1 e2 e3 c1 hga hpl p0 p2
          go_loopg [8, 11] (nx + 1) (fun gk v8 v11 wy => ∃ (i : Nat) (more1 : Bool) (M1 : List Bool), i ≤ nx + 1 ∧ gk = nx + 1 - i ∧ v11 = .int .i64 i ∧ v8 = .bool more1 ∧ Hid (Bls wy g M1) ∧ Hid (PassC F xs (mkS F xs M) M3 (fun a i' => (i' ≤ xs.length ∧ a ∈ F.arcs.take j) ∨ (a = ⟨(q0 : Int), x1, x2, (q3 : Int)⟩ ∧ i' < i)) M1 more1) ∧ Hid (ABlk wy ga (q0 : Int) x1 x2 (q3 : Int)) ∧ Hid (FBlk wy B (.int .i64 (SN : Int)) (.slice (some ⟨bb, off, none⟩) n c) (.slice A' n' c')) ∧ Hid (Frm w.heap.size (fun k => k = g) w wy))
          case atStart => exact ⟨0, more, M4, Nat.zero_le _, rfl, rfl, rfl, HMa.out, HP4.out.weaken (fun a i h => h.resolve_right (fun h2 => by omega)), HAb.out, HPa.out, HFa.out⟩
          case round =>
            obtain ⟨i, more1, M1, hi, hg3, rfl, rfl, HM1, HP1, HA1, HPB1, HB1⟩ := hrel
            have HG3 := Lib.hid hg3
            clear hg3
            obtain ⟨a0, a1, a2, a3⟩ := HA1.out.cells
            have hgl := HM1.out.lt
            have hal : ga < wr.heap.size := (Array.getElem?_eq_some_iff.1 HA1.out).1
            by_cases hlti : i < nx + 1
            · have hdi : decide ((i : Int) < (nx : Int) + 1) = true := by simp; omega
              have HX4 : Hid (RdI wr (.slice Ax nx cx) xs) := Hx.out.below (HW.out.trans (HB1.out.below (by have := HW.out.size; exact this) (fun k hk e => by have := HG0.out; omega)))
              by_cases hx2 : x2 = 0
              · subst hx2
                cases ho1 : stepOk xs i x1
                · have HO1 := Lib.hid ho1
                  have HRL : Hid (CloAt xs M1 ⟨(q0 : Int), x1, 0, (q3 : Int)⟩ i) := fun _ h => by rw [show stepOk xs i x1 = true from h] at ho1; cases ho1
                  clear ho1
                  go_wp2_with fail
                  refine (step_any _ xs i x1 _ HX4.out).mono ?_
                  rintro e w1 ⟨rfl, nq1, rfl⟩
                  rw [HO1.out]
                  go_wp2_with fail
                  go_roundg (nx + 1 - (i + 1))
                  case measure => rw [HG3.out]; omega
                  case rel => exact ⟨i + 1, more1, M1, by omega, rfl, by go_num, rfl, HM1.out, HP1.out.keep (a := ⟨(q0 : Int), x1, 0, (q3 : Int)⟩) (i := i) HRL.out (fun a' i' h => by
                      rcases h with h | ⟨rfl, h⟩
                      · exact .inl (.inl h)
                      · by_cases e : i' = i
                        · exact .inr ⟨rfl, e⟩
                        · exact .inl (.inr ⟨rfl, by omega⟩)), HA1.out, HPB1.out, HB1.out.drewN _⟩
                · have HO1 := Lib.hid ho1
                  have hd1 : i + stepD x1 ≤ nx := by have := step_le xs i x1 (by rw [hnx.out]; omega) ho1; rw [hnx.out] at this; exact this
                  clear ho1
                  obtain ⟨p2, hp2⟩ : ∃ p2 : Nat, (q0 : Int) * ((nx : Int) + 1) = (p2 : Int) := ⟨q0 * (nx + 1), by simp⟩
                  obtain ⟨p4, hp4⟩ : ∃ p4 : Nat, (q3 : Int) * ((nx : Int) + 1) = (p4 : Int) := ⟨q3 * (nx + 1), by simp⟩
                  have f2 : p2 = q0 * (nx + 1) := by exact_mod_cast hp2.symm
                  have f4 : p4 = q3 * (nx + 1) := by exact_mod_cast hp4.symm
                  have hix : p2 + i = ixP xs q0 i := by rw [ixP, hnx.out, f2]
                  have hiy : p4 + i + stepD x1 = ixP xs q3 (i + stepD x1) := by rw [ixP, hnx.out, f4, Nat.add_assoc]
                  have hil : p2 + i < p1 := by rw [hix, ← Hsz.out, szP]; exact ixP_lt (by have := HSN.out; omega) (by rw [hnx.out]; omega)
                  have hiyl : p4 + i + stepD x1 < p1 := by rw [hiy, ← Hsz.out, szP]; exact ixP_lt (by have := HSN.out; omega) (by rw [hnx.out]; omega)
                  have hck := HM1.out.cell (j := p2 + i) (by rw [HP1.out.1.len, Hsz.out]; exact hil)
                  have hcy := HM1.out.cell (j := p4 + i + stepD x1) (by rw [HP1.out.1.len, Hsz.out]; exact hiyl)
                  have hfk := HM1.out.free (p4 + i + stepD x1)
                  have HIX := Lib.hid hix
                  have HIY := Lib.hid hiy
                  clear f2 f4 hix hiy
                  cases hT : M1.getD (p2 + i) false
                  · rw [hT] at hck
                    have HRL : Hid (CloAt xs M1 ⟨(q0 : Int), x1, 0, (q3 : Int)⟩ i) := fun _ _ h => by
                      simp only [Int.toNat_natCast] at h
                      rw [← HIX.out, hT] at h
                      cases h
                    clear hT
                    go_wp2_with fail
                    refine (step_any _ xs i x1 _ HX4.out).mono ?_
                    rintro e w1 ⟨rfl, nq1, rfl⟩
                    rw [HO1.out]
                    go_wp2_with fail
                    go_roundg (nx + 1 - (i + 1))
                    case measure => rw [HG3.out]; omega
                    case rel => exact ⟨i + 1, more1, M1, by omega, rfl, by go_num, rfl, HM1.out, HP1.out.keep (a := ⟨(q0 : Int), x1, 0, (q3 : Int)⟩) (i := i) HRL.out (fun a' i' h => by
                        rcases h with h | ⟨rfl, h⟩
                        · exact .inl (.inl h)
                        · by_cases e : i' = i
                          · exact .inr ⟨rfl, e⟩
                          · exact .inl (.inr ⟨rfl, by omega⟩)), HA1.out, HPB1.out, HB1.out.drewN _⟩
                  · rw [hT] at hck
                    have HT := Lib.hid hT
                    clear hT
                    cases hU : M1.getD (p4 + i + stepD x1) false
                    · rw [hU] at hcy
                      have HU := Lib.hid hU
                      clear hU
                      go_wp2_with fail
                      refine (step_any _ xs i x1 _ HX4.out).mono ?_
                      rintro e w1 ⟨rfl, nq1, rfl⟩
                      rw [HO1.out]
                      go_wp2_with fail
                      go_roundg (nx + 1 - (i + 1))
                      case measure => rw [HG3.out]; omega
                      case rel =>
                        refine ⟨i + 1, true, M1.set (p4 + i + stepD x1) true, by omega, rfl, by go_num, rfl, Bls.set_ (by exact HM1.out) _, ?_, HA1.out.far (by have := HGA.out; have := HGB.out; omega), (Below.heap_setCell _ ⟨g, _, none⟩ _ B (by have := HGB.out; simp only; omega)).trans HPB1.out, (HB1.out.drewN _).setCell ⟨g, _, none⟩ _ (.inl rfl)⟩
                        have h := HP1.out.step HF.out (Dn' := fun a i' => (i' ≤ xs.length ∧ a ∈ F.arcs.take j) ∨ (a = ⟨(q0 : Int), x1, 0, (q3 : Int)⟩ ∧ i' < i + 1)) (a := ⟨(q0 : Int), x1, 0, (q3 : Int)⟩) (i := i) HAM.out (by rw [hnx.out]; omega) rfl HO1.out (by simp only [Int.toNat_natCast]; rw [← HIX.out]; exact HT.out) (by simp only [Int.toNat_natCast]; rw [← HIY.out]; exact HU.out)
                        simp only [Int.toNat_natCast] at h
                        rw [← HIY.out] at h
                        exact h
                    · rw [hU] at hcy
                      have HRL : Hid (CloAt xs M1 ⟨(q0 : Int), x1, 0, (q3 : Int)⟩ i) := fun _ _ _ => by
                        simp only [Int.toNat_natCast]
                        rw [← HIY.out, hU]
                      clear hU
                      go_wp2_with fail
                      refine (step_any _ xs i x1 _ HX4.out).mono ?_
                      rintro e w1 ⟨rfl, nq1, rfl⟩
                      rw [HO1.out]
                      go_wp2_with fail
                      go_roundg (nx + 1 - (i + 1))
                      case measure => rw [HG3.out]; omega
                      case rel => exact ⟨i + 1, more1, M1, by omega, rfl, by go_num, rfl, HM1.out, HP1.out.keep (a := ⟨(q0 : Int), x1, 0, (q3 : Int)⟩) (i := i) HRL.out (fun a' i' h => by
                          rcases h with h | ⟨rfl, h⟩
                          · exact .inl (.inl h)
                          · by_cases e : i' = i
                            · exact .inr ⟨rfl, e⟩
                            · exact .inl (.inr ⟨rfl, by omega⟩)), HA1.out, HPB1.out, HB1.out.drewN _⟩
              · have hb2 : (x2 == 0) = false := by simpa using hx2
                have HX2 := Lib.hid hx2
                clear hx2
                go_wp2_with fail
                go_roundg (n - (j + 1))
                case measure => rw [HG2.out]; omega
                case rel => exact ⟨j + 1, more1, M1, by omega, rfl, by go_num, rfl, HM1.out, HP1.out.vac (fun a i' h => by
                    have h3 := h.2
                    rw [HTK.out] at h3
                    rcases List.mem_append.1 h3 with h4 | h4
                    · exact .inl (.inl ⟨h.1, h4⟩)
                    · refine .inr ?_
                      have e : a = ⟨(q0 : Int), x1, x2, (q3 : Int)⟩ := by simpa using h4
                      rw [e]
                      exact HX2.out), HPB1.out, HB1.out⟩
            · have hei : i = nx + 1 := by omega
              have hdi : decide ((i : Int) < (nx : Int) + 1) = false := by simp; omega
              go_wp2_with fail
              go_roundg (n - (j + 1))
              case measure => rw [HG2.out]; omega
              case rel => exact ⟨j + 1, more1, M1, by omega, rfl, by go_num, rfl, HM1.out, HP1.out.weaken (fun a i' h => by
                  have h3 := h.2
                  rw [HTK.out] at h3
                  rcases List.mem_append.1 h3 with h4 | h4
                  · exact .inl ⟨h.1, h4⟩
                  · exact .inr ⟨by simpa using h4, by have := h.1; rw [hnx.out] at this; omega⟩), HPB1.out, HB1.out⟩
        · go_wp2_with fail
          go_roundg (2 * cf M4 + (if more then 1 else 0))
          case measure =>
            have h1 := HP4.out.2.1
            rw [HG3.out]
            cases more
            · simp; omega
            · have h2 := HP4.out.2.2.1 rfl
              simp; omega
          case rel => exact ⟨more, M4, rfl, HM4.out, HP4.out.1, (fun hb a i ha hi => by
              obtain ⟨e, h⟩ := HP4.out.2.2.2 hb
              rw [e]
              exact h a i ⟨hi, by rw [List.take_of_length_le (by rw [hn.out]; omega)]; exact ha⟩), rfl, HPB4.out, HF4.out⟩
end Go.Proofs.Ytmejihlplbeekaa
