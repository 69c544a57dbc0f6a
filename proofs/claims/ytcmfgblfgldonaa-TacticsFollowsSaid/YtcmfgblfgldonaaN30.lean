/-
  TacticsFollows: the walk.
-/
import Derived.Test.YtcmfgblfgldonaaN25
import Derived.Test.YtcmfgblfgldonaaNP7
namespace Go.Proofs.Ytcmfgblfgldonaa
open Go.ChangeShapes Go.WideShapes Go.ChangeAt Go.RowKit
theorem RdI.take {w : World} {A : Option Addr} {n c k : Nat} {xs : List Int} (h : RdI w (.slice A n c) xs) (hk : k ≤ n) : RdI w (.slice A k c) (xs.take k) := by
  obtain ⟨A', c', he, h1, h2, h3, h4⟩ := h
  cases he
  have hl : (xs.take k).length = k := by simp; omega
  refine ⟨A, c, by rw [hl], by rw [hl]; omega, h2, by simp, fun hn => ?_⟩
  rw [hl] at hn
  obtain ⟨b, off, rfl, hb, hc⟩ := h4 (by omega)
  refine ⟨b, off, rfl, hb, fun j u hu => hc j u ?_⟩
  rw [List.map_take, List.getElem?_take] at hu
  split at hu
  · exact hu
  · cases hu
set_option maxHeartbeats 8000000 in
set_option maxRecDepth 100000 in
theorem follows_walk (v u t : Value) (N : PNet) (l more : List Int) (w : World) (hv : RdN w v N) (hu : RdI w u l) (ht : RdI w t more) :
    Calls Try.prog 7 #[v, u, t] w fun e w' => e = .returned (.bool true) ∧ Below w.heap.size w w' := by
  obtain ⟨A3, n3, c3, rfl, hnc, hcm, HL3, hr3⟩ := hu.op
  obtain ⟨A4, n4, c4, rfl, _, _, HL4, _⟩ := ht.op
  have HU := Lib.hid hu
  have HT := Lib.hid ht
  clear hu ht
  have HV := Lib.hid hv
  obtain ⟨vs, vf, rfl, hs, hf⟩ := hv
  obtain ⟨A1, n1, c1, rfl, _, _, HN1, _⟩ := hs.op
  obtain ⟨A2, n2, c2, rfl, _, _, HN2, _⟩ := hf.op
  clear hs hf
  obtain ⟨st, hst⟩ : ∃ st, N.states = st := ⟨_, rfl⟩
  have HST := Lib.hid hst
  rw [hst] at HV ⊢
  clear hst
  go_enter Try.func7, Try.ntmps7
  go_wp2_with fail
  generalize hW : World.alloc w _ = W
  have HBW : Hid (Below w.heap.size w W) := by rw [← hW]; repeat (first | assumption | exact Below.refl _ _ | refine Below.alloc ?_ (by first | omega | (simp; done) | (simp; omega)) _ | refine Below.drew ?_ | refine below_drewN ?_ _ | refine Below.setCell ?_ (by first | omega | (simp; done) | (simp; omega)) _)
  have HNB : Hid (NBlk W w.heap.size (.int .i64 st) (.slice A1 n1 c1) (.slice A2 n2 c2)) := by rw [← hW]; exact heap_alloc_new w _
  clear hW
  refine (small_any _ _ N l _ (HV.out.below HBW.out) (HU.out.below HBW.out)).mono ?_
  rintro e w1 ⟨rfl, hb⟩
  have HB1 := Lib.hid (bchain HBW.out hb)
  have HNB1 := Lib.hid (HNB.out.below hb)
  clear hb HNB HBW
  cases hsm : smallB N l
  · skip
    go_wp2_with fail
    refine (awake_any _).mono ?_
    rintro e wz ⟨rfl, hbz⟩
    have HBZ := Lib.hid (bchain (HB1).out hbz)
    clear hbz
    go_wp2_with fail
    go_ret
    exact ⟨rfl, HBZ.out⟩
  by_cases hm30 : 30 < n4
  · have hd30 : decide (30 < (n4 : Int)) = true := by simp; omega
    clear hsm
    go_wp2_with fail
    refine (awake_any _).mono ?_
    rintro e wz ⟨rfl, hbz⟩
    have HBZ := Lib.hid (bchain (HB1).out hbz)
    clear hbz
    go_wp2_with fail
    go_ret
    exact ⟨rfl, HBZ.out⟩
  have hd30 : decide (30 < (n4 : Int)) = false := by simp; omega
  have hG := small_good hsm
  have hl30 : n3 ≤ 30 := by
    simp only [smallB, Bool.and_eq_true, decide_eq_true_eq] at hsm
    have := hsm.2
    rw [HL3.out] at this
    exact this
  clear hsm
  obtain ⟨S, hS⟩ : ∃ S : Nat, N.states = (S : Int) := ⟨N.states.toNat, by have := hG.s1; omega⟩
  obtain rfl : st = (S : Int) := HST.out.symm.trans hS
  obtain ⟨p0, p1, p2, hpl⟩ := HNB1.out.facts
  go_wp2_with fail
  refine (accepts_any _ _ N S l _ (HV.out.below HB1.out) (HU.out.below HB1.out) hG hS).mono ?_
  rintro e w2 ⟨rfl, hb⟩
  have HB2 := Lib.hid (bchain HB1.out hb)
  have HNB2 := Lib.hid (HNB1.out.below hb)
  clear hb p0 p1 p2 hpl hd30
  obtain ⟨p0, p1, p2, hpl⟩ := HNB2.out.facts
  go_wp2_with fail
  refine (classes_any _ N S _ (HV.out.below HB2.out) hG hS).mono ?_
  rintro e W ⟨⟨va, rfl, hva⟩, hb⟩
  obtain ⟨_, AA, ca, rfl⟩ := own_slice hva
  have HVA : Hid (RdI W (.slice AA (folF N S (reachF N.steps S 1) 20).length ca) (clsF N S)) := hva.rd
  have HB3 := Lib.hid (bchain HB2.out hb)
  have HNB3 := Lib.hid (HNB2.out.below hb)
  clear hb p0 p1 p2 hpl hva
  generalize (folF N S (reachF N.steps S 1) 20).length = na at HVA ⊢
  have HF1 := Lib.hid (fun i x r => follows1 hG hS (l := l) (i := i) (x := x) (r := r))
  obtain ⟨ok, hok⟩ : ∃ ok, accF N l = ok := ⟨_, rfl⟩
  rw [hok]
  have HOK := Lib.hid hok
  clear hok
  go_wp2_with fail
  go_loopw [9] (fun c wr => ∃ i : Nat, i ≤ n3 ∧ c = .int .i64 (i : Int) ∧ Hid (Below W.heap.size W wr)) (fun c _ => n3 - (intOf c).toNat)
  case atStart => exact ⟨0, Nat.zero_le _, rfl, Below.refl _ _⟩
  case round =>
    obtain ⟨i, hi, rfl, HB⟩ := hrel
    have HBR := Lib.hid (bchain HB3.out HB.out)
    by_cases hlt : i < n3
    · cases ok
      · skip
        obtain ⟨p0, p1, p2, hpl⟩ := (HNB3.out.below HB.out).facts
        go_wp2_with fail
        refine (follow_any _ _ N S l _ (HV.out.below HBR.out) (HU.out.below HBR.out) hG hS).mono ?_
        rintro e Wf ⟨⟨nv, rfl, hnv⟩, hb⟩
        obtain ⟨_, AN, cn, rfl⟩ := own_slice hnv
        have HVN : Hid (RdI Wf (.slice AN (followF N S l).length cn) (followF N S l)) := hnv.rd
        have HBF := Lib.hid (bchain HBR.out hb)
        have HNBF := Lib.hid (HNB3.out.below (bchain HB.out hb))
        have HVAF := Lib.hid (HVA.out.below (bchain HB.out hb))
        have HF2 := Lib.hid (fun c => follows2 hG hS (l := l) (more := more) (c := c))
        have HF3 := Lib.hid (fun c => follows3 hG hS (l := l) (c := c))
        clear hb hnv p0 p1 p2 hpl
        generalize (followF N S l).length = nn at HVN ⊢
        go_wp2_with fail
        go_loopw [11] (fun c wr => ∃ j : Nat, j ≤ 20 ∧ c = .int .i64 ((j : Int) + 1) ∧ Hid (Below Wf.heap.size Wf wr)) (fun c _ => 21 - (intOf c).toNat)
        case atStart => exact ⟨0, Nat.zero_le _, rfl, Below.refl _ _⟩
        case round =>
          obtain ⟨j, hj, rfl, HQB⟩ := hrel
          have HQW := Lib.hid (bchain HBF.out HQB.out)
          by_cases hjt : j < 20
          · have hd : decide ((j : Int) + 1 ≤ 20) = true := by simp; omega
            go_wp2_with (first
              | (at_builtin; refine wpList_app_ints rfl (.tmp 64) (.tmp 65) rfl wr.heap.size (.slice none 0 0) [] rfl (World.ownsRow_nil _ _ _ _) _ l rfl (HU.out.below HQW.out) (by have := HL3.out; simp; omega) (Nat.le_refl _) ?_; intro v1 wA ho1 hg1 _; have HBA := Lib.hid ((Below.refl wr.heap.size wr).grown hg1 (Nat.le_refl _) (fun j e => by simp [Value.ownBlock] at e)); have hbaseA := HBA.out.size; have HO1 := Lib.hid ho1; clear ho1 hg1)
              | (at_builtin; refine wpList_app_int rfl (.tmp 67) (.tmp 69) rfl wr.heap.size v1 ([] ++ l) rfl HO1.out ((j : Int) + 1) n3 HL3 (by omega) hbaseA rfl ?_; intro g2 cap2 wB ho2 _ hg2; have HBB := Lib.hid (below_grown HBA.out (Nat.le_refl _) HO1.out hg2); have hbaseB := HBB.out.size; have HO2 := Lib.hid ho2; clear ho2 hg2)
              | (at_builtin; refine wpList_app_ints rfl (.tmp 71) (.tmp 72) rfl wr.heap.size _ (([] ++ l) ++ [(j : Int) + 1]) rfl HO2.out _ more rfl (HT.out.below (bchain HQW.out HBB.out)) (by have := HL3.out; have := HL4.out; simp; omega) hbaseB ?_; intro v3 wC ho3 hg3 _; have HBC := Lib.hid (below_grown HBB.out (Nat.le_refl _) HO2.out hg3); have HO3 := Lib.hid ho3; clear ho3 hg3; obtain ⟨p0, p1, p2, hpl⟩ := (HNBF.out.below (bchain HQB.out HBC.out)).facts))
            have HQC := Lib.hid (bchain HQW.out HBC.out)
            have HQD := Lib.hid (bchain HQB.out HBC.out)
            refine (accepts_any _ _ N S ((([] ++ l) ++ [(j : Int) + 1]) ++ more) _ (HV.out.below HQC.out) HO3.out.rd hG hS).mono ?_
            rintro e wD ⟨rfl, hb⟩
            have HQE := Lib.hid (bchain HQD.out hb)
            clear hb
            cases hac : accF N ((([] ++ l) ++ [(j : Int) + 1]) ++ more)
            · clear hac
              go_wp2_with fail
              refine (hasR_any _ _ ((j : Int) + 1) _ (HVN.out.below HQE.out)).mono ?_
              rintro e wz ⟨rfl, rfl⟩
              cases hh : hasB (followF N S l) ((j : Int) + 1)
              · clear hh
                go_wp2_with fail
                go_roundw
                case rel => exact ⟨j + 1, by omega, by go_num, HQE.out⟩
                case measure => simp [intOf]; omega
              · have hh2 := HF3.out _ hh
                have HH2 := Lib.hid hh2
                clear hh hh2
                go_wp2_with fail
                refine (hasR_any _ _ ((j : Int) + 1) _ (HVAF.out.below HQE.out)).mono ?_
                rintro e wz ⟨rfl, rfl⟩
                rw [HH2.out]
                go_wp2_with fail
                go_roundw
                case rel => exact ⟨j + 1, by omega, by go_num, HQE.out⟩
                case measure => simp [intOf]; omega
            · have hh := HF2.out _ hac
              have hh2 := HF3.out _ hh
              have HH1 := Lib.hid hh
              have HH2 := Lib.hid hh2
              clear hh hh2 hac
              go_wp2_with fail
              refine (hasR_any _ _ ((j : Int) + 1) _ (HVN.out.below HQE.out)).mono ?_
              rintro e wz ⟨rfl, rfl⟩
              rw [HH1.out]
              go_wp2_with fail
              refine (hasR_any _ _ ((j : Int) + 1) _ (HVN.out.below HQE.out)).mono ?_
              rintro e wz ⟨rfl, rfl⟩
              rw [HH1.out]
              go_wp2_with fail
              refine (hasR_any _ _ ((j : Int) + 1) _ (HVAF.out.below HQE.out)).mono ?_
              rintro e wz ⟨rfl, rfl⟩
              rw [HH2.out]
              go_wp2_with fail
              go_roundw
              case rel => exact ⟨j + 1, by omega, by go_num, HQE.out⟩
              case measure => simp [intOf]; omega
          · obtain rfl : j = 20 := by omega
            go_wp2_with fail
            refine (awake_any _).mono ?_
            rintro e wz ⟨rfl, hbz⟩
            have HBZ := Lib.hid (bchain (HQW).out hbz)
            clear hbz
            go_wp2_with fail
            go_ret
            exact ⟨rfl, HBZ.out⟩
      · have hw0 : w.heap.size ≤ wr.heap.size := HBR.out.size
        obtain ⟨b, off, x, rfl, hb, hd, hck⟩ := ((hr3.out i hlt).below HBR.out)
        obtain ⟨hq1, hq2⟩ := HF1.out i x _ HOK.out hd.out
        have hi0 : (0 : Int) ≤ (i : Int) := by omega
        have hi1 : (i : Int) ≤ (c3 : Int) := by omega
        go_wp2_with fail
        have HS : Hid (∀ w' : World, Below wr.heap.size wr w' → (w'.cell? ⟨w.heap.size, 0, none⟩ = some (.int .i64 S) ∧ w'.cell? ⟨w.heap.size, 1, none⟩ = some (.slice A1 n1 c1) ∧ w'.cell? ⟨w.heap.size, 2, none⟩ = some (.slice A2 n2 c2)) ∧ w'.cell? ⟨b, off + i, none⟩ = some (.int .i64 x)) := by
          intro w' h
          obtain ⟨f0, f1, f2, _⟩ := (HNB3.out.below (bchain HB.out h)).facts
          exact ⟨⟨f0, f1, f2⟩, (h.cell hb).trans hck⟩
        have HQ1 := Lib.hid hq1
        have HQ2 := Lib.hid hq2
        clear hck hq1 hq2
        refine wp_region_mix 14 [0, 1, 2, 3, 4, 5, 6, 7, 8, 9, 10, 11] [12, 13] [(true, 0), (true, 1), (true, 2), (true, 3), (true, 5), (true, 6), (true, 7), (true, 8), (false, 4), (false, 9), (true, 10), (true, 11), (true, 12), (true, 13), (false, 14), (false, 15), (false, 16), (false, 17), (false, 18), (false, 19)] (fun w' => Below wr.heap.size wr w') (by kernel_rfl) (by kernel_rfl) ?_
        rintro D hD
        have HSD : Hid (Below wr.heap.size wr D) := by rw [hD]; exact (Below.refl _ _).drew
        clear hD
        refine ⟨HSD.out, ?_⟩
        iterate 8 (refine wpMix_q (v := ?_) rfl rfl (fun w' hS => ?_) ?_; rotate_left; (focus ((try obtain ⟨⟨s0, s1, s2⟩, sx⟩ := HS.out _ (hS rfl)); clear hS; go_simp; try with_reducible rfl; done)); (try simp only [Act.put, List.setIfInBounds_toArray, List.set_cons_zero, List.set_cons_succ]))
        refine wpMix_e rfl rfl (fun K hK => ?_)
        go_simp
        refine (follow_any _ _ N S (l.take i) _ (HV.out.below (bchain HBR.out HSD.out)) (RdI.take (HU.out.below (bchain HBR.out HSD.out)) (by omega)) hG hS).mono ?_
        rintro e Y1 ⟨⟨vmY1, rfl, hm⟩, hb⟩
        have RY1 := Lib.hid hm.rd
        refine hK.out _ _ (fun _ => bchain HSD.out hb) ?_
        clear hK K
        (try simp only [Act.put, List.setIfInBounds_toArray, List.set_cons_zero, List.set_cons_succ])
        have HSY1 := Lib.hid (bchain HSD.out hb)
        have HXY1 := Lib.hid hb
        clear hb hm
        refine wpMix_e rfl rfl (fun K hK => ?_)
        go_simp
        refine (hasR_any _ _ x _ RY1.out).mono ?_
        rintro e wz ⟨rfl, rfl⟩
        refine hK.out _ _ (fun _ => HSY1.out) ?_
        clear hK K
        (try simp only [Act.put, List.setIfInBounds_toArray, List.set_cons_zero, List.set_cons_succ])
        rw [HQ1.out]
        obtain ⟨_, sx⟩ := HS.out Y1 HSY1.out
        iterate 4 (refine wpMix_q (v := ?_) rfl rfl (fun w' hS => ?_) ?_; rotate_left; (focus ((try obtain ⟨⟨s0, s1, s2⟩, sx⟩ := HS.out _ (hS rfl)); clear hS; go_simp; try with_reducible rfl; done)); (try simp only [Act.put, List.setIfInBounds_toArray, List.set_cons_zero, List.set_cons_succ]))
        (refine wpMix_e rfl rfl (fun K hK => ?_); go_simp; refine hK.out _ _ (fun h => absurd h (by decide)) ?_; clear hK K; (try simp only [Act.put, List.setIfInBounds_toArray, List.set_cons_zero, List.set_cons_succ]))
        (refine wpMix_e rfl rfl (fun K hK => ?_); go_simp; refine hK.out _ _ (fun h => absurd h (by decide)) ?_; clear hK K; (try simp only [Act.put, List.setIfInBounds_toArray, List.set_cons_zero, List.set_cons_succ]))
        (refine wpMix_e rfl rfl (fun K hK => ?_); go_simp; refine hK.out _ _ (fun h => absurd h (by decide)) ?_; clear hK K; (try simp only [Act.put, List.setIfInBounds_toArray, List.set_cons_zero, List.set_cons_succ]))
        refine wpMix_e rfl rfl (fun K hK => ?_)
        go_simp
        refine (hasR_any _ _ x _ (HVA.out.below (bchain HB.out HSY1.out))).mono ?_
        rintro e wz ⟨rfl, rfl⟩
        refine hK.out _ _ (fun _ => HSY1.out) ?_
        clear hK K
        (try simp only [Act.put, List.setIfInBounds_toArray, List.set_cons_zero, List.set_cons_succ])
        rw [HQ2.out]
        iterate 2 (refine wpMix_e rfl rfl (fun K hK => ?_); go_simp; refine hK.out _ _ (fun h => absurd h (by decide)) ?_; clear hK K; (try simp only [Act.put, List.setIfInBounds_toArray, List.set_cons_zero, List.set_cons_succ]))
        refine wpMix_nil ?_
        refine NoPanic.normal ?_
        go_wp2_with fail
        go_roundw
        case rel => exact ⟨i + 1, by omega, by go_num, bchain HB.out HSY1.out⟩
        case measure => simp [intOf]; omega
    · obtain rfl : n3 = i := by omega
      obtain ⟨p0, p1, p2, hpl⟩ := (HNB3.out.below HB.out).facts
      go_wp2_with fail
      refine (follow_any _ _ N S l _ (HV.out.below HBR.out) (HU.out.below HBR.out) hG hS).mono ?_
      rintro e Wf ⟨⟨nv, rfl, hnv⟩, hb⟩
      obtain ⟨_, AN, cn, rfl⟩ := own_slice hnv
      have HVN : Hid (RdI Wf (.slice AN (followF N S l).length cn) (followF N S l)) := hnv.rd
      have HBF := Lib.hid (bchain HBR.out hb)
      have HNBF := Lib.hid (HNB3.out.below (bchain HB.out hb))
      have HVAF := Lib.hid (HVA.out.below (bchain HB.out hb))
      have HF2 := Lib.hid (fun c => follows2 hG hS (l := l) (more := more) (c := c))
      have HF3 := Lib.hid (fun c => follows3 hG hS (l := l) (c := c))
      clear hb hnv p0 p1 p2 hpl
      generalize (followF N S l).length = nn at HVN ⊢
      go_wp2_with fail
      go_loopw [11] (fun c wr => ∃ j : Nat, j ≤ 20 ∧ c = .int .i64 ((j : Int) + 1) ∧ Hid (Below Wf.heap.size Wf wr)) (fun c _ => 21 - (intOf c).toNat)
      case atStart => exact ⟨0, Nat.zero_le _, rfl, Below.refl _ _⟩
      case round =>
        obtain ⟨j, hj, rfl, HQB⟩ := hrel
        have HQW := Lib.hid (bchain HBF.out HQB.out)
        by_cases hjt : j < 20
        · have hd : decide ((j : Int) + 1 ≤ 20) = true := by simp; omega
          go_wp2_with (first
            | (at_builtin; refine wpList_app_ints rfl (.tmp 64) (.tmp 65) rfl wr.heap.size (.slice none 0 0) [] rfl (World.ownsRow_nil _ _ _ _) _ l rfl (HU.out.below HQW.out) (by have := HL3.out; simp; omega) (Nat.le_refl _) ?_; intro v1 wA ho1 hg1 _; have HBA := Lib.hid ((Below.refl wr.heap.size wr).grown hg1 (Nat.le_refl _) (fun j e => by simp [Value.ownBlock] at e)); have hbaseA := HBA.out.size; have HO1 := Lib.hid ho1; clear ho1 hg1)
            | (at_builtin; refine wpList_app_int rfl (.tmp 67) (.tmp 69) rfl wr.heap.size v1 ([] ++ l) rfl HO1.out ((j : Int) + 1) n3 HL3 (by omega) hbaseA rfl ?_; intro g2 cap2 wB ho2 _ hg2; have HBB := Lib.hid (below_grown HBA.out (Nat.le_refl _) HO1.out hg2); have hbaseB := HBB.out.size; have HO2 := Lib.hid ho2; clear ho2 hg2)
            | (at_builtin; refine wpList_app_ints rfl (.tmp 71) (.tmp 72) rfl wr.heap.size _ (([] ++ l) ++ [(j : Int) + 1]) rfl HO2.out _ more rfl (HT.out.below (bchain HQW.out HBB.out)) (by have := HL3.out; have := HL4.out; simp; omega) hbaseB ?_; intro v3 wC ho3 hg3 _; have HBC := Lib.hid (below_grown HBB.out (Nat.le_refl _) HO2.out hg3); have HO3 := Lib.hid ho3; clear ho3 hg3; obtain ⟨p0, p1, p2, hpl⟩ := (HNBF.out.below (bchain HQB.out HBC.out)).facts))
          have HQC := Lib.hid (bchain HQW.out HBC.out)
          have HQD := Lib.hid (bchain HQB.out HBC.out)
          refine (accepts_any _ _ N S ((([] ++ l) ++ [(j : Int) + 1]) ++ more) _ (HV.out.below HQC.out) HO3.out.rd hG hS).mono ?_
          rintro e wD ⟨rfl, hb⟩
          have HQE := Lib.hid (bchain HQD.out hb)
          clear hb
          cases hac : accF N ((([] ++ l) ++ [(j : Int) + 1]) ++ more)
          · clear hac
            go_wp2_with fail
            refine (hasR_any _ _ ((j : Int) + 1) _ (HVN.out.below HQE.out)).mono ?_
            rintro e wz ⟨rfl, rfl⟩
            cases hh : hasB (followF N S l) ((j : Int) + 1)
            · clear hh
              go_wp2_with fail
              go_roundw
              case rel => exact ⟨j + 1, by omega, by go_num, HQE.out⟩
              case measure => simp [intOf]; omega
            · have hh2 := HF3.out _ hh
              have HH2 := Lib.hid hh2
              clear hh hh2
              go_wp2_with fail
              refine (hasR_any _ _ ((j : Int) + 1) _ (HVAF.out.below HQE.out)).mono ?_
              rintro e wz ⟨rfl, rfl⟩
              rw [HH2.out]
              go_wp2_with fail
              go_roundw
              case rel => exact ⟨j + 1, by omega, by go_num, HQE.out⟩
              case measure => simp [intOf]; omega
          · have hh := HF2.out _ hac
            have hh2 := HF3.out _ hh
            have HH1 := Lib.hid hh
            have HH2 := Lib.hid hh2
            clear hh hh2 hac
            go_wp2_with fail
            refine (hasR_any _ _ ((j : Int) + 1) _ (HVN.out.below HQE.out)).mono ?_
            rintro e wz ⟨rfl, rfl⟩
            rw [HH1.out]
            go_wp2_with fail
            refine (hasR_any _ _ ((j : Int) + 1) _ (HVN.out.below HQE.out)).mono ?_
            rintro e wz ⟨rfl, rfl⟩
            rw [HH1.out]
            go_wp2_with fail
            refine (hasR_any _ _ ((j : Int) + 1) _ (HVAF.out.below HQE.out)).mono ?_
            rintro e wz ⟨rfl, rfl⟩
            rw [HH2.out]
            go_wp2_with fail
            go_roundw
            case rel => exact ⟨j + 1, by omega, by go_num, HQE.out⟩
            case measure => simp [intOf]; omega
        · obtain rfl : j = 20 := by omega
          go_wp2_with fail
          refine (awake_any _).mono ?_
          rintro e wz ⟨rfl, hbz⟩
          have HBZ := Lib.hid (bchain (HQW).out hbz)
          clear hbz
          go_wp2_with fail
          go_ret
          exact ⟨rfl, HBZ.out⟩
end Go.Proofs.Ytcmfgblfgldonaa
