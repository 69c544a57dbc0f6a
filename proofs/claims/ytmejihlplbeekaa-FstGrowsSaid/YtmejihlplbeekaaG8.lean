/-
  The finder of fst: walk.
-/
import Derived.Test.YtmejihlplbeekaaG7
namespace Go.Proofs.Ytmejihlplbeekaa
open Go.ChangeShapes Go.WideShapes Go.ChangeAt Go.RowKit
theorem wrap_small (k : Nat) (h : k ≤ 1000) : Go.RowKit.wrap64 (k : Int) = (k : Int) := IntWalk.wrap64_in _ ⟨by omega, by omega⟩
set_option maxHeartbeats 4000000 in
set_option maxRecDepth 100000 in
theorem walk_step (w₀ : World) (B S g bl : Nat) (va vf vin : Value) (M : Nat) (F : PFst) (xs : List Int) (lf : Plc → Option Int) (he : Env w₀ B S g va vf vin F xs) (hlf : MOk F xs (boxP S xs.length).length lf) (hM : M ≤ 900000) (k : Nat)
    (hrec : ∀ k', k = k' + 1 → WalkC w₀ B S g bl va vf vin (M : Int) M F xs lf k') : WalkC w₀ B S g bl va vf vin (M : Int) M F xs lf k := by
  intro w bN vl fv l Fs N hB hk hml hbl hne hm hN hBN hl hlen hL hFM
  have HSP := Lib.hid (spread_any w₀ w B S g bN va vf vin (.map (some bl)) fv M F xs N he hB hk hm hN hBN)
  have HE := Lib.hid he
  have HLF := Lib.hid hlf
  have HREC := Lib.hid hrec
  obtain ⟨Ax, nx, cx, rfl, h1x, h2x, hnx, hrx⟩ := he.inp.op
  obtain rfl := hnx.out
  have hXL := he.xl
  have hS2 := he.s2
  have HBX4 : Hid ((boxP S xs.length).length ≤ 4100096) := by
    have h := boxP_len S xs.length
    have h2 : S * (xs.length + 1) ≤ 4096 * 1001 := Nat.mul_le_mul (by omega) (by omega)
    simp only [Hid]
    omega
  have HBX : Hid ((boxP S xs.length).length < maxLen) := by have := HBX4.out; simp only [Hid, maxLen]; omega
  have HB0 := Lib.hid hB
  have HK := Lib.hid hk
  have HML := Lib.hid hml
  have HBL := Lib.hid (And.intro hbl hne)
  have HM := Lib.hid hm
  have HBN := Lib.hid hBN
  obtain ⟨_, Al, cl, rfl⟩ := own_slice hl
  have HL := Lib.hid hl
  have HLE := Lib.hid hlen
  have HFL := Lib.hid hL
  have HFM := Lib.hid hFM
  obtain ⟨n0, hn0⟩ : ∃ n0, w.heap.size = n0 := ⟨_, rfl⟩
  have HN0 := Lib.hid hn0
  have HBn : Hid (B < n0 ∧ bN < n0 ∧ bl < n0) := ⟨by have := hk.lt; omega, by have := hm.lt; omega, by have := hml.lt; omega⟩
  have hmm := @run_makeMap Try.prog
  rw [hn0]
  clear he hlf hrec hnx hrx hB hk hml hbl hne hm hN hBN hl hlen hL hFM hn0
  go_enter Try.func41, Try.ntmps41
  go_wp2_with fail
  refine HSP.out.mono ?_
  rintro e w1 ⟨v', Sy, V, rfl, hsy, hso, hsm, hspd, hm1, hf1⟩
  rw [HN0.out] at hsy hf1
  obtain ⟨_, As, cs, rfl⟩ := own_slice hsy
  have HSY := Lib.hid hsy
  have HSO := Lib.hid hso
  have HSM := Lib.hid hsm
  have HSD := Lib.hid hspd
  have HM1 := Lib.hid hm1
  have HF1 : Hid (FrW n0 B (fun j => j = bN) w w1) := FrW.of_frm hf1
  have HK1 : Hid (FinB w1 B S va vf g (.slice Ax xs.length cx) (.map (some bl)) M fv) := HK.out.same (hf1.2 B HBn.out.1 (by have := HBN.out; omega))
  have HML1 : Hid (OwnM MI w1 bl (boxP S xs.length) lf) := HML.out.same (hf1.2 bl HBn.out.2.2 HBL.out.2)
  have HL1 : Hid (OwnI w1 B (.slice Al l.length cl) l) := own_keep HL.out fun k cs m _ hk _ => hf1.2 k (by have := (Array.getElem?_eq_some_iff.1 hk).1; have := HN0.out; omega) (HM.out.ne hk)
  have HFL1 : Hid (OwnL w1 B fv Fs) := HFL.out.keep fun k cs t m hk _ _ => hf1.2 k (by have := (Array.getElem?_eq_some_iff.1 hk).1; have := HN0.out; omega) (HM.out.ne hk)
  clear hsy hso hsm hspd hm1 hf1 HSP HK HML HM HL HFL
  go_wp2_with (first | (at_range; refine wpList_rangeM (S := MB) rfl (.tmp 25) rfl bN (boxP S xs.length) (setF V) rfl HM1.out ?_; intro w2 cnt0 hor hcn hg1 hs1) | fail)
  go_frame
  obtain ⟨rI, hrI⟩ : ∃ rI, w1.heap.size = rI := ⟨_, rfl⟩
  rw [hrI] at hor ⊢
  have HRI : Hid (w1.heap.size = rI) := hrI
  have HOR1 := Lib.hid hor
  have HB2 : Hid (Below w1.heap.size w1 w2) := (Below.refl _ _).grown hg1 (Nat.le_refl _) (fun j hj => by cases hj)
  clear hor hcn hg1 hs1 hrI
  go_loopg [10] cnt0 (fun gk v10 wr => ∃ (z : Int) (left : Plc → Bool), v10 = .int .i64 z ∧ Hid (OwnR MB wr bN rI (boxP S xs.length) (setF V) left gk) ∧ Hid (0 ≤ z ∧ z ≤ 1099511627776) ∧ Hid (∀ c, V c = true → left c = false → ∀ u, lf c = some u → z ≤ u) ∧ Hid (Below w1.heap.size w1 wr))
  case atStart => exact ⟨_, _, rfl, HOR1.out, by unfold Hid; omega, (fun c hc h => by rw [setF_isSome] at h; rw [hc] at h; cases h), HB2.out⟩
  case round =>
    obtain ⟨z, left, rfl, HOR, HZ, HZL, HBR⟩ := hrel
    go_wp2_with (first | (at_next; refine wpList_nextB rfl (.tmp 26) rfl bN rI (boxP S xs.length) V left gk rfl HOR.out (fun hc0 hl0 => ?_) (fun q i w3 cnt3 hcw hlc hfc hor3 hlt3 hg3 hs3 hen => ?_)) | fail)
    · have hzl : ∀ c, V c = true → ∀ u, lf c = some u → z ≤ u := fun c hc u hu => HZL.out c hc (hl0 c ((HSD.out.2.1 c hc).wf (by rw [HE.out.st]; omega) (by omega))) u hu
      have HZA := Lib.hid hzl
      have HMR := Lib.hid HOR.out.own
      clear hzl hc0 hl0 HZL HOR HOR1 HB2
      obtain ⟨wo, rfl⟩ : ∃ wo : World, wo = wr := ⟨_, rfl⟩
      have HKR := Lib.hid (HK1.out.below HBR.out)
      have HMLR := Lib.hid (HML1.out.below HBR.out)
      have HLR : Hid (OwnI wo B (.slice Al l.length cl) l) := own_below HL1.out HBR.out
      have HFLR := Lib.hid (HFL1.out.below HBR.out)
      have HSYR : Hid (OwnI wo n0 (.slice As Sy.length cs) Sy) := own_below HSY.out HBR.out
      have HFR : Hid (FrW n0 B (fun j => j = bN) w wo) := HF1.out.trans (.of_below (HBR.out.mono (by have := HF1.out.size; have := HN0.out; omega)))
      clear HBR HK1 HML1 HL1 HFL1 HSY HF1 HM1
      refine Lib.hid ?_
      by_cases hzk : (k : Int) < z
      · have hd : decide ((k : Int) < z) = true := by simpa using hzk
        have HZK := Lib.hid hzk
        clear hzk
        have HNIL : Hid (enumW (symsX F.arcs) k (AccS F xs N) = []) := enumW_nil fun u hu hacc => by
          obtain ⟨c, hc, hac⟩ := (HSD.out.acc u).2 hacc
          obtain ⟨y, hy, hyl⟩ := HLF.out.acc c (HSD.out.2.1 c hc) u hac
          have := HZA.out c hc y hy
          have := HZK.out
          omega
        go_wp2_with fail
        go_ret
        refine ⟨?_, HFR.out⟩
        rw [HNIL.out]
        exact .inl ⟨by simpa using HFM.out, rfl, fv, HKR.out, by simpa using HFLR.out⟩
      · have hd : decide ((k : Int) < z) = false := by simpa using hzk
        clear hzk
        go_upto_region 11 with (fail)
        have HEN := Lib.hid (fun W (hb : FinB W B S va vf g (.slice Ax xs.length cx) (.map (some bl)) M fv) (hw : Below B w₀ W) (hm : OwnM MB W bN (boxP S xs.length) (setF V)) => ends_any w₀ W B S g bN va vf (.slice Ax xs.length cx) (.map (some bl)) fv M F xs V HE.out.sz hw HE.out.fin HE.out.inp HE.out.finB (by rw [HE.out.st]; omega) hXL hb hm)
        have HZ0 : Hid (0 ≤ z) := HZ.out.1
        have HZ1 : Hid ((F.final.any fun t => V ⟨t, xs.length⟩) = true → z = 0) := fun h => by
          obtain ⟨t, ht, hv⟩ := List.any_eq_true.1 h
          have := HZA.out _ hv 0 (HLF.out.fin t ht)
          have := HZ0.out
          omega
        have HAN : Hid (AccS F xs V [] ↔ (F.final.any fun t => V ⟨t, xs.length⟩) = true) := by
          have h := acc_nil (F := F) (xs := xs) HSD.out.2.1 HSD.out.2.2.1
          rw [Hid, h, List.any_eq_true]
        generalize (F.final.any fun t => V ⟨t, xs.length⟩) = en at HEN HZ1 HAN
        have HBW : Hid (Below B w₀ wo) := HB0.out.trans (HFR.out.below (by have := HBn.out; omega) (fun k hk e => by have := HBN.out; omega))
        go_cut [53] (fun s53 wx => s53 = .bool en ∧ wo = wx)
        case first =>
          by_cases hz0 : z = 0
          · subst hz0
            go_wp2_with fail
            refine (HEN.out wo HKR.out HBW.out HMR.out).mono ?_
            rintro e w4 ⟨rfl, rfl⟩
            go_wp2_with fail
            go_meet
            exact ⟨rfl, rfl⟩
          · have hb0 : (z == 0) = false := by simpa using hz0
            have hen : en = false := by cases en; rfl; exact absurd (HZ1.out rfl) hz0
            subst hen
            clear hz0
            go_wp2_with fail
            go_meet
            exact ⟨rfl, rfl⟩
        case rest =>
        obtain ⟨rfl, rfl⟩ := hcut
        go_upto_if 53 with (fail)
        go_cut [] (fun wx => ∃ fv1 Fs1, Fs1 = Fs ++ (enumW (symsX F.arcs) 0 (AccS F xs V)).map (l ++ ·) ∧ Hid (FinB wx B S va vf g (.slice Ax xs.length cx) (.map (some bl)) M fv1) ∧ Hid (OwnL wx B fv1 Fs1) ∧ Hid (Fs1.length ≤ M) ∧ Hid (FrW n0 B (fun j => j = bN) w wx) ∧ Hid (OwnM MB wx bN (boxP S xs.length) (setF V)) ∧ Hid (OwnI wx n0 (.slice As Sy.length cs) Sy) ∧ Hid (OwnM MI wx bl (boxP S xs.length) lf) ∧ Hid (OwnI wx B (.slice Al l.length cl) l))
        case first =>
          cases en
          · have HE0 : Hid (enumW (symsX F.arcs) 0 (AccS F xs V) = []) := by unfold Hid enumW; rw [if_neg (fun h => by have := HAN.out.1 h; cases this)]
            go_wp2_with fail
            go_meet
            exact ⟨fv, Fs, by rw [HE0.out]; simp, HKR.out, HFLR.out, HFM.out, HFR.out, HMR.out, HSYR.out, HMLR.out, HLR.out⟩
          · have HE0 : Hid (enumW (symsX F.arcs) 0 (AccS F xs V) = [[]]) := by unfold Hid enumW; rw [if_pos (HAN.out.2 rfl)]
            obtain ⟨us, hus⟩ := HFLR.out.row
            have HUS := Lib.hid hus
            obtain ⟨fA, fc, hfv⟩ : ∃ fA fc, fv = .slice fA Fs.length fc := by
              rcases hus.2 with ⟨h1, h2⟩ | ⟨g1, cap1, cur1, h1, _⟩
              · exact ⟨none, 0, by rw [h1, h2]⟩
              · exact ⟨_, _, h1⟩
            subst hfv
            clear hus
            obtain ⟨k0, k1, k2, k3, k4, k5, k6, k7⟩ := HKR.out.cells
            have hbl := HKR.out.lt
            have f7 := HKR.out.free 7
            have HMEM : Hid (1 ≤ ((enumW (symsX F.arcs) k (AccS F xs N)).map (l ++ ·)).length) := by
              rw [partW_whole HE.out.good HSD.out HSO.out HSM.out l k, HE0.out]
              simp [Hid]
            by_cases hfm : Fs.length = M
            · have hb1 : (Fs.length == M) = true := by simpa using hfm
              have hb2 : ((Fs.length : Int) == (M : Int)) = true := by simp [hfm]
              have HFE := Lib.hid hfm
              clear hfm
              go_wp2_with fail
              go_quiet (fail)
              go_wp2_with fail
              go_ret
              exact ⟨.inr ⟨by have := HMEM.out; have := HFE.out; omega, rfl⟩, HFR.out.drewN' _⟩
            · have hb1 : (Fs.length == M) = false := by simpa using hfm
              have hb2 : ((Fs.length : Int) == (M : Int)) = false := by simp; omega
              have hfl2 : Fs.length + 1 ≤ M := by have := HFM.out; omega
              have HFE := Lib.hid hfl2
              clear hfm hfl2
              go_wp2_with fail
              go_quiet (fail)
              go_upto_region 14 with (fail)
              clear k0 k1 k2 k3 k4 k5 k6 k7 f7 hbl hb1 hb2
              generalize hD : World.drewN wo _ = D
              have HKD := Lib.hid (show FinB D B S va vf g (.slice Ax xs.length cx) (.map (some bl)) M (.slice fA Fs.length fc) from by rw [← hD]; exact HKR.out)
              have HFLD := Lib.hid (show OwnL D B (.slice fA Fs.length fc) Fs from by rw [← hD]; exact HFLR.out)
              have HLD := Lib.hid (show OwnI D B (.slice Al l.length cl) l from by rw [← hD]; exact HLR.out)
              have HMD := Lib.hid (show OwnM MB D bN (boxP S xs.length) (setF V) from by rw [← hD]; exact HMR.out.same rfl)
              have HMLD := Lib.hid (show OwnM MI D bl (boxP S xs.length) lf from by rw [← hD]; exact HMLR.out.same rfl)
              have HSYD := Lib.hid (show OwnI D n0 (.slice As Sy.length cs) Sy from by rw [← hD]; exact HSYR.out)
              have HFRD := Lib.hid (show FrW n0 B (fun j => j = bN) w D from by rw [← hD]; exact HFR.out.drewN' _)
              clear hD
              obtain ⟨k0, k1, k2, k3, k4, k5, k6, k7⟩ := HKD.out.cells
              have hbl := HKD.out.lt
              have hDn : n0 ≤ D.heap.size := by have := HFRD.out.size; have := HN0.out; omega
              have hBD : B ≤ D.heap.size := by omega
              have hfl3 : Fs.length ≤ 1000000 := by have := HFM.out; omega
              go_wp2_with (at_builtin; refine wpList_app_word rfl (.tmp 68) (.tmp 70) rfl B (.slice fA Fs.length fc) Fs rfl HFLD.out (.slice Al l.length cl) l HLD.out Fs.length (Lib.hid rfl) hfl3 hBD rfl ?_; intro g5 cap5 w5 ho5 hg5; have HK5 := Lib.hid (HKD.out.app HFLD.out hg5); obtain ⟨k57, f57, l57⟩ := HK5.out.facts7; have HO5 := Lib.hid ho5; have HG5 := Lib.hid hg5; clear ho5 hg5)
              clear k0 k1 k2 k3 k4 k5 k6 k7 hbl
              go_meet
              have hty : ∀ (k : Nat) (cs : Array Value) (mm : Nat × Nat), D.heap[k]? = some (Obj.cells cs 3 mm) → ∀ cs' m', D.heap[k]? ≠ some (Obj.cells cs' 23 m') := fun k cs mm h1 cs' m' h3 => by
                rw [h1] at h3
                simp only [Option.some.injEq, Obj.cells.injEq] at h3
                exact absurd h3.2.1 (by decide)
              refine ⟨_, Fs ++ [l], by rw [HE0.out]; simp, HK5.out.set7 _, ?_, by unfold Hid; simp; have := HFE.out; omega, ?_, ?_, ?_, ?_, ?_⟩
              · exact HO5.out.keep fun k cs t m hk ht hb => Below.heap_setCell w5 ⟨B, 7, none⟩ _ k (fin_type HK5.out hk ht)
              · obtain ⟨us2, hus2⟩ := HFLD.out.row
                exact FrW.set7 rfl (HFRD.out.grownL hus2 HG5.out hDn)
              · exact HMD.out.same (set7_same HFLD.out HG5.out HMD.out.lt (by have := HBN.out; omega) (fun cs m hc => HMD.out.ne hc rfl))
              · exact own_keep HSYD.out fun k cs m _ hk _ => set7_same HFLD.out HG5.out (Array.getElem?_eq_some_iff.1 hk).1 (fin_type HKD.out hk (.inr rfl)) (hty _ _ _ hk)
              · exact HMLD.out.same (set7_same HFLD.out HG5.out HMLD.out.lt (by have := HBL.out; omega) (fun cs m hc => HMLD.out.ne hc rfl))
              · exact own_keep HLD.out fun k cs m _ hk _ => set7_same HFLD.out HG5.out (Array.getElem?_eq_some_iff.1 hk).1 (fin_type HKD.out hk (.inr rfl)) (hty _ _ _ hk)
        case rest =>
        obtain ⟨fv1, Fs1, hFs1, HKC, HFLC, HFMC, HFC, HMC, HSYC, HMLC, HLC⟩ := hcut
        have HTOT : Hid (Fs ++ (enumW (symsX F.arcs) k (AccS F xs N)).map (l ++ ·) = Fs1 ++ partW F xs V Sy l k Sy.length) := by
          rw [partW_whole HE.out.good HSD.out HSO.out HSM.out l k, ← List.append_assoc, ← hFs1]
          rfl
        clear hFs1 HKR HMR HMLR HLR HFLR HSYR HFR HEN HBW
        have HPW := Lib.hid (partW_le F xs V Sy l k)
        have HPS := Lib.hid (fun (k' j : Nat) (x : Int) (r : List Int) (h : Sy.drop j = x :: r) => partW_succ F xs V l k' j h)
        have HPZ := Lib.hid (partW_zero F xs V Sy l k)
        clear HZA HAN HZ0 HZ1
        go_wp2_with fail
        go_loopg [76] Sy.length (fun gk v76 wr => ∃ (j : Nat) (fv2 : Value) (Fs2 : List (List Int)), j ≤ Sy.length ∧ gk = Sy.length - j ∧ v76 = .int .i64 j ∧ Hid (Fs2 = Fs1 ++ partW F xs V Sy l k j) ∧ Hid (FinB wr B S va vf g (.slice Ax xs.length cx) (.map (some bl)) M fv2) ∧ Hid (OwnL wr B fv2 Fs2) ∧ Hid (Fs2.length ≤ M) ∧ Hid (FrW n0 B (fun j => j = bN) w wr) ∧ Hid (OwnM MB wr bN (boxP S xs.length) (setF V)) ∧ Hid (OwnI wr n0 (.slice As Sy.length cs) Sy) ∧ Hid (OwnM MI wr bl (boxP S xs.length) lf) ∧ Hid (OwnI wr B (.slice Al l.length cl) l))
        case atStart => exact ⟨0, fv1, Fs1, Nat.zero_le _, rfl, rfl, by rw [HPZ.out]; simp [Hid], HKC.out, HFLC.out, HFMC.out, HFC.out, HMC.out, HSYC.out, HMLC.out, HLC.out⟩
        case round =>
          obtain ⟨j, fv2, Fs2, hj, hg2, rfl, HFS2, HK2, HFL2, HFM2, HF2, HM2, HSY2, HML2, HL2⟩ := hrel
          have HG2 := Lib.hid hg2
          clear hg2 HKC HFLC HFMC HFC HMC HSYC HMLC HLC
          by_cases hlt : j < Sy.length
          · obtain ⟨A', n', c', hee, _, _, HNS, HRS⟩ := HSY2.out.rd.op
            cases hee
            obtain ⟨sb, soff, x, rfl, hsb, hsd, se0⟩ := HRS.out j hlt
            have hxs : SymsP F xs V x := (HSM.out x).1 (List.mem_of_mem_drop (by rw [hsd.out]; exact List.mem_cons_self))
            have HX0 := Lib.hid hxs.1
            clear hxs
            go_upto_region 19 with (fail)
            clear se0
            generalize hX : World.alloc wr _ = X
            obtain ⟨bX, hbX⟩ : ∃ bX, wr.heap.size = bX := ⟨_, rfl⟩
            have HBXN : Hid (bN < bX ∧ bl < bX ∧ B < bX ∧ n0 ≤ bX) := ⟨by have := HM2.out.lt; omega, by have := HML2.out.lt; omega, by have := HK2.out.lt; omega, by have := HF2.out.size; have := HN0.out; omega⟩
            have HBX1 : Hid (Below wr.heap.size wr X) := by rw [← hX]; exact (Below.refl _ _).alloc (Nat.le_refl _) _
            have HMX : Hid (OwnM MB X bX (boxP S xs.length) (setF fun _ => false)) := by rw [← hX, ← setF_none]; exact OwnM.made MB wr _ bX hbX
            have HMV := Lib.hid (HM2.out.below HBX1.out)
            rw [hbX]
            have HBXE : Hid (wr.heap.size = bX) := hbX
            clear hX hbX
            go_wp2_with (first | (at_range; refine wpList_rangeM (S := MB) rfl (.tmp 81) rfl bN (boxP S xs.length) (setF V) rfl HMV.out ?_; intro w5 cnt5 hor hcn hg1 hs1) | fail)
            try go_frame
            obtain ⟨rJ, hrJ⟩ : ∃ rJ, X.heap.size = rJ := ⟨_, rfl⟩
            rw [hrJ] at hor ⊢
            have HRJ : Hid (bX < rJ) := by have := HMX.out.lt; unfold Hid; omega
            have HOR5 := Lib.hid hor
            have HMX5 : Hid (OwnM MB w5 bX (boxP S xs.length) (setF fun _ => false)) := HMX.out.kept hg1 (by simp)
            have HB5 : Hid (Below wr.heap.size wr w5) := HBX1.out.grown hg1 HBX1.out.size (fun j hj => by cases hj)
            obtain ⟨wo, rfl⟩ : ∃ wo : World, wo = wr := ⟨_, rfl⟩
            clear hor hcn hg1 hs1 hrJ HMX HMV HBX1
            go_loopg [] cnt5 (fun gk wz => ∃ (left V2 : Plc → Bool), Hid (OwnR MB wz bN rJ (boxP S xs.length) (setF V) left gk) ∧ Hid (OwnM MB wz bX (boxP S xs.length) (setF V2)) ∧ Hid (∀ d, V2 d = true → ∃ c a, V c = true ∧ Lv F xs a c ∧ a.out = x ∧ d = nxP a c) ∧ Hid (∀ c, V c = true → left c = false → ∀ a, Lv F xs a c → a.out = x → V2 (nxP a c) = true) ∧ Hid (Below wo.heap.size wo wz))
            case atStart => exact ⟨_, _, HOR5.out, HMX5.out, (fun d h => by cases h), (fun c hc h => by rw [setF_isSome] at h; rw [hc] at h; cases h), HB5.out⟩
            case round =>
              obtain ⟨left, V2, HOR, HMX, HV1, HV2, HBR⟩ := hrel
              go_wp2_with (first | (at_next; refine wpList_nextB rfl (.tmp 82) rfl bN rJ (boxP S xs.length) V left gk rfl HOR.out (fun hc0 hl0 => ?_) (fun q i w3 cnt3 hcw hlc hfc hor3 hlt3 hg3 hs3 hen => ?_)) | fail)
              · have HWR : Hid (IsWr F xs V x V2) := fun d => ⟨HV1.out d, fun ⟨c, a, h1, h2, h3, h4⟩ => by
                  rw [h4]
                  exact HV2.out c h1 (hl0 c ((HSD.out.2.1 c h1).wf (by rw [HE.out.st]; omega) (by omega))) a h2 h3⟩
                have HBV2 : Hid (BoxP F xs V2) := fun d hd => by
                  obtain ⟨c, a, h1, h2, _, rfl⟩ := HV1.out d hd
                  exact (HSD.out.2.1 c h1).step HE.out.good h2
                clear hc0 hl0 HV1 HV2 HOR HOR5 HMX5 HB5
                have HKR := Lib.hid (HK2.out.below HBR.out)
                have HFLR := Lib.hid (HFL2.out.below HBR.out)
                have HMR := Lib.hid (HM2.out.below HBR.out)
                have HMLR := Lib.hid (HML2.out.below HBR.out)
                have HLR : Hid (OwnI wr B (.slice Al l.length cl) l) := own_below HL2.out HBR.out
                have HSYR : Hid (OwnI wr n0 (.slice (some ⟨sb, soff, none⟩) Sy.length cs) Sy) := own_below HSY2.out HBR.out
                have hnw : n0 ≤ wo.heap.size := by have := HF2.out.size; have := HN0.out; omega
                have HFR : Hid (FrW n0 B (fun j => j = bN) w wr) := HF2.out.trans (.of_below (HBR.out.mono hnw))
                clear HK2 HFL2 HM2 HML2 HL2 HSY2 HF2 hnw
                refine Lib.hid ?_
                cases k with
                | zero =>
                  go_wp2_with fail
                  go_roundg (Sy.length - (j + 1))
                  case measure => rw [HG2.out]; omega
                  case rel => exact ⟨j + 1, fv2, Fs2, by omega, rfl, by go_num, by rw [Hid, HFS2.out]; rfl, HKR.out, HFLR.out, HFM2.out, HFR.out, HMR.out, HSYR.out, HMLR.out, HLR.out⟩
                | succ k' =>
                  have hk0 : (0 : Int) < ((k' : Int) + 1) := by omega
                  have hkw : wrap64 (k' : Int) = (k' : Int) := wrap_small k' (Nat.le_of_lt (Nat.lt_of_lt_of_le (Nat.lt_succ_self k') (Nat.le_trans (Nat.le_add_left _ _) HLE.out)))
                  have hll : l.length ≤ 1000000 := Nat.le_trans (Nat.le_add_right _ _) (Nat.le_trans HLE.out (by decide))
                  go_wp2_with fail
                  refine (clone_any _ l _ HLR.out.rd hll).mono ?_
                  rintro e w7 ⟨⟨v7, rfl, ho7⟩, hb7⟩
                  have HB7 : Hid (Below wo.heap.size wo w7) := bchain HBR.out hb7
                  have HO7 := Lib.hid ho7
                  have HS7 : Hid (wr.heap.size ≤ w7.heap.size ∧ wo.heap.size ≤ wr.heap.size) := ⟨hb7.size, HBR.out.size⟩
                  have hb8 : wr.heap.size ≤ w7.heap.size := hb7.size
                  have HBL7 := Lib.hid hb7
                  clear ho7 hb7
                  go_wp2_with (at_builtin; refine wpList_app_intG (by rfl) (.tmp 130) (.tmp 132) rfl wr.heap.size v7 l rfl HO7.out x hll hb8 rfl ?_; intro g8 cap8 w8 ho8 hg8; have HO8 := Lib.hid ho8; have HG8 := Lib.hid hg8; clear ho8 hg8)
                  clear hb8 hkw hk0
                  have HW8 : Hid (Below wr.heap.size wr w8) := HBL7.out.grown HG8.out HS7.out.1 (fun k hk => (World.ownsRow.lt HO7.out k hk).1)
                  have HK8 := Lib.hid (HKR.out.below HW8.out)
                  have HFL8 := Lib.hid (HFLR.out.below HW8.out)
                  have HM8 := Lib.hid (HMR.out.below HW8.out)
                  have HML8 := Lib.hid (HMLR.out.below HW8.out)
                  have HMX8 := Lib.hid (HMX.out.below HW8.out)
                  have HL8 : Hid (OwnI w8 B (.slice Al l.length cl) l) := own_below HLR.out HW8.out
                  have HSY8 : Hid (OwnI w8 n0 (.slice (some ⟨sb, soff, none⟩) Sy.length cs) Sy) := own_below HSYR.out HW8.out
                  have hnw : n0 ≤ wr.heap.size := by have := HFR.out.size; have := HN0.out; omega
                  have HF8 : Hid (FrW n0 B (fun j => j = bN) w w8) := HFR.out.trans (.of_below (HW8.out.mono hnw))
                  have HBW8 : Hid (Below B w₀ w8) := HB0.out.trans (HF8.out.below (by have := HBn.out; omega) (fun k hk e => by have := HBN.out; omega))
                  have HL9 : Hid (OwnI w8 B (.slice (some ⟨g8, 0, none⟩) (l.length + 1) cap8) (l ++ [x])) := own_base HO8.out (by have := HBn.out; omega)
                  clear HKR HFLR HMR HMLR HLR HSYR HFR hnw
                  refine (HREC.out k' rfl w8 bX _ fv2 (l ++ [x]) Fs2 V2 HBW8.out HK8.out HML8.out HBL.out.1 (by have := HBXN.out; omega) HMX8.out HBV2.out HBXN.out.2.2.1 HL9.out (by have := HLE.out; simp; omega) HFL8.out HFM2.out).mono ?_
                  rintro e w9 ⟨hpost, hfr9⟩
                  have HFR9 := Lib.hid hfr9
                  have HEX : Hid ((enumW (symsX F.arcs) k' (AccS F xs V2)).map ((l ++ [x]) ++ ·) = (enumW (symsX F.arcs) k' (fun u => AccS F xs V (x :: u))).map ((l ++ [x]) ++ ·)) := by
                    rw [Hid, enumW_congr (fun u => (acc_cons HSD.out.2.1 HSD.out.2.2.1 HX0.out HWR.out u).symm)]
                  have hst := HPS.out k' j x _ hsd.out
                  rw [← HEX.out] at hst
                  have HST := Lib.hid hst
                  have HF9 : Hid (FrW n0 B (fun j => j = bN) w w9) := HF8.out.inner HFR9.out (by have := HF8.out.size; have := HN0.out; omega) (fun j hj he => by have := HBXN.out; omega)
                  clear hfr9 hst
                  rcases hpost with ⟨hp1, rfl, fv9, hk9, hl9⟩ | ⟨hp1, rfl⟩
                  · have HK9 := Lib.hid hk9
                    have HFL9 := Lib.hid hl9
                    have HP1 := Lib.hid hp1
                    clear hk9 hl9 hp1
                    go_wp2_with fail
                    go_roundg (Sy.length - (j + 1))
                    case measure => rw [HG2.out]; omega
                    case rel =>
                      have hBt : ∀ cs t m, w8.heap[B]? = some (.cells cs t m) → t ≠ 3 := fun cs t m h e => fin_type HK8.out h (.inr e) rfl
                      have hXt : ∀ k, k = bX → ∀ cs t m, w8.heap[k]? ≠ some (.cells cs t m) := fun k e cs t m h => HMX8.out.ne h e
                      exact ⟨j + 1, fv9, _, by omega, rfl, by go_num, by rw [Hid, HST.out, ← List.append_assoc, ← HFS2.out], HK9.out, HFL9.out, by have := HP1.out; unfold Hid; rw [List.length_append]; exact this, HF9.out, HFR9.out.map HM8.out HM8.out.lt (by have := HBN.out; omega) (by have := HBXN.out; omega), HFR9.out.ownI HSY8.out (Nat.le_refl _) hBt hXt, HFR9.out.map HML8.out HML8.out.lt (by have := HBL.out; omega) (by have := HBXN.out; omega), HFR9.out.ownI HL8.out (Nat.le_refl _) hBt hXt⟩
                  · have HP1 := Lib.hid hp1
                    clear hp1
                    go_wp2_with fail
                    go_ret
                    refine ⟨.inr ⟨?_, rfl⟩, HF9.out⟩
                    have h := congrArg List.length HTOT.out
                    have h2 := HPW.out (j + 1)
                    have h3 := congrArg List.length HFS2.out
                    have h4 := congrArg List.length HST.out
                    simp only [List.length_append] at h h3 h4
                    have := HP1.out
                    omega
              · have HVC := Lib.hid hfc
                have HOR3 := Lib.hid hor3
                have HLT := Lib.hid hlt3
                have HLC := Lib.hid hlc
                have hr1 : wo.heap.size ≤ wr.heap.size := HBR.out.size
                have HB3 : Hid (Below wo.heap.size wo w3) := HBR.out.grown hg3 hr1 (fun j hj => by cases hj; have := HRJ.out; have := HBXE.out; omega)
                have HMX3 : Hid (OwnM MB w3 bX (boxP S xs.length) (setF V2)) := HMX.out.kept hg3 (by have := HRJ.out; simp; omega)
                have HPBX := Lib.hid (HSD.out.2.1 _ hfc)
                clear hcw hlc hfc hor3 hlt3 hg3 hs3 hr1
                obtain ⟨sq, si, e1, e2⟩ : ∃ sq si : Nat, q = (sq : Int) ∧ i = (si : Int) := ⟨q.toNat, i.toNat, by have := HPBX.out.q0; simp only at this; omega, by have := HPBX.out.i0; simp only at this; omega⟩
                subst e1
                subst e2
                have hsq : sq < S := by have := HPBX.out.q1; rw [HE.out.st] at this; simp only at this; omega
                have hsi : si ≤ xs.length := by have := HPBX.out.i1; simp only at this; omega
                refine Lib.hid ?_
                go_upto_region 22 with (fail)
                clear hen
                generalize hP : World.alloc w3 _ = Y
                obtain ⟨gc, hgc⟩ : ∃ gc, w3.heap.size = gc := ⟨_, rfl⟩
                have HCB : Hid (PBlk Y gc ⟨(sq : Int), (si : Int)⟩) := by rw [← hP, ← hgc]; exact heap_alloc_new w3 _
                have HPBl : Hid (Below w3.heap.size w3 Y) := by rw [← hP]; exact (Below.refl _ _).alloc (Nat.le_refl _) _
                have HBY : Hid (Below wo.heap.size wo Y) := bchain HB3.out HPBl.out
                have HORY := Lib.hid (HOR3.out.below HPBl.out)
                have HMXY := Lib.hid (HMX3.out.below HPBl.out)
                have HGC : Hid (bX < gc) := by have := HMX3.out.lt; unfold Hid; omega
                rw [hgc]
                clear hP hgc HOR3 HMX3 HB3
                obtain ⟨t0, t1⟩ := HCB.out.cells
                dsimp only at t0 t1
                have hgcl := HCB.out.lt
                have hKP := HK2.out.below HBY.out
                obtain ⟨k0, k1, k2, k3, k4, k5, k6, k7⟩ := hKP.cells
                have hbl := hKP.lt
                have hnw : n0 ≤ wo.heap.size := by have := HF2.out.size; have := HN0.out; omega
                have HBB : Hid (Below B w₀ wo) := HB0.out.trans (HF2.out.below (by have := HBn.out; omega) (fun k hk e => by have := HBN.out; omega))
                have hBB : Below w₀.heap.size w₀ Y := by rw [HE.out.sz]; exact HBB.out.trans (HBY.out.mono (by have := HBn.out; omega))
                obtain ⟨Aa, na, ca, hta2, hra⟩ := HE.out.tab.at_ hsq
                have hta := (hBB.cell (p := ⟨g, sq, none⟩) HE.out.tab.1).trans hta2
                obtain ⟨Aa', na', ca', hee, ha1, ha2, HNA, HRA⟩ := hra.op
                cases hee
                have hql1 : (0 : Int) ≤ (sq : Int) := by omega
                have hql2 : (sq : Int) < (S : Int) := by omega
                have hgY : g < Y.heap.size := World.block_lt_of_cell? Y _ hta
                clear hta2 hra hBB hKP
                go_wp2_with fail
                go_quiet (fail)
                go_wp2_with fail
                clear hta hgY hgcl t0 t1 k0 k1 k2 k3 k4 k5 k6 k7 hbl
                generalize hY2 : World.drewN Y _ = Y2
                have HORZ := Lib.hid (show OwnR MB Y2 bN rJ (boxP S xs.length) (setF V) _ _ from by rw [← hY2]; exact HORY.out.below (below_drewN (Below.refl _ _) _))
                have HMXZ := Lib.hid (show OwnM MB Y2 bX (boxP S xs.length) (setF V2) from by rw [← hY2]; exact HMXY.out.same rfl)
                have HCBZ := Lib.hid (show PBlk Y2 gc ⟨(sq : Int), (si : Int)⟩ from by rw [← hY2]; exact HCB.out)
                have HBZ := Lib.hid (show Below wo.heap.size wo Y2 from by rw [← hY2]; exact below_drewN HBY.out _)
                clear hY2 HORY HMXY HCB HBY
                go_loopg [96] na (fun g3 v96 wz => ∃ (j2 : Nat) (V3 : Plc → Bool), j2 ≤ na ∧ g3 = na - j2 ∧ v96 = .int .i64 j2 ∧ Hid (OwnR MB wz bN rJ (boxP S xs.length) (setF V) (fun d => left d && decide (d ≠ ⟨(sq : Int), (si : Int)⟩)) cnt3) ∧ Hid (OwnM MB wz bX (boxP S xs.length) (setF V3)) ∧ Hid (∀ d, V2 d = true → V3 d = true) ∧ Hid (∀ d, V3 d = true → ∃ c a, V c = true ∧ Lv F xs a c ∧ a.out = x ∧ d = nxP a c) ∧
                  Hid (∀ a, a ∈ (arcsOf F.arcs sq).take j2 → okP xs a ⟨(sq : Int), (si : Int)⟩ = true → a.out = x → V3 (nxP a ⟨(sq : Int), (si : Int)⟩) = true) ∧ Hid (PBlk wz gc ⟨(sq : Int), (si : Int)⟩) ∧ Hid (Below wo.heap.size wo wz))
                case atStart => exact ⟨0, V2, Nat.zero_le _, rfl, rfl, HORZ.out, HMXZ.out, (fun _ h => h), HV1.out, (fun a ha => by simp at ha), HCBZ.out, HBZ.out⟩
                case round =>
                  obtain ⟨j2, V3, hj2, hg3, rfl, HOR4, HMX4, HV23, HV31, HV3N, HC4, HB4⟩ := hrel
                  have HG3 := Lib.hid hg3
                  clear hg3
                  by_cases hlt2 : j2 < na
                  · obtain ⟨bb, off, x0, x1, x2, x3, rfl, hbb, hdr, e0, e1, e2, e3⟩ := (HRA.out j2 hlt2).below (by rw [HE.out.sz]; exact HBB.out.trans (HB4.out.mono (by have := HBn.out; omega)))
                    have HAM : Hid ((⟨x0, x1, x2, x3⟩ : PArc) ∈ arcsOf F.arcs sq) := List.mem_of_mem_drop (by rw [hdr.out]; exact List.mem_cons_self)
                    have HTK : Hid ((arcsOf F.arcs sq).take (j2 + 1) = (arcsOf F.arcs sq).take j2 ++ [⟨x0, x1, x2, x3⟩]) := take_of_drop hdr.out
                    have HAMF : Hid ((⟨x0, x1, x2, x3⟩ : PArc) ∈ F.arcs ∧ x0 = (sq : Int)) := by
                      have h := HAM.out
                      simp only [arcsOf, List.mem_filter, beq_iff_eq] at h
                      exact h
                    go_upto_region 25 with (fail)
                    generalize hZ : World.alloc wr _ = Z
                    obtain ⟨ga, hga⟩ : ∃ ga, wr.heap.size = ga := ⟨_, rfl⟩
                    have HZB : Hid (Below wr.heap.size wr Z) := by rw [← hZ]; exact (Below.refl _ _).alloc (Nat.le_refl _) _
                    have HAB : Hid (ABlk Z ga x0 x1 x2 x3) := by rw [← hZ, ← hga]; exact heap_alloc_new wr _
                    have HGA : Hid (bX < ga) := by have := HMX4.out.lt; unfold Hid; omega
                    rw [hga]
                    clear hZ hga e0 e1 e2 e3
                    have HORA := Lib.hid (HOR4.out.below HZB.out)
                    have HMXA := Lib.hid (HMX4.out.below HZB.out)
                    have HCA := Lib.hid (HC4.out.below HZB.out)
                    have HBA : Hid (Below wo.heap.size wo Z) := bchain HB4.out HZB.out
                    clear HOR4 HMX4 HC4 HB4 HZB
                    have hKZ := HK2.out.below HBA.out
                    obtain ⟨k0, k1, k2, k3, k4, k5, k6, k7⟩ := hKZ.cells
                    have hbl := hKZ.lt
                    obtain ⟨t0, t1⟩ := HCA.out.cells
                    dsimp only at t0 t1
                    obtain ⟨u0, u1, u2, u3⟩ := HAB.out.cells
                    have hgcl := HCA.out.lt
                    have hgal := (Array.getElem?_eq_some_iff.1 HAB.out).1
                    have HXZ : Hid (RdI Z (.slice Ax xs.length cx) xs) := HE.out.inp.below (by rw [HE.out.sz]; exact HBB.out.trans (HBA.out.mono (by have := HBn.out; omega)))
                    clear hKZ
                    go_wp2_with fail
                    go_quiet (first | (go_at_call 37; exact Calls.quiet_of (eat_any _ xs si x1 _ HXZ.out hsi (by omega))))
                    clear k0 k1 k2 k3 k4 k5 k6 k7 hbl t0 t1 u0 u1 u2 u3 hgcl hgal
                    obtain ⟨ti, hti⟩ : ∃ ti : Nat, (si : Int) + (stepD x1 : Int) = (ti : Int) := ⟨si + stepD x1, by simp⟩
                    rw [hti]
                    have HT : Hid ((si : Int) + (stepD x1 : Int) = (ti : Int)) := hti
                    obtain ⟨ok1, hok⟩ : ∃ ok1, stepOk xs si x1 = ok1 := ⟨_, rfl⟩
                    rw [hok]
                    have HOK : Hid (stepOk xs si x1 = ok1) := hok
                    clear hti hok
                    generalize hY2 : World.drewN Z _ = Y3
                    have HORB := Lib.hid (show OwnR MB Y3 bN rJ (boxP S xs.length) (setF V) _ _ from by rw [← hY2]; exact HORA.out.below (below_drewN (Below.refl _ _) _))
                    have HMXB := Lib.hid (show OwnM MB Y3 bX (boxP S xs.length) (setF V3) from by rw [← hY2]; exact HMXA.out.same rfl)
                    have HCBB := Lib.hid (show PBlk Y3 gc ⟨(sq : Int), (si : Int)⟩ from by rw [← hY2]; exact HCA.out)
                    have HAAB := Lib.hid (show ABlk Y3 ga x0 x1 x2 x3 from by rw [← hY2]; exact HAB.out)
                    have HBB3 := Lib.hid (show Below wo.heap.size wo Y3 from by rw [← hY2]; exact below_drewN HBA.out _)
                    clear hY2 HORA HMXA HCA HAB HBA HXZ
                    have HNXE : Hid (Go.Proofs.Ytmejihlplbeekaa.nxP ⟨x0, x1, x2, x3⟩ ⟨(sq : Int), (si : Int)⟩ = ⟨x3, (ti : Int)⟩) := by simp only [Hid, Go.Proofs.Ytmejihlplbeekaa.nxP]; rw [← HT.out]
                    have HSTEP : Hid (∀ (V4 : Plc → Bool), (∀ d, V3 d = true → V4 d = true) → (ok1 = true → x2 = x → V4 ⟨x3, (ti : Int)⟩ = true) →
                        ∀ a, a ∈ (arcsOf F.arcs sq).take (j2 + 1) → okP xs a ⟨(sq : Int), (si : Int)⟩ = true → a.out = x → V4 (Go.Proofs.Ytmejihlplbeekaa.nxP a ⟨(sq : Int), (si : Int)⟩) = true) := by
                      intro V4 hV4 hnew a ha ho hax
                      rw [HTK.out] at ha
                      rcases List.mem_append.1 ha with h | h
                      · exact hV4 _ (HV3N.out a h ho hax)
                      · have ea : a = ⟨x0, x1, x2, x3⟩ := by simpa using h
                        subst ea
                        have ho2 : ok1 = true := by rw [← HOK.out]; simpa only [okP, Int.toNat_natCast] using ho
                        rw [HNXE.out]
                        exact hnew ho2 hax
                    obtain ⟨u0, u1, u2, u3⟩ := HAAB.out.cells
                    have hgal := (Array.getElem?_eq_some_iff.1 HAAB.out).1
                    cases ok1
                    · skip
                      have HSP := Lib.hid (HSTEP.out V3 (fun _ h => h) (fun h => by cases h))
                      go_wp2_with fail
                      go_roundg (na - (j2 + 1))
                      case measure => rw [HG3.out]; omega
                      case rel => exact ⟨j2 + 1, V3, by omega, rfl, by go_num, HORB.out, HMXB.out, HV23.out, HV31.out, HSP.out, HCBB.out, HBB3.out⟩
                    · by_cases hxx : x2 = x
                      · have hb2 : (x2 == x) = true := by simpa using hxx
                        have HXX := Lib.hid hxx
                        have HLV : Hid (Lv F xs ⟨x0, x1, x2, x3⟩ ⟨(sq : Int), (si : Int)⟩) := ⟨HAMF.out.1, HAMF.out.2, by simp only [okP, Int.toNat_natCast]; exact HOK.out⟩
                        have HCBX : Hid (PBox F xs ⟨x3, (ti : Int)⟩) := by
                          have h := HPBX.out.step HE.out.good HLV.out
                          rw [HNXE.out] at h
                          exact h
                        have HWF : Hid (Plc.Wf ⟨x3, (ti : Int)⟩) := HCBX.out.wf (by rw [HE.out.st]; omega) (by omega)
                        clear hxx
                        go_wp2_with (first | (at_mapUpdate; refine wpList_putM (S := MB) rfl (.tmp 119) (.tmp 123) (.const (.bool true)) (.inl rfl) bX (boxP S xs.length) (setF V3) ⟨x3, ti⟩ true rfl rfl rfl HMXB.out HWF.out trivial (mem_boxP HE.out.st HCBX.out) HBX.out ?_; intro w4 hm4 hg4) | fail)
                        have HM4 : Hid (OwnM MB w4 bX (boxP S xs.length) (setF (addS V3 ⟨x3, (ti : Int)⟩))) := by rw [← put_setF]; exact hm4
                        have HG4 := Lib.hid hg4
                        clear hm4 hg4
                        go_roundg (na - (j2 + 1))
                        case measure => rw [HG3.out]; omega
                        case rel =>
                          refine ⟨j2 + 1, addS V3 ⟨x3, (ti : Int)⟩, by omega, rfl, by go_num, HORB.out.kept HG4.out (by have := HBXN.out; simp; omega) (by have := HRJ.out; simp; omega), HM4.out, (fun d h => addS_sub (HV23.out d h)), (fun d h => ?_), HSTEP.out _ (fun _ h => addS_sub h) (fun _ _ => addS_self _ _), HCBB.out.same (HG4.out.block gc HCBB.out.lt (by have := HGC.out; simp; omega)), HBB3.out.grown HG4.out HBB3.out.size (fun k hk => by cases hk; have := HBXE.out; omega)⟩
                          rcases addS_iff.1 h with rfl | h
                          · exact ⟨⟨(sq : Int), (si : Int)⟩, _, HVC.out, HLV.out, HXX.out, HNXE.out.symm⟩
                          · exact HV31.out d h
                      · have hb2 : (x2 == x) = false := by simpa using hxx
                        have HSP := Lib.hid (HSTEP.out V3 (fun _ h => h) (fun _ h => absurd h hxx))
                        clear hxx
                        go_wp2_with fail
                        go_roundg (na - (j2 + 1))
                        case measure => rw [HG3.out]; omega
                        case rel => exact ⟨j2 + 1, V3, by omega, rfl, by go_num, HORB.out, HMXB.out, HV23.out, HV31.out, HSP.out, HCBB.out, HBB3.out⟩
                  · have hjn : j2 = na := by omega
                    go_wp2_with fail
                    go_roundg cnt3
                    case measure => exact HLT.out
                    case rel =>
                      refine ⟨_, V3, HOR4.out, HMX4.out, HV31.out, (fun c hc hl a ha hax => ?_), HB4.out⟩
                      by_cases e : c = ⟨(sq : Int), (si : Int)⟩
                      · subst e
                        exact HV3N.out a (by rw [List.take_of_length_le (by rw [HNA.out]; omega)]; simp only [arcsOf, List.mem_filter, beq_iff_eq]; exact ⟨ha.1, ha.2.1⟩) ha.2.2 hax
                      · exact HV23.out _ (HV2.out c hc (by simpa [e] using hl) a ha hax)
          · have hjn : j = Sy.length := by omega
            subst hjn
            go_wp2_with fail
            go_ret
            refine ⟨.inl ⟨?_, rfl, fv2, HK2.out, ?_⟩, HF2.out⟩
            · have h := congrArg List.length HTOT.out
              rw [← HFS2.out] at h
              rw [List.length_append] at h
              have := HFM2.out
              omega
            · rw [HTOT.out, ← HFS2.out]
              exact HFL2.out
    · have HVC := Lib.hid hfc
      have HOR3 := Lib.hid hor3
      have HLT := Lib.hid hlt3
      have HCW := Lib.hid hcw
      have hr1 : w1.heap.size ≤ wr.heap.size := HBR.out.size
      have HB3 : Hid (Below w1.heap.size w1 w3) := HBR.out.grown hg3 hr1 (fun j hj => by cases hj; have := HRI.out; omega)
      clear hcw hlc hfc hor3 hlt3 hg3 hs3 hr1
      refine Lib.hid ?_
      go_upto_region 6 with (fail)
      clear hen
      generalize hP : World.alloc w3 _ = Pw
      obtain ⟨gp, hgp⟩ : ∃ gp, w3.heap.size = gp := ⟨_, rfl⟩
      have HPB : Hid (PBlk Pw gp ⟨q, i⟩) := by rw [← hP, ← hgp]; exact heap_alloc_new w3 _
      have HPBl : Hid (Below w3.heap.size w3 Pw) := by rw [← hP]; exact (Below.refl _ _).alloc (Nat.le_refl _) _
      have HBP : Hid (Below w1.heap.size w1 Pw) := bchain HB3.out HPBl.out
      have HORP := Lib.hid (HOR3.out.below HPBl.out)
      rw [hgp]
      clear hP hgp
      obtain ⟨t0, t1⟩ := HPB.out.cells
      dsimp only at t0 t1
      have hpl := HPB.out.lt
      have hKP := HK1.out.below HBP.out
      obtain ⟨k0, k1, k2, k3, k4, k5, k6, k7⟩ := hKP.cells
      have hbl := hKP.lt
      have HMLP := Lib.hid (HML1.out.below HBP.out)
      have hlk : ∀ n, (Instr.lookup 59 (.map (some bl)) (.agg #[.int .i64 q, .int .i64 i]) true).run Try.prog (Pw.drewN n) = .ok (.tuple #[.int .i64 ((lf ⟨q, i⟩).getD 0), .bool (lf ⟨q, i⟩).isSome]) (Pw.drewN n) := fun n => (HMLP.out.same (w' := Pw.drewN n) rfl).look_ok ⟨q, i⟩ HCW.out
      clear hKP
      obtain ⟨o1, ho1⟩ : ∃ o, lf ⟨q, i⟩ = o := ⟨_, rfl⟩
      have HO1 := Lib.hid ho1
      simp only [ho1] at hlk
      clear ho1
      have HZ2 : Hid (∀ z', z' ≤ z → (∀ u, o1 = some u → z' ≤ u) → ∀ c, V c = true → (left c && decide (c ≠ ⟨q, i⟩)) = false → ∀ u, lf c = some u → z' ≤ u) := by
        intro z' hz hu c hc hlc u hlu
        by_cases e : c = ⟨q, i⟩
        · subst e
          rw [HO1.out] at hlu
          exact hu u hlu
        · have := HZL.out c hc (by simpa [e] using hlc) u hlu
          omega
      go_wp2_with fail
      cases o1 with
      | none =>
        simp only [Option.getD_none, Option.isSome_none] at hlk
        go_quiet (fail)
        go_wp2_with fail
        go_roundg cnt3
        case measure => exact HLT.out
        case rel => exact ⟨z, fun d => left d && decide (d ≠ ⟨q, i⟩), rfl, HORP.out.below (below_drewN (Below.refl _ _) _), HZ.out, HZ2.out z (Int.le_refl _) (fun u h => by cases h), below_drewN HBP.out _⟩
      | some u =>
        simp only [Option.getD_some, Option.isSome_some] at hlk
        have HU := Lib.hid (HLF.out.val _ u HO1.out)
        go_quiet (fail)
        go_wp2_with fail
        go_roundg cnt3
        case measure => exact HLT.out
        case rel => exact ⟨min z u, fun d => left d && decide (d ≠ ⟨q, i⟩), rfl, HORP.out.below (below_drewN (Below.refl _ _) _), by have := HZ.out; have := HU.out; unfold Hid; simp only [Int.min_def]; split <;> omega, HZ2.out _ (by simp only [Int.min_def]; split <;> omega) (fun y h => by cases h; simp only [Int.min_def]; split <;> omega), below_drewN HBP.out _⟩
end Go.Proofs.Ytmejihlplbeekaa
