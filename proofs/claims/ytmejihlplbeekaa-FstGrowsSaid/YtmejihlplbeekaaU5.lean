/-
  Trim and Empty of the reference 20; Empty of fst.
-/
import Derived.Test.YtmejihlplbeekaaU4
namespace Go.Proofs.Ytmejihlplbeekaa
open Go.ChangeShapes Go.WideShapes Go.ChangeAt Go.RowKit
/-- the names that were given below k -/
structure NmOk (F : PFst) (S k : Nat) (D : List Int) : Prop where
  len : D.length = S
  nm : ∀ r, r < k → useB F r = true → D.getD r 0 = numU F r
theorem NmOk.start (F : PFst) (S : Nat) : NmOk F S 1 (List.replicate S 0) := by
  refine ⟨by simp, fun r hr _ => ?_⟩
  have : r = 0 := by omega
  subst this
  simp only [List.getD_eq_getElem?_getD, List.getElem?_replicate, numU, if_true]
  split <;> rfl
theorem NmOk.skip {F : PFst} {S k : Nat} {D : List Int} (h : NmOk F S k D) (hu : useB F k = false) : NmOk F S (k + 1) D :=
  ⟨h.len, fun r hr hr2 => by
    by_cases e : r = k
    · subst e; rw [hu] at hr2; cases hr2
    · exact h.nm r (by omega) hr2⟩
theorem NmOk.set {F : PFst} {S k : Nat} {D : List Int} (h : NmOk F S k D) (hk : k < S) : NmOk F S (k + 1) (D.set k (numU F k)) :=
  ⟨by rw [List.length_set]; exact h.len, fun r hr hr2 => by
    rw [getD_setI]
    by_cases e : k = r
    · subst e; rw [if_pos ⟨rfl, by rw [h.len]; exact hk⟩]
    · rw [if_neg (fun h => e h.1)]; exact h.nm r (by omega) hr2⟩
set_option maxHeartbeats 4000000 in
set_option maxRecDepth 100000 in
theorem rtrim_any (v : Value) (F : PFst) (w : World) (hv : RdF w v F) (hF : FinOk F) (hFl : F.final.length ≤ 1000000) :
    Calls Try.prog 27 #[v] w fun e w' => (∃ v', e = .returned v' ∧ OwnF w.heap.size w' v' (trimF F)) ∧ Below w.heap.size w w' := by
  have HV := Lib.hid hv
  obtain ⟨va, vf, rfl, ha, hf⟩ := hv
  obtain ⟨A, n, c, rfl, _, _, hn, hr⟩ := ha.op
  obtain ⟨A', n', c', rfl, _, _, hn', hr'⟩ := hf.op
  have HF := Lib.hid hF
  have HFL := Lib.hid hFl
  obtain ⟨S, hS⟩ : ∃ S : Nat, F.states = (S : Int) := ⟨F.states.toNat, by have := hF.right.1; omega⟩
  have hS2 : S ≤ 4096 := by have := hF.st; omega
  have hS1 : 1 ≤ S := by have := hF.right.1; omega
  have hnl : n ≤ 262144 := by have := hF.al; rw [hn.out] at this; exact this
  have HSN := Lib.hid hS
  have hmk := fun W => run_make_rowN (P := Try.prog) 23 3 infoIx.choose (.int .i64 0) Try.underlying23 infoIx.choose_spec.1 infoIx.choose_spec.2.1 .i64 .i64 S S (Nat.le_refl _) (by rw [infoIx.choose_spec.2.2.2]; omega) (by omega) W
  rw [infoIx.choose_spec.2.2.1, made_ints] at hmk
  rw [hS]
  clear ha hf hF hFl hS
  go_enter Try.func27, Try.ntmps27
  go_wp2_with fail
  generalize hw1 : World.alloc w _ = W1
  obtain ⟨B, hB⟩ : ∃ B, w.heap.size = B := ⟨_, rfl⟩
  have HB1 : Hid (Below w.heap.size w W1) := by rw [← hw1]; exact (Below.refl _ _).alloc (Nat.le_refl _) _
  have HP1 : Hid (FBlk W1 B (.int .i64 (S : Int)) (.slice A n c) (.slice A' n' c')) := by rw [← hw1, ← hB]; exact heap_alloc_new w _
  have hs1 : W1.heap.size = B + 1 := by rw [← hw1, ← hB]; simp
  generalize hw2 : World.alloc W1 _ = W2
  obtain ⟨br, hbr⟩ : ∃ br, B + 1 = br := ⟨_, rfl⟩
  have HX2 : Hid (Below W1.heap.size W1 W2) := by rw [← hw2]; exact (Below.refl _ _).alloc (Nat.le_refl _) _
  have HR2 : Hid (FBlk W2 br (.int .i64 0) (.slice none 0 0) (.slice none 0 0)) := by rw [← hw2, ← hbr, ← hs1]; exact heap_alloc_new W1 _
  have HP2 := Lib.hid (HP1.out.below HX2.out)
  have HB2 : Hid (Below w.heap.size w W2) := bchain HB1.out HX2.out
  have HGS : Hid (w.heap.size = B ∧ B + 1 = br) := ⟨hB, hbr⟩
  rw [hB, hbr]
  clear hw1 hw2 hs1 hB hbr HB1 HP1 HX2
  have h1 := ruseful_any _ F W2 (HV.out.below HB2.out) HF.out
  rw [HSN.out] at h1
  refine h1.mono ?_
  rintro e W3 ⟨⟨gu, rfl, hgu, M, hm, hml, hmu⟩, hb⟩
  simp only [Int.toNat_natCast] at hml hmu ⊢
  have HM3 := Lib.hid hm
  have HML := Lib.hid hml
  have HMU := Lib.hid hmu
  have HB3 : Hid (Below w.heap.size w W3) := bchain HB2.out hb
  have HP3 := Lib.hid (HP2.out.below hb)
  have HR3 := Lib.hid (HR2.out.below hb)
  have HGU : Hid (br < gu) := by have := HR2.out.lt; unfold Hid; omega
  clear hm hml hmu hb h1 hgu HB2 HP2 HR2
  obtain ⟨p0, p1, p2, _, _, _⟩ := HP3.out.facts
  have hpl := HP3.out.lt
  go_wp2_with fail
  clear p0 p1 p2 hpl hmk
  obtain ⟨gn, hgn⟩ : ∃ gn, W3.heap.size = gn := ⟨_, rfl⟩
  generalize hw4 : World.alloc W3 _ = W4
  have HX4 : Hid (Below W3.heap.size W3 W4) := by rw [← hw4]; exact (Below.refl _ _).alloc (Nat.le_refl _) _
  have HN4 : Hid (Ins W4 gn (List.replicate S 0)) := by rw [← hw4, ← hgn]; exact heap_alloc_new W3 _
  have hs4 : W4.heap.size = gn + 1 := by rw [← hw4, World.size_alloc, hgn]
  generalize hw5 : World.alloc W4 _ = W5
  obtain ⟨bt, hbt⟩ : ∃ bt, gn + 1 = bt := ⟨_, rfl⟩
  have HX5 : Hid (Below W4.heap.size W4 W5) := by rw [← hw5]; exact (Below.refl _ _).alloc (Nat.le_refl _) _
  have HT5 : Hid (FBlk W5 bt (.int .i64 1) (.slice none 0 0) (.slice none 0 0)) := by rw [← hw5, ← hbt, ← hs4]; exact heap_alloc_new W4 _
  have HN5 := Lib.hid (HN4.out.below HX5.out)
  have HX35 : Hid (Below W3.heap.size W3 W5) := bchain HX4.out HX5.out
  have HP5 := Lib.hid (HP3.out.below HX35.out)
  have HR5 := Lib.hid (HR3.out.below HX35.out)
  have HM5 := Lib.hid (HM3.out.below HX35.out)
  have HB5 : Hid (Below w.heap.size w W5) := bchain HB3.out HX35.out
  have HGT : Hid (B + 1 = br ∧ br < gu ∧ gu < gn ∧ gn + 1 = bt ∧ w.heap.size = B) := ⟨HGS.out.2, HGU.out, by have := HM3.out.lt; omega, hbt, HGS.out.1⟩
  rw [hgn, hbt]
  clear hw4 hw5 hs4 hgn hbt HX4 HX5 HX35 HN4 HP3 HR3 HB3 HM3 HGS HGU
  obtain ⟨n5, hn5⟩ : ∃ n5, W5.heap.size = n5 := ⟨_, rfl⟩
  have HN5E := Lib.hid hn5
  have HLT5 : Hid (bt < n5) := by have := HT5.out.lt; unfold Hid; omega
  clear hn5
  have HC1 : Hid (cntU F 1 = 0) := by rw [Hid, cntU_succ]; simp [cntU]
  go_loopg [6] (S - 1) (fun gk v6 wr => ∃ (k : Nat) (D : List Int), 1 ≤ k ∧ k ≤ S ∧ gk = S - k ∧ v6 = .int .i64 k ∧ Hid (Ins wr gn D) ∧ Hid (NmOk F S k D) ∧ Hid (FBlk wr bt (.int .i64 (1 + (cntU F k : Int))) (.slice none 0 0) (.slice none 0 0)) ∧ Hid (Frm n5 (fun k => k = gn ∨ k = bt) W5 wr))
  case atStart => exact ⟨1, _, Nat.le_refl _, hS1, rfl, rfl, HN5.out, NmOk.start F S, by rw [HC1.out]; exact HT5.out, Frm.refl _ _ _⟩
  case round =>
    obtain ⟨k, D, hk1, hk, hg, rfl, HD, HNM, HT, HFR⟩ := hrel
    have HG := Lib.hid hg
    clear hg
    have HPr := Lib.hid (HFR.out.fblk HP5.out (by have := HGT.out; have := HLT5.out; omega) (by have := HGT.out; omega))
    have HMr : Hid (Bls wr gu M) := (HFR.out.2 gu (by have := HGT.out; have := HLT5.out; omega) (by have := HGT.out; omega)).trans HM5.out
    obtain ⟨p0, p1, p2, _, _, _⟩ := HPr.out.facts
    have hpl := HPr.out.lt
    by_cases hlt : k < S
    · have hcm := HMr.out.cell (j := k) (by rw [HML.out]; exact hlt)
      have hgl := HMr.out.lt
      rw [HMU.out k hlt] at hcm
      obtain ⟨t0, t1, t2, tf0, _, _⟩ := HT.out.facts
      have htl := HT.out.lt
      have hcn := HD.out.cell (j := k) (by rw [HNM.out.len]; exact hlt)
      have hfn := HD.out.free k
      have hnl := HD.out.lt
      have hcu := cntU_le F k
      cases hu : useB F k
      · rw [hu] at hcm
        have HCS : Hid (cntU F (k + 1) = cntU F k) := by rw [Hid, cntU_succ, hu]; simp
        have HNS := Lib.hid (HNM.out.skip hu)
        clear hu
        go_wp2_with fail
        go_roundg (S - (k + 1))
        case measure => rw [HG.out]; omega
        case rel => exact ⟨k + 1, D, by omega, by omega, rfl, by go_num, HD.out, HNS.out, by rw [HCS.out]; exact HT.out, HFR.out⟩
      · rw [hu] at hcm
        have HCS : Hid (cntU F (k + 1) = cntU F k + 1) := by rw [Hid, cntU_succ, hu, if_pos ⟨rfl, hk1⟩]
        have HNQ : Hid (numU F k = 1 + (cntU F k : Int)) := by rw [Hid, numU, if_neg (by omega)]
        clear hu
        have tq0 : (wr.setCell ⟨gn, k, none⟩ (.int .i64 (1 + (cntU F k : Int)))).cell? ⟨bt, 0, none⟩ = some (.int .i64 (1 + (cntU F k : Int))) := (World.cell?_of_block (a := ⟨bt, 0, none⟩) (Below.heap_setCell wr ⟨gn, k, none⟩ _ bt (by have := HGT.out; simp only; omega))).trans t0
        go_wp2_with fail
        go_roundg (S - (k + 1))
        case measure => rw [HG.out]; omega
        case rel =>
          have hst := HNM.out.set hlt
          rw [HNQ.out] at hst
          refine ⟨k + 1, _, by omega, by omega, rfl, by go_num, (Below.heap_setCell _ ⟨bt, 0, none⟩ _ gn (by have := HGT.out; simp only; omega)).trans (HD.out.set_ k _), hst, ?_, (HFR.out.setCell ⟨gn, k, none⟩ _ (.inl (.inl rfl))).setCell ⟨bt, 0, none⟩ _ (.inl (.inr rfl))⟩
          have h2 : FBlk (wr.setCell ⟨gn, k, none⟩ (.int .i64 (1 + (cntU F k : Int)))) bt (.int .i64 (1 + (cntU F k : Int))) (.slice none 0 0) (.slice none 0 0) := (Below.heap_setCell wr ⟨gn, k, none⟩ _ bt (by have := HGT.out; simp only; omega)).trans HT.out
          rw [HCS.out, show (1 + ((cntU F k + 1 : Nat) : Int)) = 1 + (cntU F k : Int) + 1 by omega]
          exact h2.set0 _
    · obtain rfl : S = k := by omega
      have HR6 := Lib.hid (HFR.out.fblk HR5.out (by have := HGT.out; have := HLT5.out; omega) (by have := HGT.out; omega))
      have HB6 : Hid (Below w.heap.size w wr) := HB5.out.trans (HFR.out.below (by have := HB5.out.size; have := HN5E.out; omega) (fun k hk e => by have := HGT.out; omega))
      go_wp2_with fail
      clear p0 p1 p2 hpl HP5 HR5 HB5 HFR HT5 HN5 HM5
      obtain ⟨wo, rfl⟩ : ∃ wo : World, wo = wr := ⟨_, rfl⟩
      obtain ⟨n6, hn6⟩ : ∃ n6, wo.heap.size = n6 := ⟨_, rfl⟩
      have HN6 := Lib.hid hn6
      have HLT6 : Hid (bt < n6) := by have := HT.out.lt; unfold Hid; omega
      have HS6 : Hid (w.heap.size ≤ n6) := by have := HB6.out.size; unfold Hid; omega
      clear hn6
      have HNF : Hid (∀ q : Nat, q < S → useB F q = true → D.getD q 0 = numU F q) := HNM.out.nm
      have HDL : Hid (D.length = S) := HNM.out.len
      have hGT := HGT.out
      have hLT6 := HLT6.out
      go_loopg [7] n (fun gk v7 wx => ∃ (k : Nat) (Ax : Option Addr) (m cx : Nat), k ≤ n ∧ gk = n - k ∧ v7 = .int .i64 k ∧ Hid (OwnA wx n6 (.slice Ax m cx) (trimA F (F.arcs.take k))) ∧ Hid (FBlk wx bt (.int .i64 (1 + (cntU F S : Int))) (.slice Ax m cx) (.slice none 0 0)) ∧ Hid (Frm n6 (fun k => k = bt) wo wx))
      case atStart => exact ⟨0, none, 0, 0, Nat.zero_le _, rfl, rfl, (show OwnA wo n6 (.slice none 0 0) [] from World.ownsRow_nil _ _ _ _), HT.out, Frm.refl _ _ _⟩
      case round =>
        obtain ⟨k, Ax, m, cx, hk, hg, rfl, HO, HT2, HFR⟩ := hrel
        have HG2 := Lib.hid hg
        clear hg
        obtain ⟨_, _, he⟩ := own_sliceA HO.out
        cases he
        have hbx : Below w.heap.size w wr := HB6.out.trans (HFR.out.below (by have := HB6.out.size; have := HN6.out; omega) (fun k hk e => by omega))
        have HPr := Lib.hid (HFR.out.fblk HPr.out (by omega) (by omega))
        have HMr : Hid (Bls wr gu M) := (HFR.out.2 gu (by omega) (by omega)).trans HMr.out
        have HDr : Hid (Ins wr gn D) := (HFR.out.2 gn (by omega) (by omega)).trans HD.out
        obtain ⟨p0, p1, p2, _, _, _⟩ := HPr.out.facts
        have hpl := HPr.out.lt
        by_cases hlt2 : k < n
        · obtain ⟨bb, off, x0, x1, x2, x3, rfl, hbb, hdr, e0, e1, e2, e3⟩ := (hr.out k hlt2).below hbx
          have HTK : Hid (F.arcs.take (k + 1) = F.arcs.take k ++ [⟨x0, x1, x2, x3⟩]) := take_of_drop hdr.out
          obtain ⟨y0, y1, y2, y3⟩ := HF.out.right.2.1 _ (List.mem_of_mem_drop (by rw [hdr.out]; exact List.mem_cons_self))
          simp only at y0 y1 y2 y3
          obtain ⟨q0, rfl⟩ : ∃ q : Nat, x0 = (q : Int) := ⟨x0.toNat, by omega⟩
          obtain ⟨q3, rfl⟩ : ∃ q : Nat, x3 = (q : Int) := ⟨x3.toNat, by omega⟩
          have hq0 : q0 < S := by have := HSN.out; omega
          have hq3 : q3 < S := by have := HSN.out; omega
          have HTA : Hid (trimA F (F.arcs.take (k + 1)) = trimA F (F.arcs.take k) ++ if useB F q0 && useB F q3 then [⟨numU F q0, x1, x2, numU F q3⟩] else []) := by
            rw [Hid, HTK.out, trimA_snoc]
            simp only [Int.toNat_natCast]
          have HLN : Hid ((trimA F (F.arcs.take k)).length ≤ 1000000) := Nat.le_trans (trimA_len _ _) (by rw [List.length_take]; omega)
          have hb1 : (0 : Int) ≤ (q0 : Int) := by omega
          have hb2 : (q0 : Int) < (S : Int) := by omega
          have hb3 : (0 : Int) ≤ (q3 : Int) := by omega
          have hb4 : (q3 : Int) < (S : Int) := by omega
          clear y0 y1 y2 y3 hbx
          go_upto_region 14 with (fail)
          generalize hY : World.alloc wr _ = Y
          obtain ⟨ga, hga⟩ : ∃ ga, wr.heap.size = ga := ⟨_, rfl⟩
          have HYB : Hid (Below wr.heap.size wr Y) := by rw [← hY]; exact (Below.refl _ _).alloc (Nat.le_refl _) _
          have HYA : Hid (ABlk Y ga (q0 : Int) x1 x2 (q3 : Int)) := by rw [← hY, ← hga]; exact heap_alloc_new wr _
          have HOY : Hid (OwnA Y n6 _ _) := own_below HO.out HYB.out
          have HTY := Lib.hid (HT2.out.below HYB.out)
          have HMY := Lib.hid (HMr.out.below HYB.out)
          have HDY := Lib.hid (HDr.out.below HYB.out)
          have HFY : Hid (Frm n6 (fun k => k = bt) wo Y) := HFR.out.trans (.of_below (HYB.out.mono (by have := HFR.out.size; have := HN6.out; omega)))
          have hga0 : n6 ≤ ga := by have := HFR.out.size; have := HN6.out; omega
          rw [hga]
          clear hY hga e0 e1 e2 e3 HMr HT2 HFR HO p0 p1 p2 hpl
          obtain ⟨a0, a1, a2, a3⟩ := HYA.out.cells
          have hal := (Array.getElem?_eq_some_iff.1 HYA.out).1
          have hm0 := HMY.out.cell (j := q0) (by rw [HML.out]; exact hq0)
          have hm3 := HMY.out.cell (j := q3) (by rw [HML.out]; exact hq3)
          have hml := HMY.out.lt
          rw [HMU.out q0 hq0] at hm0
          rw [HMU.out q3 hq3] at hm3
          have HNU0 := Lib.hid (HNF.out q0 hq0)
          have HNU3 := Lib.hid (HNF.out q3 hq3)
          obtain ⟨u0, hu0⟩ : ∃ u, useB F q0 = u := ⟨_, rfl⟩
          obtain ⟨u3, hu3⟩ : ∃ u, useB F q3 = u := ⟨_, rfl⟩
          rw [hu0, hu3] at HTA
          rw [hu0] at hm0 HNU0
          rw [hu3] at hm3 HNU3
          clear hu0 hu3
          cases huu : (u0 && u3)
          · have HTS : Hid (trimA F (F.arcs.take (k + 1)) = trimA F (F.arcs.take k)) := by rw [Hid, HTA.out, huu]; simp
            cases u0
            · cases u3
              · skip
                go_wp2_with fail
                go_roundg (n - (k + 1))
                case measure => rw [HG2.out]; omega
                case rel => exact ⟨k + 1, _, _, _, by omega, rfl, by go_num, by rw [HTS.out]; exact HOY.out, HTY.out, HFY.out⟩
              · skip
                go_wp2_with fail
                go_roundg (n - (k + 1))
                case measure => rw [HG2.out]; omega
                case rel => exact ⟨k + 1, _, _, _, by omega, rfl, by go_num, by rw [HTS.out]; exact HOY.out, HTY.out, HFY.out⟩
            · obtain rfl : u3 = false := by simpa using huu
              go_wp2_with fail
              go_roundg (n - (k + 1))
              case measure => rw [HG2.out]; omega
              case rel => exact ⟨k + 1, _, _, _, by omega, rfl, by go_num, by rw [HTS.out]; exact HOY.out, HTY.out, HFY.out⟩
          · simp only [Bool.and_eq_true] at huu
            obtain ⟨rfl, rfl⟩ := huu
            have HTS : Hid (trimA F (F.arcs.take (k + 1)) = trimA F (F.arcs.take k) ++ [⟨numU F q0, x1, x2, numU F q3⟩]) := by rw [Hid, HTA.out]; simp
            go_upto_region 15 with (fail)
            clear hm0 hm3 hml a0 a1 a2 a3
            have hd0 := HDY.out.cell (j := q0) (by rw [HDL.out]; exact hq0)
            have hd3 := HDY.out.cell (j := q3) (by rw [HDL.out]; exact hq3)
            rw [HNU0.out rfl] at hd0
            rw [HNU3.out rfl] at hd3
            have HDC : Hid (Y.cell? ⟨gn, q0, none⟩ = some (.int .i64 (numU F q0)) ∧ Y.cell? ⟨gn, q3, none⟩ = some (.int .i64 (numU F q3))) := ⟨hd0, hd3⟩
            clear hd0 hd3
            refine wp_region_ord 18 [0, 1, 2, 3, 4, 5, 6, 7, 8, 9, 10, 11, 12, 13, 14, 15, 16, 17] [] [0, 1, 2, 3, 4, 5, 6, 7, 8, 9, 10, 11, 12, 13, 14, 15, 16] [17, 18, 19, 20] (fun w' => w'.heap[bt]? = Y.heap[bt]? ∧ w'.heap[ga]? = Y.heap[ga]? ∧ w'.heap[gn]? = Y.heap[gn]?) (by kernel_rfl) (by kernel_rfl) ?_
            rintro Z hZ
            have HBZ : Hid (Below Y.heap.size Y Z) := by rw [hZ]; exact (Below.refl _ _).drew
            have HZS : Hid (Z.heap[bt]? = Y.heap[bt]? ∧ Z.heap[ga]? = Y.heap[ga]? ∧ Z.heap[gn]? = Y.heap[gn]?) := by rw [hZ]; exact ⟨rfl, rfl, rfl⟩
            clear hZ
            refine ⟨HZS.out, ?_⟩
            have HS : Hid (∀ w' : World, (w'.heap[bt]? = Y.heap[bt]? ∧ w'.heap[ga]? = Y.heap[ga]? ∧ w'.heap[gn]? = Y.heap[gn]?) → w'.cell? ⟨bt, 1, none⟩ = some (.slice Ax (trimA F (F.arcs.take k)).length cx) ∧ (w'.cell? ⟨ga, 0, none⟩ = some (.int .i64 q0) ∧ w'.cell? ⟨ga, 1, none⟩ = some (.int .i64 x1) ∧ w'.cell? ⟨ga, 2, none⟩ = some (.int .i64 x2) ∧ w'.cell? ⟨ga, 3, none⟩ = some (.int .i64 q3)) ∧ w'.cell? ⟨gn, q0, none⟩ = some (.int .i64 (numU F q0)) ∧ w'.cell? ⟨gn, q3, none⟩ = some (.int .i64 (numU F q3))) := by
              rintro w' ⟨e1, e2, e3⟩
              refine ⟨?_, ABlk.cells (e2.trans HYA.out), (World.cell?_of_block (a := ⟨gn, q0, none⟩) e3).trans HDC.out.1, (World.cell?_of_block (a := ⟨gn, q3, none⟩) e3).trans HDC.out.2⟩
              have h : FBlk w' bt _ _ _ := e1.trans HTY.out
              exact h.facts.2.1
            iterate 17 (refine wpHead_cons (v := ?_) rfl rfl (fun w' hS => ?_) ?_; rotate_left; (focus ((try obtain ⟨s1, ⟨u0, u1, u2, u3⟩, v0, v3⟩ := HS.out _ (hS rfl)); clear hS; go_simp; try with_reducible rfl; done)); (try simp only [Act.put, List.setIfInBounds_toArray, List.set_cons_zero, List.set_cons_succ]))
            clear hb1 hb2 hb3 hb4
            refine wpHead_nil ?_
            refine wpTail_cons rfl rfl (fun K hK => ?_)
            go_simp
            have HOZ : Hid (OwnA Z n6 (.slice Ax (trimA F (F.arcs.take k)).length cx) (trimA F (F.arcs.take k))) := own_below HOY.out HBZ.out
            have HTZ := Lib.hid (HTY.out.below HBZ.out)
            have HAZ : Hid (ABlk Z ga (q0 : Int) x1 x2 (q3 : Int)) := HZS.out.2.1.trans HYA.out
            have HDZ : Hid (Ins Z gn D) := HZS.out.2.2.trans HDY.out
            have hbt := HTZ.out.lt
            have hat := (Array.getElem?_eq_some_iff.1 HAZ.out).1
            have hnt := HDZ.out.lt
            have hbZ : n6 ≤ Z.heap.size := by omega
            refine hK.out _ _ (fun _ => ⟨(Below.heap_alloc _ _ _ hbt).trans HZS.out.1, (Below.heap_alloc _ _ _ hat).trans HZS.out.2.1, (Below.heap_alloc _ _ _ hnt).trans HZS.out.2.2⟩) ?_
            clear hK K
            (try simp only [Act.put, List.setIfInBounds_toArray, List.set_cons_zero, List.set_cons_succ])
            refine wpTail_cons rfl rfl (fun K hK => ?_)
            refine wp_app_arc1 (.tmp 60) (.tmp 76) rfl n6 (.slice Ax (trimA F (F.arcs.take k)).length cx) (trimA F (F.arcs.take k)) rfl HOZ.out (numU F q0) x1 x2 (numU F q3) HLN.out hbZ rfl ?_
            intro g8 c8 w8 ho8 hg8 hloc8 hlt8
            refine hK.out _ _ (fun h => absurd h (by decide)) ?_
            clear hK K
            (try simp only [Act.put, List.setIfInBounds_toArray, List.set_cons_zero, List.set_cons_succ])
            have HT8 : Hid (FBlk w8 bt (.int .i64 (1 + (cntU F S : Int))) (.slice Ax (trimA F (F.arcs.take k)).length cx) (.slice none 0 0)) := (hg8.block bt hbt (Ne.symm (row_ne_fblk HOZ.out HTZ.out (by decide)))).trans HTZ.out
            have HO8 := Lib.hid ho8
            have HG8 := Lib.hid hg8
            clear ho8 hg8 hloc8 hlt8 HS hbt hat hnt
            obtain ⟨t0, t1, t2, _, tf1, _⟩ := HT8.out.facts
            have htl := HT8.out.lt
            refine wpTail_rest 19 rfl ?_
            simp only [List.drop_succ_cons, List.drop_zero]
            go_wp2_with fail
            refine NoPanic.normal ?_
            go_wp2_with fail
            clear t0 t1 t2 tf1 htl hal
            go_roundg (n - (k + 1))
            case measure => rw [HG2.out]; omega
            case rel => exact ⟨k + 1, _, _, _, by omega, rfl, by go_num, by rw [HTS.out]; exact own_setCell HO8.out (row_ne_fblk HO8.out HT8.out (by decide)) _ _, HT8.out.set1 _, ((HFY.out.trans (.of_below (HBZ.out.mono (by have := HFY.out.size; have := HN6.out; omega)))).grown HG8.out hbZ (fun i hi => .inr (World.ownsRow.lt HOZ.out i hi).1)).setCell ⟨bt, 1, none⟩ _ (.inl rfl)⟩
        · have hkn : F.arcs.take k = F.arcs := List.take_of_length_le (by rw [hn.out]; omega)
          rw [hkn] at HO HT2
          have HS67 : Hid (n6 ≤ wr.heap.size) := by have := HFR.out.size; have := HN6.out; unfold Hid; omega
          have HR7 := Lib.hid (HFR.out.fblk HR6.out (by omega) (by omega))
          have HB7 := Lib.hid hbx
          go_wp2_with fail
          clear p0 p1 p2 hpl HFR hbx hkn
          obtain ⟨wo2, rfl⟩ : ∃ wo : World, wo = wr := ⟨_, rfl⟩
          obtain ⟨n7, hn7⟩ : ∃ n7, wo2.heap.size = n7 := ⟨_, rfl⟩
          have HN7 := Lib.hid hn7
          have hLT7 : bt < n7 := by have := HT2.out.lt; omega
          clear hn7
          go_loopg [9] n' (fun gk v9 wx => ∃ (k : Nat) (Ay : Option Addr) (m cy : Nat), k ≤ n' ∧ gk = n' - k ∧ v9 = .int .i64 k ∧ Hid (OwnI wx n7 (.slice Ay m cy) (trimE F (F.final.take k))) ∧ Hid (FBlk wx bt (.int .i64 (1 + (cntU F S : Int))) (.slice Ax (trimA F F.arcs).length cx) (.slice Ay m cy)) ∧ Hid (Frm n7 (fun k => k = bt) wo2 wx))
          case atStart => exact ⟨0, none, 0, 0, Nat.zero_le _, rfl, rfl, (show OwnI wo2 n7 (.slice none 0 0) [] from World.ownsRow_nil _ _ _ _), HT2.out, Frm.refl _ _ _⟩
          case round =>
            obtain ⟨i, Ay, m, cy, hi, hg, rfl, HE, HT3, HFR⟩ := hrel
            have HG3 := Lib.hid hg
            clear hg
            obtain ⟨_, _, _, he⟩ := own_slice HE.out
            cases he
            have hbx : Below w.heap.size w wr := HB7.out.trans (HFR.out.below (by have := HB7.out.size; have := HN7.out; omega) (fun k hk e => by omega))
            have HPr := Lib.hid (HFR.out.fblk HPr.out (by omega) (by omega))
            have HMr : Hid (Bls wr gu M) := (HFR.out.2 gu (by omega) (by omega)).trans HMr.out
            have HDr : Hid (Ins wr gn D) := (HFR.out.2 gn (by omega) (by omega)).trans HDr.out
            obtain ⟨p0, p1, p2, _, _, _⟩ := HPr.out.facts
            have hpl := HPr.out.lt
            by_cases hlt3 : i < n'
            · obtain ⟨b, off, x, rfl, hbl, hdr, e0⟩ := (hr'.out i hlt3).below hbx
              have HTK : Hid (F.final.take (i + 1) = F.final.take i ++ [x]) := take_of_drop hdr.out
              obtain ⟨hx0, hxS⟩ := HF.out.right.2.2 x (List.mem_of_mem_drop (by rw [hdr.out]; exact List.mem_cons_self))
              obtain ⟨q, rfl⟩ : ∃ q : Nat, x = (q : Int) := ⟨x.toNat, by omega⟩
              have hqS : q < S := by have := HSN.out; omega
              have HTE : Hid (trimE F (F.final.take (i + 1)) = trimE F (F.final.take i) ++ if useB F q then [numU F q] else []) := by
                rw [Hid, HTK.out, trimE_snoc]
                simp only [Int.toNat_natCast]
              have HLN : Hid ((trimE F (F.final.take i)).length ≤ 1000000) := Nat.le_trans (trimE_len _ _) (by have := HFL.out; rw [List.length_take]; omega)
              have hm0 := HMr.out.cell (j := q) (by rw [HML.out]; exact hqS)
              have hml := HMr.out.lt
              have hb1 : (0 : Int) ≤ (q : Int) := by omega
              have hb2 : (q : Int) < (S : Int) := by omega
              rw [HMU.out q hqS] at hm0
              have HNUQ := Lib.hid (HNF.out q hqS)
              clear hx0 hxS hbx
              cases hu : useB F q
              · rw [hu] at hm0
                have HTS : Hid (trimE F (F.final.take (i + 1)) = trimE F (F.final.take i)) := by rw [Hid, HTE.out, hu]; simp
                clear hu
                go_wp2_with fail
                go_roundg (n' - (i + 1))
                case measure => rw [HG3.out]; omega
                case rel => exact ⟨i + 1, _, _, _, by omega, rfl, by go_num, by rw [HTS.out]; exact HE.out, HT3.out, HFR.out⟩
              · rw [hu] at hm0
                have HTS : Hid (trimE F (F.final.take (i + 1)) = trimE F (F.final.take i) ++ [numU F q]) := by rw [Hid, HTE.out, hu]; simp
                have hd0 := HDr.out.cell (j := q) (by rw [HDL.out]; exact hqS)
                rw [HNUQ.out hu] at hd0
                have HDC : Hid (wr.cell? ⟨gn, q, none⟩ = some (.int .i64 (numU F q))) := hd0
                have HE0 : Hid (wr.cell? ⟨b, off + i, none⟩ = some (.int .i64 (q : Int)) ∧ b < wr.heap.size) := ⟨e0, hbl⟩
                clear hu hd0
                have hbY : n7 ≤ wr.heap.size := by have := HFR.out.size; have := HN7.out; omega
                have hln : (trimE F (F.final.take i)).length ≤ 1000000 := HLN.out
                go_upto_region 20 with (fail)
                clear hm0 hml p0 p1 p2 hpl e0
                refine wp_region_ord 11 [0, 1, 2, 3, 4, 5, 6, 7, 8, 9, 10] [] [0, 1, 2, 3, 4, 5, 6, 7, 8, 9] [10, 11, 12, 13] (fun w' => w'.heap[bt]? = wr.heap[bt]? ∧ w'.heap[B]? = wr.heap[B]? ∧ w'.heap[gn]? = wr.heap[gn]? ∧ w'.heap[b]? = wr.heap[b]?) (by kernel_rfl) (by kernel_rfl) ?_
                rintro Z hZ
                have HBZ : Hid (Below wr.heap.size wr Z) := by rw [hZ]; exact (Below.refl _ _).drew
                have HZS : Hid (Z.heap[bt]? = wr.heap[bt]? ∧ Z.heap[B]? = wr.heap[B]? ∧ Z.heap[gn]? = wr.heap[gn]? ∧ Z.heap[b]? = wr.heap[b]?) := by rw [hZ]; exact ⟨rfl, rfl, rfl, rfl⟩
                clear hZ
                refine ⟨HZS.out, ?_⟩
                have HS : Hid (∀ w' : World, (w'.heap[bt]? = wr.heap[bt]? ∧ w'.heap[B]? = wr.heap[B]? ∧ w'.heap[gn]? = wr.heap[gn]? ∧ w'.heap[b]? = wr.heap[b]?) → w'.cell? ⟨bt, 2, none⟩ = some (.slice Ay (trimE F (F.final.take i)).length cy) ∧ w'.cell? ⟨B, 2, none⟩ = some (.slice (some ⟨b, off, none⟩) n' c') ∧ w'.cell? ⟨gn, q, none⟩ = some (.int .i64 (numU F q)) ∧ w'.cell? ⟨b, off + i, none⟩ = some (.int .i64 (q : Int))) := by
                  rintro w' ⟨e1, e2, e3, e4⟩
                  have h1 : FBlk w' bt _ _ _ := e1.trans HT3.out
                  have h2 : FBlk w' B _ _ _ := e2.trans HPr.out
                  exact ⟨h1.facts.2.2.1, h2.facts.2.2.1, (World.cell?_of_block (a := ⟨gn, q, none⟩) e3).trans HDC.out, (World.cell?_of_block (a := ⟨b, off + i, none⟩) e4).trans HE0.out.1⟩
                iterate 10 (refine wpHead_cons (v := ?_) rfl rfl (fun w' hS => ?_) ?_; rotate_left; (focus ((try obtain ⟨s1, s2, s3, s4⟩ := HS.out _ (hS rfl)); clear hS; go_simp; try with_reducible rfl; done)); (try simp only [Act.put, List.setIfInBounds_toArray, List.set_cons_zero, List.set_cons_succ]))
                clear hb1 hb2
                refine wpHead_nil ?_
                refine wpTail_cons rfl rfl (fun K hK => ?_)
                go_simp
                have HEZ : Hid (OwnI Z n7 (.slice Ay (trimE F (F.final.take i)).length cy) (trimE F (F.final.take i))) := own_below HE.out HBZ.out
                have HTZ := Lib.hid (HT3.out.below HBZ.out)
                have HPZ := Lib.hid (HPr.out.below HBZ.out)
                have HDZ : Hid (Ins Z gn D) := HDr.out.below HBZ.out
                have hbt := HTZ.out.lt
                have hpt := HPZ.out.lt
                have hnt := HDZ.out.lt
                have hbb : b < Z.heap.size := by have := HE0.out.2; have := HBZ.out.size; omega
                have hbZ : n7 ≤ Z.heap.size := by have := HBZ.out.size; omega
                refine hK.out _ _ (fun _ => ⟨(Below.heap_alloc _ _ _ hbt).trans HZS.out.1, (Below.heap_alloc _ _ _ hpt).trans HZS.out.2.1, (Below.heap_alloc _ _ _ hnt).trans HZS.out.2.2.1, (Below.heap_alloc _ _ _ hbb).trans HZS.out.2.2.2⟩) ?_
                clear hK K
                (try simp only [Act.put, List.setIfInBounds_toArray, List.set_cons_zero, List.set_cons_succ])
                refine wpTail_cons rfl rfl (fun K hK => ?_)
                refine wp_app_int1 (.tmp 95) (.tmp 104) rfl n7 (.slice Ay (trimE F (F.final.take i)).length cy) (trimE F (F.final.take i)) rfl HEZ.out (numU F q) hln hbZ rfl ?_
                intro g8 c8 w8 ho8 hg8
                refine hK.out _ _ (fun h => absurd h (by decide)) ?_
                clear hK K
                (try simp only [Act.put, List.setIfInBounds_toArray, List.set_cons_zero, List.set_cons_succ])
                have HT8 : Hid (FBlk w8 bt (.int .i64 (1 + (cntU F S : Int))) (.slice Ax (trimA F F.arcs).length cx) (.slice Ay (trimE F (F.final.take i)).length cy)) := (hg8.block bt hbt (Ne.symm (row_ne_fblk HEZ.out HTZ.out (by decide)))).trans HTZ.out
                have HO8 := Lib.hid ho8
                have HG8 := Lib.hid hg8
                clear ho8 hg8 HS hbt hpt hnt hbb
                obtain ⟨t0, t1, t2, _, _, tf2⟩ := HT8.out.facts
                have htl := HT8.out.lt
                refine wpTail_rest 12 rfl ?_
                simp only [List.drop_succ_cons, List.drop_zero]
                go_wp2_with fail
                refine NoPanic.normal ?_
                go_wp2_with fail
                clear t0 t1 t2 tf2 htl
                go_roundg (n' - (i + 1))
                case measure => rw [HG3.out]; omega
                case rel => exact ⟨i + 1, _, _, _, by omega, rfl, by go_num, by rw [HTS.out]; exact own_setCell HO8.out (row_ne_fblk HO8.out HT8.out (by decide)) _ _, HT8.out.set2 _, ((HFR.out.trans (.of_below (HBZ.out.mono hbY))).grown HG8.out hbZ (fun i hi => .inr (World.ownsRow.lt HEZ.out i hi).1)).setCell ⟨bt, 2, none⟩ _ (.inl rfl)⟩
            · have hin : F.final.take i = F.final := List.take_of_length_le (by rw [hn'.out]; omega)
              rw [hin] at HE HT3
              have HR8 := Lib.hid (HFR.out.fblk HR7.out (by omega) (by omega))
              have HO8 : Hid (OwnA wr n6 (.slice Ax (trimA F F.arcs).length cx) (trimA F F.arcs)) := own_keep HO.out fun k cs m _ hk _ => HFR.out.2 k (by have := (Array.getElem?_eq_some_iff.1 hk).1; have := HN7.out; omega) (fun e => by
                have h := HT2.out
                unfold FBlk at h
                rw [e, h] at hk
                injection hk with hk2
                injection hk2 with _ h3
                exact absurd h3 (by decide))
              have HB8 := Lib.hid hbx
              obtain ⟨t0, t1, t2, _, _, _⟩ := HT3.out.facts
              have htl := HT3.out.lt
              obtain ⟨r0, r1, r2, rf0, rf1, rf2⟩ := HR8.out.facts
              have hrl := HR8.out.lt
              have HSZ : Hid (w.heap.size ≤ n6 ∧ n6 ≤ n7) := ⟨HS6.out, by have := HS67.out; have := HN7.out; omega⟩
              clear hbx hin
              go_wp2_with fail
              refine bodyPost_ret (v := .agg #[.int .i64 (1 + (cntU F S : Int)), .slice Ax (trimA F F.arcs).length cx, .slice Ay (trimE F F.final).length cy]) ?_ rfl ?_
              · simp [results, Try.results27, go_sem, r0, r1, r2]
              have hne1 := row_ne_fblk HO8.out HR8.out (by decide)
              have hne2 := row_ne_fblk HE.out HR8.out (by decide)
              refine ⟨⟨_, rfl, _, _, by simp only [trimF]; rw [show F.states.toNat = S by have := HSN.out; omega], own_setCell (own_setCell (own_setCell (own_base HO8.out HSZ.out.1) hne1 _ _) hne1 _ _) hne1 _ _, own_setCell (own_setCell (own_setCell (own_base HE.out (Nat.le_trans HSZ.out.1 HSZ.out.2)) hne2 _ _) hne2 _ _) hne2 _ _⟩, ?_⟩
              exact ((HB8.out.setCell (by simp only; omega) _).setCell (by simp only; omega) _).setCell (by simp only; omega) _
noncomputable def emptyB (F : PFst) : Bool := (((usefulL F).length : Nat) : Int) == 0
set_option maxHeartbeats 400000 in
theorem fempty_any (v : Value) (F : PFst) (w : World) (hv : RdF w v F) (hF : FinOk F) (hFl : F.final.length ≤ 1000000) :
    Calls Try.prog 28 #[v] w fun e w' => e = .returned (.bool (emptyB F)) ∧ Below w.heap.size w w' := by
  have HV := Lib.hid hv
  obtain ⟨va, vf, rfl, ha, hf⟩ := hv
  obtain ⟨A, n, c, rfl, _, _, _, _⟩ := ha.op
  obtain ⟨A', n', c', rfl, _, _, _, _⟩ := hf.op
  have HF := Lib.hid hF
  clear ha hf hF
  have HBW : Hid (Below w.heap.size w (w.alloc (.cells #[.int .i64 F.states, .slice A n c, .slice A' n' c'] 25))) := (Below.refl _ _).alloc (Nat.le_refl _) _
  go_enter Try.func28, Try.ntmps28
  go_wp2_with fail
  refine (useful_any _ F _ (HV.out.below HBW.out) HF.out hFl).mono ?_
  rintro e w1 ⟨⟨v', rfl, ho⟩, hb⟩
  have HO := Lib.hid ho
  have HB1 : Hid (Below w.heap.size w w1) := bchain HBW.out hb
  obtain ⟨_, Au, cu, rfl⟩ := own_slice ho
  clear ho hb
  go_wp2_with fail
  go_ret
  exact ⟨rfl, HB1.out⟩
set_option maxHeartbeats 400000 in
theorem rempty_any (v : Value) (F : PFst) (w : World) (hv : RdF w v F) (hF : FinOk F)  :
    Calls Try.prog 29 #[v] w fun e w' => e = .returned (.bool (emptyB F)) ∧ Below w.heap.size w w' := by
  have HV := Lib.hid hv
  obtain ⟨va, vf, rfl, ha, hf⟩ := hv
  obtain ⟨A, n, c, rfl, _, _, _, _⟩ := ha.op
  obtain ⟨A', n', c', rfl, _, _, _, _⟩ := hf.op
  have HF := Lib.hid hF
  clear ha hf hF
  have HBW : Hid (Below w.heap.size w (w.alloc (.cells #[.int .i64 F.states, .slice A n c, .slice A' n' c'] 25))) := (Below.refl _ _).alloc (Nat.le_refl _) _
  go_enter Try.func29, Try.ntmps29
  go_wp2_with fail
  refine (rUseful_any _ F _ (HV.out.below HBW.out) HF.out ).mono ?_
  rintro e w1 ⟨⟨v', rfl, ho⟩, hb⟩
  have HO := Lib.hid ho
  have HB1 : Hid (Below w.heap.size w w1) := bchain HBW.out hb
  obtain ⟨_, Au, cu, rfl⟩ := own_slice ho
  clear ho hb
  go_wp2_with fail
  go_ret
  exact ⟨rfl, HB1.out⟩
end Go.Proofs.Ytmejihlplbeekaa
