/-
  Compose of the reference.
-/
import Derived.Test.YtmeppkkoepmlnaaT35
namespace Go.Proofs.Ytmeppkkoepmlnaa
open Go.ChangeShapes Go.WideShapes Go.ChangeAt Go.RowKit
theorem CR.pushed {W wx w1 : World} {base gx g' cap m : Nat} {Q1 x0 x1 x2 x3 : Int} {L : List PArc} {z : PArc} {va : Value} (h1 : Bld 29 wx base base va (.slice none 0 0) ⟨Q1, L, []⟩) (h2 : Fr base base W wx) (h3 : ABlk wx gx x0 x1 x2 x3) (h4 : va.ownBlock ≠ some gx) (h5 : gx ≠ base)
    (hgr : wx.grownBy w1 va.ownBlock) (ho : OwnA w1 base (.slice (some ⟨g', 0, none⟩) (m + 1) cap) (L ++ [z])) (hor : va.ownBlock = some g' ∨ g' = wx.heap.size + 1) :
    CR W base Q1 gx x0 x1 x2 x3 (L ++ [z]) (w1.setCell ⟨base, 1, none⟩ (.slice (some ⟨g', 0, none⟩) (m + 1) cap)) := by
  have hp := h1.pushed hgr ho
  have hx : Gx base wx (w1.setCell ⟨base, 1, none⟩ (.slice (some ⟨g', 0, none⟩) (m + 1) cap)) va (.slice (some ⟨g', 0, none⟩) (m + 1) cap) := by
    refine ⟨?_, ?_⟩
    · intro k hk hkB hne
      rw [Below.heap_setCell w1 ⟨base, 1, none⟩ _ k (by simpa using hkB)]
      exact hgr.block k hk (Ne.symm hne)
    · rcases hor with h | h
      · exact .inl h.symm
      · exact .inr ⟨g', rfl, by omega⟩
  obtain ⟨g4, g5⟩ := hx.arc h3 h5 h4
  exact ⟨_, hp.1, h2.trans hp.2, g4, g5, h5⟩
theorem rx_le (b : PFst) (x : PArc) : (rx b x).length ≤ b.arcs.length + b.states.toNat := by
  have h1 := cxr_le b.states b.states.toNat x
  have h2 := cxs_le b.states b.arcs x
  simp only [rx, List.length_append]; omega
theorem Fits.oneR {a b : PFst} (h : Fits a b) (k : Nat) : ((a.arcs.take k).flatMap (rx b)).length ≤ 100000 := by
  have h1 := flatMap_le (a.arcs.take k) (rx b) (b.arcs.length + b.states.toNat) (fun x _ => rx_le b x)
  have h2 : (a.arcs.take k).length * (b.arcs.length + b.states.toNat) ≤ a.arcs.length * (b.arcs.length + b.states.toNat) := Nat.mul_le_mul_right _ (by simp; omega)
  have := h.nm
  omega
theorem cxr_off (m : Int) (K : Nat) (x : PArc) (h : x.out ≠ 0) : cxr m K x = [] := by simp [cxr, cxq, h]
theorem cxs_off (m : Int) (bs : List PArc) (x : PArc) (h : x.out = 0) : cxs m bs x = [] := by simp [cxs, cxy, h]
theorem cy_off (m : Int) (K : Nat) (y : PArc) (h : y.inp ≠ 0) : cy m K y = [] := by simp [cy, cyp, h]
set_option maxHeartbeats 8000000 in
set_option maxRecDepth 100000 in
theorem rcompose_any (v u : Value) (a b : PFst) (w : World) (hv : RdF w v a) (hu : RdF w u b) (hs : Good a) (ht : Good b) (he : manyB a b = false) :
    Calls Try.prog 29 #[v, u] w fun e w' => (∃ vF, e = .returned (.tuple #[vF, .int .i64 0]) ∧ OwnF w.heap.size w' vF (refF a b)) ∧ Below w.heap.size w w' := by
  have HFIT := Lib.hid (fits_of hs.s1 ht.s1 he)
  have HGA := Lib.hid hs
  have HGB := Lib.hid ht
  have HMAN := Lib.hid he
  have hs := hs.sane
  have ht := ht.sane
  have HV0 := Lib.hid hv
  have HU0 := Lib.hid hu
  have HS := Lib.hid hs
  have HT := Lib.hid ht
  obtain ⟨va, vf, rfl, ha, hf⟩ := hv
  obtain ⟨A, n, c, rfl, h1, h2, HN, hr⟩ := ha.op
  obtain ⟨A', n', c', rfl, h1', h2', HN', hr'⟩ := hf.op
  obtain ⟨ua, uf, rfl, ka, kf⟩ := hu
  obtain ⟨D, m, d, rfl, g1, g2, HM, kr⟩ := ka.op
  obtain ⟨D', m', d', rfl, g1', g2', HM', kr'⟩ := kf.op
  obtain ⟨⟨sa0, sa1, sn, _⟩, _, _⟩ := hs
  obtain ⟨⟨sb0, sb1, sm, _⟩, _, _⟩ := ht
  rw [HN.out] at sn
  rw [HM.out] at sm
  obtain ⟨SA, hSA⟩ : ∃ SA : Nat, a.states = (SA : Int) := ⟨a.states.toNat, by omega⟩
  obtain ⟨SB, hSB⟩ : ∃ SB : Nat, b.states = (SB : Int) := ⟨b.states.toNat, by omega⟩
  have HSA := Lib.hid hSA
  have HSB := Lib.hid hSB
  rw [hSA] at sa0 sa1
  rw [hSB] at sb0 sb1
  obtain ⟨Q1, hQ1⟩ : ∃ Q1 : Nat, (SA : Int) * (SB : Int) = (Q1 : Int) := ⟨SA * SB, by simp⟩
  obtain ⟨Q2, hQ2⟩ : ∃ Q2 : Nat, (n : Int) * (m : Int) = (Q2 : Int) := ⟨n * m, by simp⟩
  obtain ⟨Q3, hQ3⟩ : ∃ Q3 : Nat, (n : Int) * (SB : Int) = (Q3 : Int) := ⟨n * SB, by simp⟩
  obtain ⟨Q4, hQ4⟩ : ∃ Q4 : Nat, (SA : Int) * (m : Int) = (Q4 : Int) := ⟨SA * m, by simp⟩
  have u1 : Q1 ≤ 1000000000000 := by have e : Q1 = SA * SB := (by exact_mod_cast hQ1.symm); rw [e]; exact Nat.mul_le_mul (by omega : SA ≤ 1000000) (by omega : SB ≤ 1000000)
  have u2 : Q2 ≤ 1000000000000 := by have e : Q2 = n * m := (by exact_mod_cast hQ2.symm); rw [e]; exact Nat.mul_le_mul (by omega : n ≤ 1000000) (by omega : m ≤ 1000000)
  have u3 : Q3 ≤ 1000000000000 := by have e : Q3 = n * SB := (by exact_mod_cast hQ3.symm); rw [e]; exact Nat.mul_le_mul (by omega : n ≤ 1000000) (by omega : SB ≤ 1000000)
  have u4 : Q4 ≤ 1000000000000 := by have e : Q4 = SA * m := (by exact_mod_cast hQ4.symm); rw [e]; exact Nat.mul_le_mul (by omega : SA ≤ 1000000) (by omega : m ≤ 1000000)
  have HMB : Hid (manyB a b = (decide (1000 < (Q1 : Int)) || decide (100000 < (Q2 : Int) + (Q3 : Int) + (Q4 : Int)))) := by rw [Hid, manyB, HSA.out, HSB.out, HN.out, HM.out, hQ1, hQ2, hQ3, hQ4]
  have HA := Lib.hid ha
  have HF := Lib.hid hf
  have KA := Lib.hid ka
  have KF := Lib.hid kf
  rw [hSA, hSB]
  clear ha hf ka kf hSA hSB
  rw [HMB.out] at he
  have hq : Q1 ≤ 1000 := by simp at he; omega
  clear he HMB
  have HV1 : Hid (RdF w (.agg #[.int .i64 SA, .slice A n c, .slice A' n' c']) a) := by have := HV0.out; rw [HSA.out] at this; exact this
  have HU1 : Hid (RdF w (.agg #[.int .i64 SB, .slice D m d, .slice D' m' d']) b) := by have := HU0.out; rw [HSB.out] at this; exact this
  clear HV0 HU0
  have hSBb : SB ≤ 1000 := by have := HFIT.out.sb; rw [HSB.out] at this; omega
  have hSAb : SA ≤ 1000 := by have := HFIT.out.sa; rw [HSA.out] at this; omega
  have HAR : Hid (∀ x, x ∈ a.arcs → (0 ≤ x.fr ∧ x.fr ≤ 5000) ∧ (0 ≤ x.tgt ∧ x.tgt ≤ 5000) ∧ 0 ≤ x.out) := fun x hx => by have := HGA.out.arc x hx; have := HGA.out.s2; unfold ArcOk at *; omega
  have HBR : Hid (∀ x, x ∈ b.arcs → (0 ≤ x.fr ∧ x.fr ≤ 5000) ∧ 0 ≤ x.tgt ∧ x.tgt ≤ 5000) := fun x hx => by have := HGB.out.arc x hx; have := HGB.out.s2; unfold ArcOk at *; omega
  go_enter Try.func29, Try.ntmps29
  go_wp2_with fail
  generalize hW : World.alloc (World.alloc (World.alloc w _) _) _ = W0
  have HR : Hid (FBlk W0 (w.heap.size + 1 + 1) (.int .i64 0) (.slice none 0 0) (.slice none 0 0)) := by
    rw [Hid, FBlk, ← hW]
    have := heap_alloc_new (World.alloc (World.alloc w (.cells #[.int .i64 SA, .slice A n c, .slice A' n' c'] 29)) (.cells #[.int .i64 SB, .slice D m d, .slice D' m' d'] 29)) (.cells #[.int .i64 0, .slice none 0 0, .slice none 0 0] 29)
    simpa using this
  have HP2 : Hid (FBlk W0 (w.heap.size + 1) (.int .i64 SB) (.slice D m d) (.slice D' m' d')) := by
    rw [← hW]
    refine (Below.heap_alloc _ _ _ (by first | omega | (simp; done) | (simp; omega))).trans ?_
    have := heap_alloc_new (World.alloc w (.cells #[.int .i64 SA, .slice A n c, .slice A' n' c'] 29)) (.cells #[.int .i64 SB, .slice D m d, .slice D' m' d'] 29)
    simpa using this
  have HP1 : Hid (FBlk W0 w.heap.size (.int .i64 SA) (.slice A n c) (.slice A' n' c')) := by
    rw [← hW]
    exact (Below.heap_alloc _ _ _ (by first | omega | (simp; done) | (simp; omega))).trans ((Below.heap_alloc _ _ _ (by first | omega | (simp; done) | (simp; omega))).trans (heap_alloc_new w _))
  have HB2 : Hid (Below w.heap.size w W0) := by rw [← hW]; repeat (first | assumption | exact Below.refl _ _ | refine Below.alloc ?_ (by first | omega | (simp; done) | (simp; omega)) _ | refine Below.drew ?_ | refine below_drewN ?_ _ | refine Below.setCell ?_ (by first | omega | (simp; done) | (simp; omega)) _)
  have hsz0 : w.heap.size + 3 = W0.heap.size := by rw [← hW]; simp
  clear hW HA HF KA
  refine (many_no _ _ a b _ (HV1.out.below HB2.out) (HU1.out.below HB2.out) HS.out HT.out HMAN.out).mono ?_
  rintro e w2 ⟨rfl, hb⟩
  have hsz2 : W0.heap.size ≤ w2.heap.size := hb.size
  have HRr := Lib.hid (HR.out.below hb)
  have HPp2 := Lib.hid (HP2.out.below hb)
  have HPp1 := Lib.hid (HP1.out.below hb)
  have HBb2 := Lib.hid (bchain HB2.out hb)
  clear hb HR HP2 HP1 HB2
  obtain ⟨p0, _, _, _, _, _⟩ := HPp1.out.facts
  obtain ⟨s0, _, _, _, _, _⟩ := HPp2.out.facts
  go_wp2_with fail
  generalize hW : World.alloc w2 _ = W
  have HW : Hid (Bld 29 W w2.heap.size w2.heap.size (.slice none 0 0) (.slice none 0 0) ⟨Q1, [], []⟩) := by
    rw [← hW]
    exact ⟨heap_alloc_new _ _, World.ownsRow_nil _ _ _ _, World.ownsRow_nil _ _ _ _, by decide, by decide, by omega⟩
  have HR : Hid (FBlk W (w.heap.size + 1 + 1) (.int .i64 0) (.slice none 0 0) (.slice none 0 0)) := by
    rw [← hW]; exact (Below.heap_alloc _ _ _ (by first | omega | (simp; done) | (simp; omega))).trans HRr.out
  have HP2 : Hid (FBlk W (w.heap.size + 1) (.int .i64 SB) (.slice D m d) (.slice D' m' d')) := by
    rw [← hW]; exact (Below.heap_alloc _ _ _ (by first | omega | (simp; done) | (simp; omega))).trans HPp2.out
  have HP1 : Hid (FBlk W w.heap.size (.int .i64 SA) (.slice A n c) (.slice A' n' c')) := by
    rw [← hW]; exact (Below.heap_alloc _ _ _ (by first | omega | (simp; done) | (simp; omega))).trans HPp1.out
  have HB2 : Hid (Below w.heap.size w W) := by rw [← hW]; exact HBb2.out.alloc (by omega) _
  clear hW HRr HPp2 HPp1 HBb2 p0 s0
  obtain ⟨base, hbase⟩ : ∃ base, base = w2.heap.size := ⟨_, rfl⟩
  rw [← hbase] at HW ⊢
  have hlw : w.heap.size + 2 < base := by omega
  clear hbase hsz0 hsz2
  have hbW : base ≤ W.heap.size := by have := HW.out.lt; omega
  go_loopw [7] (fun i wr => ∃ k : Nat, k ≤ n ∧ i = .int .i64 k ∧ Hid (∃ va, Bld 29 wr base base va (.slice none 0 0) ⟨Q1, (a.arcs.take k).flatMap (rx b), []⟩) ∧ Hid (Fr base base W wr)) (fun i _ => n - (intOf i).toNat)
  case atStart => exact ⟨0, Nat.zero_le _, rfl, ⟨_, HW.out⟩, Fr.refl _ _ _⟩
  case round =>
    obtain ⟨k, hk, rfl, HBE, HF⟩ := hrel
    obtain ⟨va4, hbb⟩ := HBE.out
    have HB := Lib.hid hbb
    clear hbb HBE
    have hQ := HP1.out.fr HF.out (by omega)
    obtain ⟨q0, q1, q2, _, _, _⟩ := hQ.facts
    have hQl := hQ.lt
    clear hQ
    by_cases hlt : k < n
    · obtain ⟨bb, off, x0, x1, x2, x3, rfl, hbl, hd, e0, e1, e2, e3⟩ := (hr.out k hlt).below (Fr.below HB2.out (by omega) HF.out)
      obtain ⟨⟨xa0, xa1⟩, ⟨xb0, xb1⟩, xo⟩ := HAR.out _ (List.mem_of_mem_drop (by rw [hd.out]; exact List.mem_cons_self))
      simp only at xa0 xa1 xb0 xb1 xo
      have HLN : Hid (((a.arcs.take k).flatMap (rx b)).length ≤ 100000) := HFIT.out.oneR k
      generalize hL0 : (a.arcs.take k).flatMap (rx b) = L0 at HB HLN
      have HL0 := Lib.hid hL0
      clear hL0
      go_wp2_with fail
      generalize hX : World.alloc wr _ = X
      have HX : Hid (CR W base Q1 wr.heap.size x0 x1 x2 x3 L0 X) := by rw [← hX]; exact CR.start HB.out HF.out hbW
      have hgx : w.heap.size + 1 < wr.heap.size := by have := HB.out.lt; omega
      clear hX e0 e1 e2 e3 q0 q1 q2 HB
      generalize wr.heap.size = gx at HX hgx ⊢
      obtain ⟨wo, rfl⟩ : ∃ wo : World, wo = wr := ⟨_, rfl⟩
      obtain ⟨r, hr⟩ : ∃ r : Int, x0 * (SB : Int) = r := ⟨_, rfl⟩
      have rl : 0 ≤ r := by rw [← hr]; exact Int.mul_nonneg (by omega) (by omega)
      have ru : r ≤ 5000000 := by
        have := Int.mul_le_mul (show x0 ≤ 5000 by omega) (show (SB : Int) ≤ 1000 by omega) (by omega) (by omega : (0:Int) ≤ 5000)
        rw [hr] at this
        omega
      obtain ⟨r2, hr2⟩ : ∃ r : Int, x3 * (SB : Int) = r := ⟨_, rfl⟩
      have r2l : 0 ≤ r2 := by rw [← hr2]; exact Int.mul_nonneg (by omega) (by omega)
      have r2u : r2 ≤ 5000000 := by
        have := Int.mul_le_mul (show x3 ≤ 5000 by omega) (show (SB : Int) ≤ 1000 by omega) (by omega) (by omega : (0:Int) ≤ 5000)
        rw [hr2] at this
        omega
      go_loopw [9] (fun i wx => ∃ j : Nat, j ≤ SB ∧ i = .int .i64 j ∧ Hid (CR W base Q1 gx x0 x1 x2 x3 (L0 ++ cxr SB j ⟨x0, x1, x2, x3⟩) wx)) (fun i _ => SB - (intOf i).toNat)
      case atStart => exact ⟨0, Nat.zero_le _, rfl, by rw [Hid]; simpa [cxr] using HX.out⟩
      case round =>
        obtain ⟨j, hj, rfl, HC⟩ := hrel
        obtain ⟨vc, hb5, hf5, ha5, hn5, hg5⟩ := HC.out
        obtain ⟨t0, t1, t2, t3⟩ := ha5.cells
        have HFX := Lib.hid hf5
        have HBX := Lib.hid hb5
        have HAX := Lib.hid ha5
        have HNX := Lib.hid hn5
        have HGX := Lib.hid hg5
        have c1 := hb5.c1
        have hBl := hb5.lt
        have hgl := (Array.getElem?_eq_some_iff.1 ha5).1
        have hQ := HP2.out.fr HFX.out (by omega)
        obtain ⟨q0, q1, q2, _, _, _⟩ := hQ.facts
        have hQl := hQ.lt
        clear hQ hb5 hf5 ha5 hn5 hg5
        by_cases hon : j < SB ∧ x2 = 0
        · obtain ⟨hjm, hx2⟩ := hon
          obtain ⟨mm, hmm⟩ : ∃ mm, (L0 ++ cxr SB j ⟨x0, x1, x2, x3⟩).length = mm := ⟨_, rfl⟩
          have hmb : mm ≤ 900000 := by
            have h1 := cxr_le SB j ⟨x0, x1, x2, x3⟩
            have h2 := HLN.out
            simp only [List.length_append] at hmm; omega
          have HMM := Lib.hid hmm
          have hx2' : (x2 == 0) = true := by simpa using hx2
          have HCE : Hid (cxq SB ⟨x0, x1, x2, x3⟩ j = [⟨r + j, x1, 0, r2 + j⟩]) := by simp [Hid, cxq, hx2, put, hr, hr2]
          clear hx2 hmm
          go_wp2_with (at_builtin; refine wpList_app_arc2 rfl (.tmp 50) (.tmp 68) rfl base vc (L0 ++ cxr SB j ⟨x0, x1, x2, x3⟩) rfl HBX.out.oa (r + j) x1 0 (r2 + j) mm HMM (by omega) (by omega) rfl ?_; intro g' cap w1 ho hg hgr hor; obtain ⟨k1, k2⟩ := HBX.out.mid hgr; have HO := Lib.hid ho; clear ho)
          go_roundw
          case rel => exact ⟨j + 1, by omega, by go_num, by rw [cxr_succ, HCE.out, ← List.append_assoc]; exact CR.pushed HBX.out HFX.out HAX.out HNX.out HGX.out hgr HO.out hor⟩
          case measure => simp [intOf]; omega
        · have HL1 : Hid (L0 ++ cxr SB j ⟨x0, x1, x2, x3⟩ = L0 ++ cxr SB SB ⟨x0, x1, x2, x3⟩) := by
            rw [Hid]
            by_cases hx2 : x2 = 0
            · rw [show j = SB by omega]
            · rw [cxr_off _ _ _ hx2, cxr_off _ _ _ hx2]
          rw [HL1.out] at HC HBX
          have HLM : Hid ((L0 ++ cxr SB SB ⟨x0, x1, x2, x3⟩).length ≤ 300000) := by
            have h1 := cxr_le SB SB ⟨x0, x1, x2, x3⟩
            have h2 := HLN.out
            simp only [Hid, List.length_append]; omega
          clear HL1
          generalize hL1 : L0 ++ cxr SB SB ⟨x0, x1, x2, x3⟩ = L1 at HC HBX HLM
          have HL1 := Lib.hid hL1
          clear hL1
          have hexit : (¬ j < SB) ∨ (j < SB ∧ (x2 == 0) = false) := by
            rcases Nat.lt_or_ge j SB with h | h
            · exact .inr ⟨h, by simp; intro h2; exact hon ⟨h, h2⟩⟩
            · exact .inl (by omega)
          clear hon HBX HAX HNX HGX
          obtain ⟨wo2, rfl⟩ : ∃ wo2 : World, wo2 = wr := ⟨_, rfl⟩
          rcases hexit with hjm | ⟨hjm, hx2'⟩
          all_goals
            go_wp2_with fail
            clear t0 t1 t2 t3 q0 q1 q2 c1 hjm
            try clear hx2'
            go_loopw [10] (fun i wx => ∃ j : Nat, j ≤ m ∧ i = .int .i64 j ∧ Hid (CR W base Q1 gx x0 x1 x2 x3 (L1 ++ cxs SB (b.arcs.take j) ⟨x0, x1, x2, x3⟩) wx)) (fun i _ => m - (intOf i).toNat)
            case atStart => exact ⟨0, Nat.zero_le _, rfl, by rw [Hid]; simpa [cxs] using HC.out⟩
            case round =>
              obtain ⟨j, hj, rfl, HC⟩ := hrel
              obtain ⟨vc, hb5, hf5, ha5, hn5, hg5⟩ := HC.out
              obtain ⟨t0, t1, t2, t3⟩ := ha5.cells
              have HFX := Lib.hid hf5
              have HBX := Lib.hid hb5
              have HAX := Lib.hid ha5
              have HNX := Lib.hid hn5
              have HGX := Lib.hid hg5
              have c1 := hb5.c1
              have hBl := hb5.lt
              have hgl := (Array.getElem?_eq_some_iff.1 ha5).1
              have hQ := HP2.out.fr HFX.out (by omega)
              obtain ⟨q0, q1, q2, _, _, _⟩ := hQ.facts
              have hQl := hQ.lt
              clear hQ hb5 hf5 ha5 hn5 hg5
              by_cases hon : j < m ∧ 0 < x2
              · obtain ⟨hjm, hx2⟩ := hon
                obtain ⟨bb2, off2, y0, y1, y2, y3, rfl, hbl2, hd2, e0, e1, e2, e3⟩ := (kr.out j hjm).below (Fr.below HB2.out (by omega) HFX.out)
                obtain ⟨⟨ya0, ya1⟩, yb0, yb1⟩ := HBR.out _ (List.mem_of_mem_drop (by rw [hd2.out]; exact List.mem_cons_self))
                simp only at ya0 ya1 yb0 yb1
                have HSN : Hid (cxs SB (b.arcs.take (j + 1)) ⟨x0, x1, x2, x3⟩ = cxs SB (b.arcs.take j) ⟨x0, x1, x2, x3⟩ ++ cxy SB ⟨x0, x1, x2, x3⟩ ⟨y0, y1, y2, y3⟩) := by rw [Hid, take_of_drop hd2.out, cxs_snoc]
                have hx2' : decide (0 < x2) = true := by simpa using hx2
                go_upto_region 16 with (fail)
                generalize hX2 : World.alloc wr _ = X2
                have HC2 : Hid (CR W base Q1 gx x0 x1 x2 x3 (L1 ++ cxs SB (b.arcs.take j) ⟨x0, x1, x2, x3⟩) X2) := by rw [← hX2]; exact HC.out.alloc hbW _
                have HY2 : Hid (ABlk X2 wr.heap.size y0 y1 y2 y3) := by rw [← hX2]; exact heap_alloc_new _ _
                clear hX2 e0 e1 e2 e3 q0 q1 q2 t0 t1 t2 t3 c1 hBl hgl hQl HBX HAX HNX HGX HC
                obtain ⟨vc, hb5, hf5, ha5, hn5, hg5⟩ := HC2.out
                obtain ⟨t0, t1, t2, t3⟩ := ha5.cells
                obtain ⟨v0, v1, v2, v3⟩ := HY2.out.cells
                have HFX := Lib.hid hf5
                have HBX := Lib.hid hb5
                have HAX := Lib.hid ha5
                have HNX := Lib.hid hn5
                have HGX := Lib.hid hg5
                have c1 := hb5.c1
                have hBl := hb5.lt
                have hgl := (Array.getElem?_eq_some_iff.1 ha5).1
                have hyl := (Array.getElem?_eq_some_iff.1 HY2.out).1
                have hQ := HP2.out.fr HFX.out (by omega)
                obtain ⟨q0, q1, q2, _, _, _⟩ := hQ.facts
                have hQl := hQ.lt
                clear hQ hb5 hf5 ha5 hn5 hg5 HY2
                generalize wr.heap.size = gy at hyl v0 v1 v2 v3 ⊢
                by_cases hxy : x2 = y1
                · have hxy' : (y1 == x2) = true := by simp [hxy]
                  have HCE : Hid (cxy SB ⟨x0, x1, x2, x3⟩ ⟨y0, y1, y2, y3⟩ = [⟨r + y0, x1, y2, r2 + y3⟩]) := by
                    rw [Hid, cxy, if_pos ⟨by show x2 ≠ 0; omega, hxy⟩]; simp [put, hr, hr2]
                  obtain ⟨mm, hmm⟩ : ∃ mm, (L1 ++ cxs SB (b.arcs.take j) ⟨x0, x1, x2, x3⟩).length = mm := ⟨_, rfl⟩
                  have hmb : mm ≤ 900000 := by
                    have h1 := cxs_le SB (b.arcs.take j) ⟨x0, x1, x2, x3⟩
                    have h2 := HLM.out
                    have h3 := HFIT.out.m
                    have h4 := List.length_take_le j b.arcs
                    have h5 := List.length_take_le' j b.arcs
                    simp only [List.length_append] at hmm; omega
                  have HMM := Lib.hid hmm
                  clear hx2 hxy hmm
                  go_wp2_with (at_builtin; refine wpList_app_arc2 rfl (.tmp 94) (.tmp 116) rfl base vc (L1 ++ cxs SB (b.arcs.take j) ⟨x0, x1, x2, x3⟩) rfl HBX.out.oa (r + y0) x1 y2 (r2 + y3) mm HMM (by omega) (by omega) rfl ?_; intro g' cap w1 ho hg hgr hor; obtain ⟨k1, k2⟩ := HBX.out.mid hgr; have HO := Lib.hid ho; clear ho)
                  go_roundw
                  case rel => exact ⟨j + 1, by omega, by go_num, by rw [HSN.out, HCE.out, ← List.append_assoc]; exact CR.pushed HBX.out HFX.out HAX.out HNX.out HGX.out hgr HO.out hor⟩
                  case measure => simp [intOf]; omega
                · have hxy' : (y1 == x2) = false := by simp; omega
                  have HCE : Hid (cxy SB ⟨x0, x1, x2, x3⟩ ⟨y0, y1, y2, y3⟩ = []) := by simp [Hid, cxy, hxy]
                  clear hx2 hxy
                  go_wp2_with fail
                  go_roundw
                  case rel => exact ⟨j + 1, by omega, by go_num, by rw [HSN.out, HCE.out, List.append_nil]; exact HC2.out⟩
                  case measure => simp [intOf]; omega
              · have HFIN : Hid ((a.arcs.take (k + 1)).flatMap (rx b) = L1 ++ cxs SB (b.arcs.take j) ⟨x0, x1, x2, x3⟩) := by
                  have e : cxs SB (b.arcs.take j) ⟨x0, x1, x2, x3⟩ = cxs SB b.arcs ⟨x0, x1, x2, x3⟩ := by
                    by_cases hx2 : x2 = 0
                    · rw [cxs_off _ _ _ hx2, cxs_off _ _ _ hx2]
                    · rw [List.take_of_length_le (by rw [HM.out]; omega)]
                  rw [Hid, take_of_drop hd.out, List.flatMap_append, HL0.out, e, ← HL1.out]
                  simp [rx, HSB.out]
                have hexit : (¬ j < m) ∨ (j < m ∧ decide (0 < x2) = false) := by
                  rcases Nat.lt_or_ge j m with h | h
                  · exact .inr ⟨h, by simp; omega⟩
                  · exact .inl (by omega)
                clear hon
                rcases hexit with hjm | ⟨hjm, hx2'⟩
                all_goals
                  go_wp2_with fail
                  go_roundw
                  case rel => exact ⟨k + 1, by omega, by go_num, by rw [HFIN.out]; exact ⟨_, HBX.out⟩, HFX.out⟩
                  case measure => simp [intOf]; omega
    · have HB6 : Hid (Bld 29 wr base base va4 (.slice none 0 0) ⟨Q1, a.arcs.flatMap (rx b), []⟩) := by
        have := HB.out; rw [List.take_of_length_le (by rw [HN.out]; omega)] at this; exact this
      have HLN : Hid ((a.arcs.flatMap (rx b)).length ≤ 100000) := by have := HFIT.out.oneR a.arcs.length; rw [List.take_length] at this; exact this
      clear HB
      obtain ⟨wo, rfl⟩ : ∃ wo : World, wo = wr := ⟨_, rfl⟩
      generalize hL0 : a.arcs.flatMap (rx b) = L0 at HB6 HLN
      have HL0 := Lib.hid hL0
      clear hL0
      go_wp2_with fail
      clear q0 q1 q2
      go_loopw [12] (fun i wr => ∃ k : Nat, k ≤ m ∧ i = .int .i64 k ∧ Hid (∃ va, Bld 29 wr base base va (.slice none 0 0) ⟨Q1, L0 ++ (b.arcs.take k).flatMap (cy SB SA), []⟩) ∧ Hid (Fr base base W wr)) (fun i _ => m - (intOf i).toNat)
      case atStart => exact ⟨0, Nat.zero_le _, rfl, ⟨_, by simpa using HB6.out⟩, HF.out⟩
      case round =>
        obtain ⟨k, hk, rfl, HBE, HF⟩ := hrel
        obtain ⟨va4, hbb⟩ := HBE.out
        have HB := Lib.hid hbb
        clear hbb HBE
        have hQ := HP2.out.fr HF.out (by omega)
        obtain ⟨q0, q1, q2, _, _, _⟩ := hQ.facts
        have hQl := hQ.lt
        clear hQ
        by_cases hlt : k < m
        · obtain ⟨bb, off, x0, x1, x2, x3, rfl, hbl, hd, e0, e1, e2, e3⟩ := (kr.out k hlt).below (Fr.below HB2.out (by omega) HF.out)
          obtain ⟨⟨xa0, xa1⟩, xb0, xb1⟩ := HBR.out _ (List.mem_of_mem_drop (by rw [hd.out]; exact List.mem_cons_self))
          simp only at xa0 xa1 xb0 xb1
          have HLM : Hid ((L0 ++ (b.arcs.take k).flatMap (cy SB SA)).length ≤ 200000) := by
            have h1 := HFIT.out.two k
            rw [HSB.out, HSA.out, Int.toNat_natCast] at h1
            have h2 := HLN.out
            simp only [Hid, List.length_append]; omega
          generalize hL1 : L0 ++ (b.arcs.take k).flatMap (cy SB SA) = L1 at HB HLM
          have HL1 := Lib.hid hL1
          clear hL1
          go_wp2_with fail
          generalize hX : World.alloc wr _ = X
          have HX : Hid (CR W base Q1 wr.heap.size x0 x1 x2 x3 L1 X) := by rw [← hX]; exact CR.start HB.out HF.out hbW
          have hgx : w.heap.size < wr.heap.size := by omega
          clear hX e0 e1 e2 e3 q0 q1 q2 HB
          generalize wr.heap.size = gx at HX hgx ⊢
          obtain ⟨wo3, rfl⟩ : ∃ wo3 : World, wo3 = wr := ⟨_, rfl⟩
          go_loopw [14] (fun i wx => ∃ j : Nat, j ≤ SA ∧ i = .int .i64 j ∧ Hid (CR W base Q1 gx x0 x1 x2 x3 (L1 ++ cy SB j ⟨x0, x1, x2, x3⟩) wx)) (fun i _ => SA - (intOf i).toNat)
          case atStart => exact ⟨0, Nat.zero_le _, rfl, by rw [Hid]; simpa [cy] using HX.out⟩
          case round =>
            obtain ⟨j, hj, rfl, HC⟩ := hrel
            obtain ⟨vc, hb5, hf5, ha5, hn5, hg5⟩ := HC.out
            obtain ⟨t0, t1, t2, t3⟩ := ha5.cells
            have HFX := Lib.hid hf5
            have HBX := Lib.hid hb5
            have HAX := Lib.hid ha5
            have HNX := Lib.hid hn5
            have HGX := Lib.hid hg5
            have c1 := hb5.c1
            have hBl := hb5.lt
            have hgl := (Array.getElem?_eq_some_iff.1 ha5).1
            have hQ := HP1.out.fr HFX.out (by omega)
            obtain ⟨q0, _, _, _, _, _⟩ := hQ.facts
            have hQl := hQ.lt
            have hQ := HP2.out.fr HFX.out (by omega)
            obtain ⟨q3, _, _, _, _, _⟩ := hQ.facts
            have hQl2 := hQ.lt
            clear hQ hb5 hf5 ha5 hn5 hg5
            by_cases hon : j < SA ∧ x1 = 0
            · obtain ⟨hjm, hx1⟩ := hon
              obtain ⟨r, hr⟩ : ∃ r : Int, (j : Int) * (SB : Int) = r := ⟨_, rfl⟩
              have rl : 0 ≤ r := by rw [← hr]; exact Int.mul_nonneg (by omega) (by omega)
              have ru : r ≤ 5000000 := by
                have := Int.mul_le_mul (show (j : Int) ≤ 5000 by omega) (show (SB : Int) ≤ 1000 by omega) (by omega) (by omega : (0:Int) ≤ 5000)
                rw [hr] at this
                omega
              obtain ⟨mm, hmm⟩ : ∃ mm, (L1 ++ cy SB j ⟨x0, x1, x2, x3⟩).length = mm := ⟨_, rfl⟩
              have hmb : mm ≤ 900000 := by
                have h1 := cy_le SB j ⟨x0, x1, x2, x3⟩
                have h2 := HLM.out
                simp only [List.length_append] at hmm; omega
              have HMM := Lib.hid hmm
              have hx1' : (x1 == 0) = true := by simpa using hx1
              have HCE : Hid (cyp SB ⟨x0, x1, x2, x3⟩ j = [⟨r + x0, 0, x2, r + x3⟩]) := by simp [Hid, cyp, hx1, put, hr]
              clear hx1 hmm
              go_wp2_with (at_builtin; refine wpList_app_arc2 rfl (.tmp 143) (.tmp 161) rfl base vc (L1 ++ cy SB j ⟨x0, x1, x2, x3⟩) rfl HBX.out.oa (r + x0) 0 x2 (r + x3) mm HMM (by omega) (by omega) rfl ?_; intro g' cap w1 ho hg hgr hor; obtain ⟨k1, k2⟩ := HBX.out.mid hgr; have HO := Lib.hid ho; clear ho)
              go_roundw
              case rel => exact ⟨j + 1, by omega, by go_num, by rw [cy_succ, HCE.out, ← List.append_assoc]; exact CR.pushed HBX.out HFX.out HAX.out HNX.out HGX.out hgr HO.out hor⟩
              case measure => simp [intOf]; omega
            · have HFIN : Hid (L0 ++ (b.arcs.take (k + 1)).flatMap (cy SB SA) = L1 ++ cy SB j ⟨x0, x1, x2, x3⟩) := by
                have e : cy SB j ⟨x0, x1, x2, x3⟩ = cy SB SA ⟨x0, x1, x2, x3⟩ := by
                  by_cases hx1 : x1 = 0
                  · rw [show j = SA by omega]
                  · rw [cy_off _ _ _ hx1, cy_off _ _ _ hx1]
                rw [Hid, take_of_drop hd.out, List.flatMap_append, ← List.append_assoc, HL1.out, e]
                simp
              have hexit : (¬ j < SA) ∨ (j < SA ∧ (x1 == 0) = false) := by
                rcases Nat.lt_or_ge j SA with h | h
                · exact .inr ⟨h, by simp; intro h2; exact hon ⟨h, h2⟩⟩
                · exact .inl (by omega)
              clear hon
              rcases hexit with hjm | ⟨hjm, hx1'⟩
              all_goals
                go_wp2_with fail
                go_roundw
                case rel => exact ⟨k + 1, by omega, by go_num, by rw [HFIN.out]; exact ⟨_, HBX.out⟩, HFX.out⟩
                case measure => simp [intOf]; omega
        · have HB7 : Hid (Bld 29 wr base base va4 (.slice none 0 0) ⟨Q1, (refF a b).arcs, []⟩) := by
            have h := HB.out
            rw [List.take_of_length_le (by rw [HM.out]; omega)] at h
            have e : (refF a b).arcs = L0 ++ b.arcs.flatMap (cy SB SA) := by rw [← HL0.out]; simp only [refF, HSB.out, HSA.out, Int.toNat_natCast]
            rw [Hid, e]; exact h
          clear HB HB6
          obtain ⟨wo4, rfl⟩ : ∃ wo4 : World, wo4 = wr := ⟨_, rfl⟩
          have HFL : Hid (n' ≤ SA ∧ m' ≤ SB) := by
            have h1 := final_len HGA.out.ord HGA.out.fin
            have h2 := final_len HGB.out.ord HGB.out.fin
            rw [HN'.out, HSA.out] at h1
            rw [HM'.out, HSB.out] at h2
            exact ⟨by omega, by omega⟩
          have HQN : Hid (SA * SB = Q1) := by rw [Hid]; exact_mod_cast hQ1
          go_wp2_with fail
          clear q0 q1 q2
          go_loopw [15] (fun i wr => ∃ k : Nat, k ≤ n' ∧ i = .int .i64 k ∧ Hid (∃ va vf, Bld 29 wr base base va vf ⟨Q1, (refF a b).arcs, compFin SB (a.final.take k) b.final⟩) ∧ Hid (Fr base base W wr)) (fun i _ => n' - (intOf i).toNat)
          case atStart => exact ⟨0, Nat.zero_le _, rfl, ⟨_, _, HB7.out⟩, HF.out⟩
          case round =>
            obtain ⟨k, hk, rfl, HBE, HF⟩ := hrel
            obtain ⟨va5, vf5, hbb⟩ := HBE.out
            have HB := Lib.hid hbb
            clear hbb HBE
            have hQ := HP1.out.fr HF.out (by omega)
            obtain ⟨q0, q1, q2, _, _, _⟩ := hQ.facts
            have hQl := hQ.lt
            clear hQ
            by_cases hlt : k < n'
            · obtain ⟨bb, off, x, rfl, hbl, hd, e0⟩ := (hr'.out k hlt).below (Fr.below HB2.out (by omega) HF.out)
              obtain ⟨xa0, xa1⟩ := HGA.out.fin x (List.mem_of_mem_drop (by rw [hd.out]; exact List.mem_cons_self))
              rw [HSA.out] at xa1
              obtain ⟨r, hr⟩ : ∃ r : Int, x * (SB : Int) = r := ⟨_, rfl⟩
              have rl : 0 ≤ r := by rw [← hr]; exact Int.mul_nonneg (by omega) (by omega)
              have ru : r ≤ 5000000 := by
                have := Int.mul_le_mul (show x ≤ 5000 by omega) (show (SB : Int) ≤ 1000 by omega) (by omega) (by omega : (0:Int) ≤ 5000)
                rw [hr] at this
                omega
              have hwr : IntKind.i64.wrap r = r := IntWalk.i64_in _ (by omega)
              have HLF : Hid ((compFin SB (a.final.take k) b.final).length ≤ 1000) := by
                rw [Hid, compFin_len]
                have h1 := List.length_take_le k a.final
                have h2 := List.length_take_le' k a.final
                have h3 : (a.final.take k).length * b.final.length ≤ SA * SB := Nat.mul_le_mul (by rw [HN'.out] at h2; have := HFL.out.1; omega) (by rw [HM'.out]; exact HFL.out.2)
                rw [HQN.out] at h3; omega
              have HFIN : Hid (compFin SB (a.final.take (k + 1)) b.final = compFin SB (a.final.take k) b.final ++ b.final.map (fun q => r + q)) := by
                rw [Hid, take_of_drop hd.out, compFin_snoc, hr]
              have HBL : Hid (b.final.length ≤ 1000) := by rw [Hid, HM'.out]; have := HFL.out.2; omega
              have HBE : Hid (∀ x, x ∈ b.final → 0 ≤ x ∧ x ≤ 1000000) := fun x hx => by have := HGB.out.fin x hx; have := HGB.out.s2; omega
              generalize hL2 : compFin SB (a.final.take k) b.final = L2 at HB HLF HFIN
              clear hL2
              obtain ⟨A5, n5, c5, rfl, _, _, _, _⟩ := HB.out.oi.rd.op
              have HBf := Lib.hid (KF.out.below (Fr.below HB2.out (by omega) HF.out))
              have hQ2 := HP2.out.fr HF.out (by omega)
              have HQQ1 := Lib.hid (HP1.out.fr HF.out (by omega))
              have HQQ2 := Lib.hid hQ2
              have HEC := Lib.hid e0
              have HS : Hid (∀ w' : World, Below wr.heap.size wr w' → w'.cell? ⟨base, 2, none⟩ = some (.slice A5 n5 c5) ∧ w'.cell? ⟨w.heap.size + 1, 2, none⟩ = some (.slice D' m' d') ∧ w'.cell? ⟨w.heap.size, 2, none⟩ = some (.slice (some ⟨bb, off, none⟩) n' c') ∧ w'.cell? ⟨bb, off + k, none⟩ = some (.int .i64 x) ∧ w'.cell? ⟨w.heap.size + 1, 0, none⟩ = some (.int .i64 SB)) := by
                intro w' h
                obtain ⟨f0, f1, f2, _⟩ := (HQQ1.out.below h).facts3
                obtain ⟨g0, g1, g2, _⟩ := (HQQ2.out.below h).facts3
                exact ⟨(HB.out.below h).c2, g2, f2, (h.cell hbl).trans HEC.out, g0⟩
              have k0 : (0 : Int) ≤ (k : Int) := by omega
              have k1 : (k : Int) < (n' : Int) := by omega
              have hbz : base ≤ wr.heap.size := by have := HB.out.lt; omega
              go_wp2_with fail
              clear q0 q1 q2 e0 hQ2
              refine wp_region_ord 13 [0, 1, 2, 3, 4, 5, 6, 7, 8, 9, 10, 11, 12] [] [0, 1, 2, 3, 4, 5, 6, 7, 8, 9, 10, 11] [12, 13, 14, 15] (fun w' => Below wr.heap.size wr w') (by kernel_rfl) (by kernel_rfl) ?_
              rintro Z hD
              have HSZ : Hid (Below wr.heap.size wr Z) := by rw [hD]; exact (Below.refl _ _).drew
              clear hD
              refine ⟨HSZ.out, ?_⟩
              iterate 12 (refine wpHead_cons (v := ?_) rfl rfl (fun w' hS => ?_) ?_; rotate_left; (focus ((try obtain ⟨s0, s1, s2, s3, s4⟩ := HS.out _ (hS rfl)); clear hS; go_simp; try with_reducible rfl; done)); (try simp only [Act.put, List.setIfInBounds_toArray, List.set_cons_zero, List.set_cons_succ]))
              clear hwr
              refine wpHead_nil ?_
              refine wpTail_cons rfl rfl (fun K hK => ?_)
              go_simp
              refine (higher_any _ b.final r _ (HBf.out.below HSZ.out) HBL.out (by omega) (by omega) HBE.out).mono ?_
              rintro e Y1 ⟨⟨vh, rfl, hoh⟩, hb⟩
              refine hK.out _ _ (fun _ => bchain HSZ.out hb) ?_
              clear hK K
              (try simp only [Act.put, List.setIfInBounds_toArray, List.set_cons_zero, List.set_cons_succ])
              have HSY1 := Lib.hid (bchain HSZ.out hb)
              have HOH := Lib.hid hoh.rd
              have HBY := Lib.hid (HB.out.below HSY1.out)
              have HFY := Lib.hid (HF.out.call hbW HSY1.out)
              have hbs : base ≤ Y1.heap.size := by have := HSY1.out.size; omega
              clear hb hoh
              refine wpTail_rest 13 rfl ?_
              simp only [List.drop_succ_cons, List.drop_zero]
              go_wp2_with (at_builtin; refine wpList_app_ints rfl (.tmp 172) (.tmp 183) rfl base (.slice A5 n5 c5) L2 rfl HBY.out.oi vh (b.final.map (fun q => r + q)) rfl HOH.out (by have := HLF.out; have := HBL.out; rw [List.length_map]; omega) hbs ?_; intro vq w9 ho hgr _; obtain ⟨m1, m2⟩ := HBY.out.midF hgr; obtain ⟨A6, n6, c6, rfl, _, _, _, _⟩ := ho.rd.op; have HO := Lib.hid ho; clear ho)
              refine NoPanic.normal ?_
              go_wp2_with fail
              go_roundw
              case rel =>
                have hp := HBY.out.pushedF hgr HO.out
                exact ⟨k + 1, by omega, by go_num, by rw [HFIN.out]; exact ⟨_, _, hp.1⟩, HFY.out.trans hp.2⟩
              case measure => simp [intOf]; omega
            · have HBF : Hid (Bld 29 wr base base va5 vf5 (refF a b)) := by
                have h := HB.out
                rw [List.take_of_length_le (by rw [HN'.out]; omega)] at h
                have e : refF a b = ⟨Q1, (refF a b).arcs, compFin SB a.final b.final⟩ := by simp only [refF, HSA.out, HSB.out, hQ1]
                rw [Hid, e]; exact h
              have hRw := HR.out.fr HF.out (by omega)
              obtain ⟨A3, n3, c3, rfl, z1, z2, _, _⟩ := HB.out.oa.rd.op
              obtain ⟨A4, n4, c4, rfl, z3, z4, _, _⟩ := HB.out.oi.rd.op
              obtain ⟨r0, r1, r2, f0, f1, f2⟩ := hRw.facts
              have d0 := HB.out.c0
              have d1 := HB.out.c1
              have d2 := HB.out.c2
              have HRW := Lib.hid hRw
              clear hRw HB
              go_wp2_with fail
              refine bodyPost_ret (v := .tuple #[.agg #[.int .i64 Q1, .slice A3 n3 c3, .slice A4 n4 c4], .int .i64 0]) ?_ rfl ?_
              · simp [results, Try.results29, go_sem, r0, r1, r2]
              have e : ((Q1 : Nat) : Int) = (refF a b).states := by simp only [refF, HSA.out, HSB.out, hQ1]
              refine ⟨⟨_, rfl, ?_⟩, ?_⟩
              · rw [e]; exact OwnF.past HBF.out HRW.out _ _ _ (by omega)
              · exact (((Fr.below HB2.out (by omega) HF.out).setCell (by first | omega | (simp; done) | (simp; omega)) _).setCell (by first | omega | (simp; done) | (simp; omega)) _).setCell (by first | omega | (simp; done) | (simp; omega)) _
end Go.Proofs.Ytmeppkkoepmlnaa
