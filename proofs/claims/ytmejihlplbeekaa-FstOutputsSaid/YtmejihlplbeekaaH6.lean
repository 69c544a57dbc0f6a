/-
  The reference 20: Outputs.
-/
import Derived.Test.YtmejihlplbeekaaH5
namespace Go.Proofs.Ytmejihlplbeekaa
open Go.ChangeShapes Go.WideShapes Go.ChangeAt Go.RowKit
theorem frm_cells {n g : Nat} {X Y : World} {M : List Bool} (h : Frm n (fun k => k = g) X Y) (hM : Bls X g M) {k : Nat} {cs : Array Value} {t : TypeId} (hk : X.heap[k]? = some (.cells cs t (0, 0))) (ht : t ≠ 4) (hn : k < n) : Y.heap[k]? = some (.cells cs t (0, 0)) :=
  (h.2 k hn (fun e => by
    rw [e, hM] at hk
    cases hk
    exact ht rfl)).trans hk
theorem frm_ownI {n g base : Nat} {X Y : World} {M : List Bool} {v : Value} {l : List Int} (h : Frm n (fun k => k = g) X Y) (hM : Bls X g M) (ho : OwnI X base v l) (hn : X.heap.size ≤ n) : OwnI Y base v l :=
  own_keep ho fun k cs m _ hk _ => h.2 k (by have := (Array.getElem?_eq_some_iff.1 hk).1; omega) (fun e => by
    rw [e, hM] at hk
    have h2 := Option.some.inj hk
    injection h2 with _ h3
    exact absurd h3 (by decide))
theorem startM {F : PFst} {xs : List Int} (hR : Right F) : mkS F xs ((List.replicate (szP F xs) false).set 0 true) = startS := by
  have hb := startS_box (xs := xs) hR ⟨0, 0⟩ (by simp [startS])
  have h := mkS_set (M := List.replicate (szP F xs) false) (by simp) hb
  simp only [ixP, Int.toNat_zero, Nat.zero_mul, Nat.add_zero] at h
  rw [h, mkS_none]
  funext d
  simp [addS, startS]
set_option maxHeartbeats 4000000 in
set_option maxRecDepth 100000 in
theorem routputs_any (v vin : Value) (F : PFst) (xs : List Int) (n0' m : Int) (w : World) (hv : RdF w v F) (hx : RdI w vin xs) (hF : FinOk F) (hX : xs.length ≤ 1000) (hm : m ≤ 900000) (hFl : F.final.length ≤ 1000000) :
    Calls Try.prog 20 #[v, vin, .int .i64 n0', .int .i64 m] w fun e w' => (∃ vl, e = .returned (.tuple #[vl, .bool (outF F xs n0' m).2]) ∧ RdL w' vl (outF F xs n0' m).1) ∧ Below w.heap.size w w' := by
  have HV := Lib.hid hv
  obtain ⟨va, vf, rfl, ha, hf⟩ := hv
  obtain ⟨A, n, c, rfl, h1, h2, hn, hr⟩ := ha.op
  obtain ⟨A', n', c', rfl, h1', h2', hn', hr'⟩ := hf.op
  obtain ⟨Ax, nx, cx, rfl, h1x, h2x, hnx, hrx⟩ := hx.op
  have HXL := Lib.hid hX
  rw [hnx.out] at hX
  have HX := Lib.hid hx
  have HF := Lib.hid hF
  have HFL := Lib.hid hFl
  clear hf ha hx hr hr' hrx hn hn' hFl
  by_cases hbad : n0' < 0 ∨ 24 < n0' ∨ m < 0
  · have HO : Hid (outF F xs n0' m = ([], false)) := by rw [Hid, outF, if_pos hbad]
    rw [HO.out]
    by_cases c1 : n0' < 0
    · have d1 : decide (n0' < 0) = true := by simpa using c1
      clear c1 hbad
      go_enter Try.func20, Try.ntmps20
      go_wp2_with fail
      go_ret2
      exact ⟨⟨_, rfl, rdL_nil _⟩, by repeat (first | assumption | exact Below.refl _ _ | refine Below.alloc ?_ (by first | omega | (simp; done) | (simp; omega)) _ | refine Below.drew ?_ | refine below_drewN ?_ _ | refine Below.setCell ?_ (by first | omega | (simp; done) | (simp; omega)) _)⟩
    have d1 : decide (n0' < 0) = false := by simpa using c1
    by_cases c2 : 24 < n0'
    · have d2 : decide (24 < n0') = true := by simpa using c2
      clear c1 c2 hbad
      go_enter Try.func20, Try.ntmps20
      go_wp2_with fail
      go_ret2
      exact ⟨⟨_, rfl, rdL_nil _⟩, by repeat (first | assumption | exact Below.refl _ _ | refine Below.alloc ?_ (by first | omega | (simp; done) | (simp; omega)) _ | refine Below.drew ?_ | refine below_drewN ?_ _ | refine Below.setCell ?_ (by first | omega | (simp; done) | (simp; omega)) _)⟩
    have d2 : decide (24 < n0') = false := by simpa using c2
    have d3 : decide (m < 0) = true := by simp; omega
    clear c1 c2 hbad
    go_enter Try.func20, Try.ntmps20
    go_wp2_with fail
    go_ret2
    exact ⟨⟨_, rfl, rdL_nil _⟩, by repeat (first | assumption | exact Below.refl _ _ | refine Below.alloc ?_ (by first | omega | (simp; done) | (simp; omega)) _ | refine Below.drew ?_ | refine below_drewN ?_ _ | refine Below.setCell ?_ (by first | omega | (simp; done) | (simp; omega)) _)⟩
  obtain ⟨k, rfl⟩ : ∃ k : Nat, n0' = (k : Int) := ⟨n0'.toNat, by omega⟩
  obtain ⟨M, rfl⟩ : ∃ M : Nat, m = (M : Int) := ⟨m.toNat, by omega⟩
  have hk : k ≤ 24 := by omega
  have HMM : Hid (M ≤ 900000) := by unfold Hid; omega
  have d1 : decide ((k : Int) < 0) = false := by simp
  have d2 : decide (24 < (k : Int)) = false := by simp; omega
  have d3 : decide ((M : Int) < 0) = false := by simp
  have HOUT : Hid (outF F xs k M = if plainB xs = false then ([], true) else if (allW F xs k).length ≤ M then (allW F xs k, true) else ([], false)) := by
    rw [Hid, outF, if_neg hbad]
    simp only [Int.toNat_natCast]
  obtain ⟨o, ho⟩ : ∃ o, outF F xs k M = o := ⟨_, rfl⟩
  rw [ho] at HOUT ⊢
  clear hbad ho
  cases hpx : plainB xs
  · have HO1 : Hid (o = ([], true)) := by rw [Hid, HOUT.out, if_pos hpx]
    go_enter Try.func20, Try.ntmps20
    go_wp2_with fail
    refine (plain_any _ xs _ (Rd.alloc HX.out _)).mono ?_
    rintro e w1 ⟨rfl, rfl⟩
    rw [hpx]
    go_wp2_with fail
    go_ret2
    rw [HO1.out]
    exact ⟨⟨_, rfl, rdL_nil _⟩, by repeat (first | assumption | exact Below.refl _ _ | refine Below.alloc ?_ (by first | omega | (simp; done) | (simp; omega)) _ | refine Below.drew ?_ | refine below_drewN ?_ _ | refine Below.setCell ?_ (by first | omega | (simp; done) | (simp; omega)) _)⟩
  have HOUT2 : Hid (o = if (allW F xs k).length ≤ M then (allW F xs k, true) else ([], false)) := by rw [Hid, HOUT.out, if_neg (by rw [hpx]; simp)]
  clear HOUT
  have HOUT := HOUT2
  clear HOUT2
  obtain ⟨SN, hSN⟩ : ∃ SN : Nat, F.states = (SN : Int) := ⟨F.states.toNat, by have := HF.out.right.1; omega⟩
  have hS2 : SN ≤ 4096 := by have := HF.out.st; omega
  have hS1 : 1 ≤ SN := by have := HF.out.right.1; omega
  obtain ⟨sz, hsz⟩ : ∃ sz : Nat, (SN : Int) * ((nx : Int) + 1) = (sz : Int) := ⟨SN * (nx + 1), by simp⟩
  have hsz2 : sz = SN * (nx + 1) := by exact_mod_cast hsz.symm
  have HSZ : Hid (szP F xs = sz) := by
    rw [Hid, szP, hSN, hnx.out, hsz2]
    simp
  have hszb : sz ≤ 4100096 := by
    rw [hsz2]; exact Nat.mul_le_mul hS2 (by omega : nx + 1 ≤ 1001)
  have hsz1 : 1 ≤ sz := by rw [hsz2]; exact Nat.mul_pos hS1 (by omega)
  have hmk := fun W => run_make_rowN (P := Try.prog) 57 4 infoB.choose (.bool false) Try.underlying57 infoB.choose_spec.1 infoB.choose_spec.2.1 .i64 .i64 sz sz (Nat.le_refl _) (by rw [infoB.choose_spec.2.2.2]; omega) (by omega) W
  rw [infoB.choose_spec.2.2.1, made_bools] at hmk
  have hm0 := bArr_zero sz hsz1
  have HSN := Lib.hid hSN
  rw [hSN]
  clear hSN hsz2
  go_enter Try.func20, Try.ntmps20
  go_wp2_with fail
  refine (plain_any _ xs _ (Rd.alloc HX.out _)).mono ?_
  rintro e w1 ⟨rfl, rfl⟩
  rw [hpx]
  clear hpx
  go_wp2_with fail
  generalize hw1 : World.alloc w _ = W1
  obtain ⟨n0, hn0⟩ : ∃ n0, w.heap.size = n0 := ⟨_, rfl⟩
  have HB1 : Hid (Below w.heap.size w W1) := by rw [← hw1]; exact (Below.refl _ _).alloc (Nat.le_refl _) _
  have HP1 : Hid (FBlk W1 n0 (.int .i64 (SN : Int)) (.slice A n c) (.slice A' n' c')) := by rw [← hw1, ← hn0]; exact heap_alloc_new w _
  have hs1 : W1.heap.size = n0 + 1 := by rw [← hw1, ← hn0]; simp
  generalize hw2 : World.alloc W1 _ = W
  obtain ⟨g, hg⟩ : ∃ g, n0 + 1 = g := ⟨_, rfl⟩
  have HX2 : Hid (Below W1.heap.size W1 W) := by rw [← hw2]; exact (Below.refl _ _).alloc (Nat.le_refl _) _
  have HBW : Hid (Below w.heap.size w W) := bchain HB1.out HX2.out
  have HPW : Hid (FBlk W n0 (.int .i64 F.states) (.slice A n c) (.slice A' n' c')) := by rw [HSN.out]; exact HP1.out.below HX2.out
  have MMW : Hid (Bls W g ((List.replicate (szP F xs) false).set 0 true)) := by
    rw [HSZ.out, ← hw2, ← hg, ← hs1, bArr_set]
    exact heap_alloc_new W1 _
  have HG0 : Hid (w.heap.size ≤ g) := by unfold Hid; omega
  have HN0 := Lib.hid hn0
  rw [hn0, hg]
  clear hw1 hw2 hs1 hg hn0 HB1 HP1 HX2 hmk hm0
  refine wp_region_steps 17 16 [0, 1, 2, 3, 4, 5, 6, 7, 8, 9, 10, 11, 12, 13, 14, 15] [] (fun w' => FBlk w' n0 (.int .i64 F.states) (.slice A n c) (.slice A' n' c')) (by kernel_rfl) (by kernel_rfl) ?_
  rintro X0 hX0
  have HBX0 : Hid (Below w.heap.size w X0) := by rw [hX0]; exact HBW.out.drew
  have HPX0 : Hid (FBlk X0 n0 (.int .i64 F.states) (.slice A n c) (.slice A' n' c')) := by rw [hX0]; exact HPW.out
  have MMX0 : Hid (Bls X0 g ((List.replicate (szP F xs) false).set 0 true)) := by rw [hX0]; exact MMW.out
  clear hX0 HBW HPW MMW
  have HS : Hid (∀ w' : World, FBlk w' n0 (.int .i64 F.states) (.slice A n c) (.slice A' n' c') → w'.cell? ⟨n0, 0, none⟩ = some (.int .i64 F.states) ∧ w'.cell? ⟨n0, 1, none⟩ = some (.slice A n c) ∧ w'.cell? ⟨n0, 2, none⟩ = some (.slice A' n' c')) := fun w' h => ⟨h.facts.1, h.facts.2.1, h.facts.2.2.1⟩
  have HPS : Hid True := trivial
  have HSTM : Hid (mkS F xs ((List.replicate sz false).set 0 true) = startS) := by rw [Hid, ← HSZ.out]; exact startM HF.out.right
  (refine wpE_take 0 (v := ?_) (by kernel_rfl) rfl rfl (by exact HPX0.out) (fun w' hS => ?_) ?_; rotate_left; (focus ((try obtain ⟨s0, s1, s2⟩ := HS.out _ (hS rfl)); clear hS; go_simp; try with_reducible rfl; done)); (try simp only [Act.put, List.setIfInBounds_toArray, List.set_cons_zero, List.set_cons_succ]))
  (refine wpE_take 1 (v := ?_) (by kernel_rfl) rfl rfl (by exact HPX0.out) (fun w' hS => ?_) ?_; rotate_left; (focus ((try obtain ⟨s0, s1, s2⟩ := HS.out _ (hS rfl)); clear hS; go_simp; try with_reducible rfl; done)); (try simp only [Act.put, List.setIfInBounds_toArray, List.set_cons_zero, List.set_cons_succ]))
  (refine wpE_take 2 (v := ?_) (by kernel_rfl) rfl rfl (by exact HPX0.out) (fun w' hS => ?_) ?_; rotate_left; (focus ((try obtain ⟨s0, s1, s2⟩ := HS.out _ (hS rfl)); clear hS; go_simp; try with_reducible rfl; done)); (try simp only [Act.put, List.setIfInBounds_toArray, List.set_cons_zero, List.set_cons_succ]))
  (refine wpE_take 4 (v := ?_) (by kernel_rfl) rfl rfl (by exact HPX0.out) (fun w' hS => ?_) ?_; rotate_left; (focus ((try obtain ⟨s0, s1, s2⟩ := HS.out _ (hS rfl)); clear hS; go_simp; try with_reducible rfl; done)); (try simp only [Act.put, List.setIfInBounds_toArray, List.set_cons_zero, List.set_cons_succ]))
  (refine wpE_take 5 (v := ?_) (by kernel_rfl) rfl rfl (by exact HPX0.out) (fun w' hS => ?_) ?_; rotate_left; (focus ((try obtain ⟨s0, s1, s2⟩ := HS.out _ (hS rfl)); clear hS; go_simp; try with_reducible rfl; done)); (try simp only [Act.put, List.setIfInBounds_toArray, List.set_cons_zero, List.set_cons_succ]))
  (refine wpE_take 7 (v := ?_) (by kernel_rfl) rfl rfl (by exact HPX0.out) (fun w' hS => ?_) ?_; rotate_left; (focus ((try obtain ⟨s0, s1, s2⟩ := HS.out _ (hS rfl)); clear hS; go_simp; try with_reducible rfl; done)); (try simp only [Act.put, List.setIfInBounds_toArray, List.set_cons_zero, List.set_cons_succ]))
  (refine wpE_take 9 (v := ?_) (by kernel_rfl) rfl rfl (by exact HPX0.out) (fun w' hS => ?_) ?_; rotate_left; (focus ((try obtain ⟨s0, s1, s2⟩ := HS.out _ (hS rfl)); clear hS; go_simp; try with_reducible rfl; done)); (try simp only [Act.put, List.setIfInBounds_toArray, List.set_cons_zero, List.set_cons_succ]))
  (refine wpE_take 10 (v := ?_) (by kernel_rfl) rfl rfl (by exact HPX0.out) (fun w' hS => ?_) ?_; rotate_left; (focus ((try obtain ⟨s0, s1, s2⟩ := HS.out _ (hS rfl)); clear hS; go_simp; try with_reducible rfl; done)); (try simp only [Act.put, List.setIfInBounds_toArray, List.set_cons_zero, List.set_cons_succ]))
  (refine wpE_take 11 (v := ?_) (by kernel_rfl) rfl rfl (by exact HPX0.out) (fun w' hS => ?_) ?_; rotate_left; (focus ((try obtain ⟨s0, s1, s2⟩ := HS.out _ (hS rfl)); clear hS; go_simp; try with_reducible rfl; done)); (try simp only [Act.put, List.setIfInBounds_toArray, List.set_cons_zero, List.set_cons_succ]))
  (refine wpE_take 13 (v := ?_) (by kernel_rfl) rfl rfl (by exact HPX0.out) (fun w' hS => ?_) ?_; rotate_left; (focus ((try obtain ⟨s0, s1, s2⟩ := HS.out _ (hS rfl)); clear hS; go_simp; try with_reducible rfl; done)); (try simp only [Act.put, List.setIfInBounds_toArray, List.set_cons_zero, List.set_cons_succ]))
  refine wpE_br [3, 15] (by kernel_rfl) ?_
  refine AllE.cons rfl rfl (fun K hK => ?_) (AllE.cons rfl rfl (fun K hK => ?_) AllE.nil)
  · skip
    go_simp
    refine (symbols_any X0 _ F (HV.out.below HBX0.out) HF.out.al).mono ?_
    rintro e X1 ⟨⟨vs, rfl, hos⟩, hb⟩
    obtain ⟨_, As, cs, rfl⟩ := own_slice hos
    refine hK.out _ _ (HPX0.out.below hb) ?_
    clear hK K
    (try simp only [Act.put, List.setIfInBounds_toArray, List.set_cons_zero, List.set_cons_succ])
    have SYX1 := Lib.hid hos
    have HXX1 := Lib.hid hb
    clear hos hb
    have HBX1 : Hid (Below w.heap.size w X1) := bchain HBX0.out HXX1.out
    have HPX1 := Lib.hid (HPX0.out.below HXX1.out)
    have MMX1 := Lib.hid (MMX0.out.below HXX1.out)
    refine wpE_br [6, 15] (by kernel_rfl) ?_
    refine AllE.cons rfl rfl (fun K hK => ?_) (AllE.cons rfl rfl (fun K hK => ?_) AllE.nil)
    · skip
      go_simp
      have hle := least_any _ _ F xs X1 (HV.out.below HBX1.out) (HX.out.below HBX1.out) HF.out.good HF.out.right HF.out.st HXL.out
      rw [HSZ.out] at hle
      refine hle.mono ?_
      rintro e X2 ⟨⟨gd, rfl, hge, D, hins, hdi, hda⟩, hb⟩
      refine hK.out _ _ (HPX1.out.below hb) ?_
      clear hK K
      (try simp only [Act.put, List.setIfInBounds_toArray, List.set_cons_zero, List.set_cons_succ])
      have DDX2 := Lib.hid hins
      have HDI := Lib.hid hdi
      have HDA := Lib.hid hda
      have HXX2 := Lib.hid hb
      clear hins hdi hda hb hge hle
      have HBX2 : Hid (Below w.heap.size w X2) := bchain HBX1.out HXX2.out
      have HPX2 := Lib.hid (HPX1.out.below HXX2.out)
      have MMX2 := Lib.hid (MMX1.out.below HXX2.out)
      have SYX2 : Hid (OwnI X2 _ _ _) := own_below SYX1.out HXX2.out
      (refine wpE_take 8 (v := ?_) (by kernel_rfl) rfl rfl (by exact HPX2.out) (fun w' hS => ?_) ?_; rotate_left; (focus ((try obtain ⟨s0, s1, s2⟩ := HS.out _ (hS rfl)); clear hS; go_simp; try with_reducible rfl; done)); (try simp only [Act.put, List.setIfInBounds_toArray, List.set_cons_zero, List.set_cons_succ]))
      refine wpE_br [12, 15] (by kernel_rfl) ?_
      refine AllE.cons rfl rfl (fun K hK => ?_) (AllE.cons rfl rfl (fun K hK => ?_) AllE.nil)
      · skip
        go_simp
        have hcl := closed_any w X2 _ _ F xs g _ HBX2.out HV.out HX.out HG0.out MMX2.out (by simp) HF.out.good HF.out.right HF.out.st HXL.out
        rw [HSZ.out] at hcl
        refine hcl.mono ?_
        rintro e X3 ⟨rfl, M', hm', hl', hsp, hfm⟩
        rw [HSTM.out] at hsp
        have HFMX3 := Lib.hid hfm
        refine hK.out _ _ (frm_cells HFMX3.out MMX2.out HPX2.out (by decide) HPX2.out.lt) ?_
        clear hK K hcl
        (try simp only [Act.put, List.setIfInBounds_toArray, List.set_cons_zero, List.set_cons_succ])
        have MCX3 := Lib.hid hm'
        have HML := Lib.hid hl'
        have HSP := Lib.hid hsp
        clear hm' hl' hsp hfm
        have HBX3 : Hid (Below w.heap.size w X3) := HBX2.out.trans (HFMX3.out.below (by have := HBX2.out.size; exact this) (fun k hk e => by have := HG0.out; omega))
        have HPX3 : Hid (FBlk X3 n0 (.int .i64 F.states) (.slice A n c) (.slice A' n' c')) := frm_cells HFMX3.out MMX2.out HPX2.out (by decide) HPX2.out.lt
        have DDX3 : Hid (Ins X3 gd D) := frm_cells HFMX3.out MMX2.out DDX2.out (by decide) DDX2.out.lt
        have SYX3 := Lib.hid (frm_ownI HFMX3.out MMX2.out SYX2.out (Nat.le_refl _))
        refine wpE_br [14, 15] (by kernel_rfl) ?_
        refine AllE.cons rfl rfl (fun K hK => ?_) (AllE.cons rfl rfl (fun K hK => ?_) AllE.nil)
        · skip
          go_simp
          have hfr := from_any X3 _ _ _ _ gd M D F xs ⟨HV.out.below HBX3.out, HX.out.below HBX3.out, SYX3.out.rd, DDX3.out, HDI.out, HDA.out, HF.out, HXL.out, HFL.out⟩ HMM.out k X3 g (.slice none 0 0) (.slice none 0 0) [] [] M' (Below.refl _ _) MCX3.out (by rw [HSZ.out]; exact HML.out) HSP.out.2.2.1 (World.ownsRow_nil _ _ _ _) (by simp; omega) (OwnL.nil _ _) (Nat.zero_le _)
          simp only [sCells, HSZ.out] at hfr
          refine hfr.mono ?_
          rintro e X4 ⟨⟨fv, rfl, Fs, hol, hpo⟩, hfl⟩
          obtain ⟨uf, cf, rfl⟩ := hol.form
          have HFRX4 := Lib.hid hfl
          refine hK.out _ _ (HFRX4.out.cells HPX3.out (by decide) HPX3.out.lt) ?_
          clear hK K hfr
          (try simp only [Act.put, List.setIfInBounds_toArray, List.set_cons_zero, List.set_cons_succ])
          have OLX4 := Lib.hid hol
          have HPO := Lib.hid hpo
          clear hol hpo hfl
          have HBX4 : Hid (Below w.heap.size w X4) := bchain HBX3.out (HFRX4.out.below (Nat.le_refl _))
          have HPX4 : Hid (FBlk X4 n0 (.int .i64 F.states) (.slice A n c) (.slice A' n' c')) := HFRX4.out.cells HPX3.out (by decide) HPX3.out.lt
          refine wpE_br [15] (by kernel_rfl) ?_
          refine AllE.cons rfl rfl (fun K hK => ?_) AllE.nil
          go_simp
          generalize hal : World.alloc X4 _ = X5
          obtain ⟨ba, hba⟩ : ∃ ba, X4.heap.size = ba := ⟨_, rfl⟩
          have HXX5 : Hid (Below X4.heap.size X4 X5) := by rw [← hal]; exact (Below.refl _ _).alloc (Nat.le_refl _) _
          have ZZX5 : Hid (ZBlk X5 ba) := by rw [← hal, ← hba]; exact heap_alloc_new X4 _
          rw [hba]
          have HBA : Hid (X4.heap.size = ba) := hba
          refine hK.out _ _ (HPX4.out.below HXX5.out) ?_
          clear hK K hal hba
          (try simp only [Act.put, List.setIfInBounds_toArray, List.set_cons_zero, List.set_cons_succ])
          have HBX5 : Hid (Below w.heap.size w X5) := bchain HBX4.out HXX5.out
          have HPX5 := Lib.hid (HPX4.out.below HXX5.out)
          have OLX5 := Lib.hid (OLX4.out.below HXX5.out)
          have HBAW : Hid (w.heap.size ≤ ba) := by have h1 := HBX4.out.size; have h2 := HBA.out; unfold Hid; omega
          clear HPS
          refine wpE_rest 16 (by kernel_rfl) ?_
          simp only [List.drop_succ_cons, List.drop_zero]
          obtain ⟨r0, r1, r2, r3, r4, r5, r6, r7⟩ := ZZX5.out.cells
          have hfz := ZZX5.out.free
          have hl1 := ZZX5.out.lt
          go_wp2_with fail
          refine NoPanic.normal ?_
          generalize hW8 : World.setCell _ _ _ = W8
          have hset : ∀ k, k ≠ ba → W8.heap[k]? = X5.heap[k]? := fun k hk => by
            rw [← hW8]
            iterate 8 (refine (Below.heap_setCell _ _ _ k hk).trans ?_)
            rfl
          have HS8 : Hid (W8.heap[ba]? = some (.cells #[.int .i64 F.states, .slice A n c, .slice A' n' c', .slice Ax nx cx, .slice As (symsX F.arcs).length cs, .slice (some ⟨gd, 0, none⟩) sz sz, .int .i64 (M : Int), .slice uf Fs.length cf] 67 (0, 0))) := by
            have h := ZZX5.out
            unfold ZBlk at h
            rw [← hW8, Hid]
            simp [World.setCell, Array.getElem?_modify, h]
          have HB8 : Hid (Below w.heap.size w W8) := by
            rw [← hW8]
            iterate 8 (refine Below.setCell ?_ (by have := HBA.out; have := HBAW.out; exact this) _)
            exact HBX5.out
          have HO8 : Hid (RdL W8 (.slice uf Fs.length cf) Fs) := (OLX5.out.keep fun k cs t m hk ht _ => hset k (fun e => by
            have h := ZZX5.out
            unfold ZBlk at h
            rw [e, h] at hk
            cases hk
            rcases ht with h | h
            · exact absurd h (by decide)
            · exact absurd h (by decide))).rd
          clear hW8 hset r0 r1 r2 r3 r4 r5 r6 r7 hfz hl1
          have s5 : W8.cell? ⟨ba, 7, none⟩ = some (.slice uf Fs.length cf) := by rw [cell_of_row W8 ba _ _ _ (0, 0) HS8.out]; rfl
          have hbl : ba < W8.heap.size := (Array.getElem?_eq_some_iff.1 HS8.out).1
          by_cases hle : (allW F xs k).length ≤ M
          · have HFE : Hid (Fs = allW F xs k) := by
              rcases HPO.out.2 with ⟨h1, h2⟩ | ⟨h1, h2⟩
              · rw [Hid, h2]
                simp only [List.nil_append]
                rw [show (fun x : List Int => x) = id from rfl, List.map_id, allW]
                exact enumW_congr fun u => HSP.out.acc u
              · exfalso
                simp only [List.length_nil, Nat.zero_add, List.length_map] at h1
                rw [enumW_congr (fun u => HSP.out.acc u)] at h1
                unfold allW at hle
                omega
            have HLE : Hid (Fs.length ≤ M) := by rw [HFE.out]; exact hle
            have hd1 : decide (M < Fs.length) = false := by have := HLE.out; simp; omega
            have hd2 : decide ((M : Int) < (Fs.length : Int)) = false := by have := HLE.out; simp; omega
            have HO : Hid (o = (Fs, true)) := by rw [Hid, HOUT.out, if_pos hle, HFE.out]
            clear hle
            go_wp2_with fail
            go_ret2
            rw [HO.out]
            exact ⟨⟨_, rfl, HO8.out⟩, HB8.out⟩
          · have HLT : Hid (M < Fs.length) := by
              rcases HPO.out.2 with ⟨h1, h2⟩ | ⟨h1, h2⟩
              · exfalso
                simp only [List.length_nil, Nat.zero_add, List.length_map] at h1
                rw [enumW_congr (fun u => HSP.out.acc u)] at h1
                unfold allW at hle
                omega
              · exact h2
            have hd1 : decide (M < Fs.length) = true := by have := HLT.out; simpa using this
            have hd2 : decide ((M : Int) < (Fs.length : Int)) = true := by have := HLT.out; simp; omega
            have HO : Hid (o = ([], false)) := by rw [Hid, HOUT.out, if_neg hle]
            clear hle
            go_wp2_with fail
            go_ret2
            rw [HO.out]
            exact ⟨⟨_, rfl, rdL_nil _⟩, HB8.out⟩
        · skip
          go_simp
          generalize hal : World.alloc X3 _ = X4
          obtain ⟨ba, hba⟩ : ∃ ba, X3.heap.size = ba := ⟨_, rfl⟩
          have HXX4 : Hid (Below X3.heap.size X3 X4) := by rw [← hal]; exact (Below.refl _ _).alloc (Nat.le_refl _) _
          have ZZX4 : Hid (ZBlk X4 ba) := by rw [← hal, ← hba]; exact heap_alloc_new X3 _
          rw [hba]
          have HBA : Hid (X3.heap.size = ba) := hba
          refine hK.out _ _ (HPX3.out.below HXX4.out) ?_
          clear hK K hal hba
          (try simp only [Act.put, List.setIfInBounds_toArray, List.set_cons_zero, List.set_cons_succ])
          have HBX4 : Hid (Below w.heap.size w X4) := bchain HBX3.out HXX4.out
          have HPX4 := Lib.hid (HPX3.out.below HXX4.out)
          have DDX4 := Lib.hid (DDX3.out.below HXX4.out)
          have MCX4 := Lib.hid (MCX3.out.below HXX4.out)
          have SYX4 : Hid (OwnI X4 _ _ _) := own_below SYX3.out HXX4.out
          have HBAW : Hid (w.heap.size ≤ ba) := by have h1 := HBX3.out.size; have h2 := HBA.out; unfold Hid; omega
          refine wpE_br [14] (by kernel_rfl) ?_
          refine AllE.cons rfl rfl (fun K hK => ?_) AllE.nil
          go_simp
          have hfr := from_any X4 _ _ _ _ gd M D F xs ⟨HV.out.below HBX4.out, HX.out.below HBX4.out, SYX4.out.rd, DDX4.out, HDI.out, HDA.out, HF.out, HXL.out, HFL.out⟩ HMM.out k X4 g (.slice none 0 0) (.slice none 0 0) [] [] M' (Below.refl _ _) MCX4.out (by rw [HSZ.out]; exact HML.out) HSP.out.2.2.1 (World.ownsRow_nil _ _ _ _) (by simp; omega) (OwnL.nil _ _) (Nat.zero_le _)
          simp only [sCells, HSZ.out] at hfr
          refine hfr.mono ?_
          rintro e X5 ⟨⟨fv, rfl, Fs, hol, hpo⟩, hfl⟩
          obtain ⟨uf, cf, rfl⟩ := hol.form
          have HFRX5 := Lib.hid hfl
          refine hK.out _ _ (HFRX5.out.cells HPX4.out (by decide) HPX4.out.lt) ?_
          clear hK K hfr
          (try simp only [Act.put, List.setIfInBounds_toArray, List.set_cons_zero, List.set_cons_succ])
          have OLX5 := Lib.hid hol
          have HPO := Lib.hid hpo
          clear hol hpo hfl
          have HBX5 : Hid (Below w.heap.size w X5) := bchain HBX4.out (HFRX5.out.below (Nat.le_refl _))
          have HPX5 : Hid (FBlk X5 n0 (.int .i64 F.states) (.slice A n c) (.slice A' n' c')) := HFRX5.out.cells HPX4.out (by decide) HPX4.out.lt
          have ZZX5 : Hid (ZBlk X5 ba) := HFRX5.out.cells ZZX4.out (by decide) ZZX4.out.lt
          clear HPS
          refine wpE_rest 16 (by kernel_rfl) ?_
          simp only [List.drop_succ_cons, List.drop_zero]
          obtain ⟨r0, r1, r2, r3, r4, r5, r6, r7⟩ := ZZX5.out.cells
          have hfz := ZZX5.out.free
          have hl1 := ZZX5.out.lt
          go_wp2_with fail
          refine NoPanic.normal ?_
          generalize hW8 : World.setCell _ _ _ = W8
          have hset : ∀ k, k ≠ ba → W8.heap[k]? = X5.heap[k]? := fun k hk => by
            rw [← hW8]
            iterate 8 (refine (Below.heap_setCell _ _ _ k hk).trans ?_)
            rfl
          have HS8 : Hid (W8.heap[ba]? = some (.cells #[.int .i64 F.states, .slice A n c, .slice A' n' c', .slice Ax nx cx, .slice As (symsX F.arcs).length cs, .slice (some ⟨gd, 0, none⟩) sz sz, .int .i64 (M : Int), .slice uf Fs.length cf] 67 (0, 0))) := by
            have h := ZZX5.out
            unfold ZBlk at h
            rw [← hW8, Hid]
            simp [World.setCell, Array.getElem?_modify, h]
          have HB8 : Hid (Below w.heap.size w W8) := by
            rw [← hW8]
            iterate 8 (refine Below.setCell ?_ (by have := HBA.out; have := HBAW.out; exact this) _)
            exact HBX5.out
          have HO8 : Hid (RdL W8 (.slice uf Fs.length cf) Fs) := (OLX5.out.keep fun k cs t m hk ht _ => hset k (fun e => by
            have h := ZZX5.out
            unfold ZBlk at h
            rw [e, h] at hk
            cases hk
            rcases ht with h | h
            · exact absurd h (by decide)
            · exact absurd h (by decide))).rd
          clear hW8 hset r0 r1 r2 r3 r4 r5 r6 r7 hfz hl1
          have s5 : W8.cell? ⟨ba, 7, none⟩ = some (.slice uf Fs.length cf) := by rw [cell_of_row W8 ba _ _ _ (0, 0) HS8.out]; rfl
          have hbl : ba < W8.heap.size := (Array.getElem?_eq_some_iff.1 HS8.out).1
          by_cases hle : (allW F xs k).length ≤ M
          · have HFE : Hid (Fs = allW F xs k) := by
              rcases HPO.out.2 with ⟨h1, h2⟩ | ⟨h1, h2⟩
              · rw [Hid, h2]
                simp only [List.nil_append]
                rw [show (fun x : List Int => x) = id from rfl, List.map_id, allW]
                exact enumW_congr fun u => HSP.out.acc u
              · exfalso
                simp only [List.length_nil, Nat.zero_add, List.length_map] at h1
                rw [enumW_congr (fun u => HSP.out.acc u)] at h1
                unfold allW at hle
                omega
            have HLE : Hid (Fs.length ≤ M) := by rw [HFE.out]; exact hle
            have hd1 : decide (M < Fs.length) = false := by have := HLE.out; simp; omega
            have hd2 : decide ((M : Int) < (Fs.length : Int)) = false := by have := HLE.out; simp; omega
            have HO : Hid (o = (Fs, true)) := by rw [Hid, HOUT.out, if_pos hle, HFE.out]
            clear hle
            go_wp2_with fail
            go_ret2
            rw [HO.out]
            exact ⟨⟨_, rfl, HO8.out⟩, HB8.out⟩
          · have HLT : Hid (M < Fs.length) := by
              rcases HPO.out.2 with ⟨h1, h2⟩ | ⟨h1, h2⟩
              · exfalso
                simp only [List.length_nil, Nat.zero_add, List.length_map] at h1
                rw [enumW_congr (fun u => HSP.out.acc u)] at h1
                unfold allW at hle
                omega
              · exact h2
            have hd1 : decide (M < Fs.length) = true := by have := HLT.out; simpa using this
            have hd2 : decide ((M : Int) < (Fs.length : Int)) = true := by have := HLT.out; simp; omega
            have HO : Hid (o = ([], false)) := by rw [Hid, HOUT.out, if_neg hle]
            clear hle
            go_wp2_with fail
            go_ret2
            rw [HO.out]
            exact ⟨⟨_, rfl, rdL_nil _⟩, HB8.out⟩
      · skip
        go_simp
        generalize hal : World.alloc X2 _ = X3
        obtain ⟨ba, hba⟩ : ∃ ba, X2.heap.size = ba := ⟨_, rfl⟩
        have HXX3 : Hid (Below X2.heap.size X2 X3) := by rw [← hal]; exact (Below.refl _ _).alloc (Nat.le_refl _) _
        have ZZX3 : Hid (ZBlk X3 ba) := by rw [← hal, ← hba]; exact heap_alloc_new X2 _
        rw [hba]
        have HBA : Hid (X2.heap.size = ba) := hba
        refine hK.out _ _ (HPX2.out.below HXX3.out) ?_
        clear hK K hal hba
        (try simp only [Act.put, List.setIfInBounds_toArray, List.set_cons_zero, List.set_cons_succ])
        have HBX3 : Hid (Below w.heap.size w X3) := bchain HBX2.out HXX3.out
        have HPX3 := Lib.hid (HPX2.out.below HXX3.out)
        have DDX3 := Lib.hid (DDX2.out.below HXX3.out)
        have MMX3 := Lib.hid (MMX2.out.below HXX3.out)
        have SYX3 : Hid (OwnI X3 _ _ _) := own_below SYX2.out HXX3.out
        have HBAW : Hid (w.heap.size ≤ ba) := by have h1 := HBX2.out.size; have h2 := HBA.out; unfold Hid; omega
        refine wpE_br [12] (by kernel_rfl) ?_
        refine AllE.cons rfl rfl (fun K hK => ?_) AllE.nil
        go_simp
        have hcl := closed_any w X3 _ _ F xs g _ HBX3.out HV.out HX.out HG0.out MMX3.out (by simp) HF.out.good HF.out.right HF.out.st HXL.out
        rw [HSZ.out] at hcl
        refine hcl.mono ?_
        rintro e X4 ⟨rfl, M', hm', hl', hsp, hfm⟩
        rw [HSTM.out] at hsp
        have HFMX4 := Lib.hid hfm
        refine hK.out _ _ (frm_cells HFMX4.out MMX3.out HPX3.out (by decide) HPX3.out.lt) ?_
        clear hK K hcl
        (try simp only [Act.put, List.setIfInBounds_toArray, List.set_cons_zero, List.set_cons_succ])
        have MCX4 := Lib.hid hm'
        have HML := Lib.hid hl'
        have HSP := Lib.hid hsp
        clear hm' hl' hsp hfm
        have HBX4 : Hid (Below w.heap.size w X4) := HBX3.out.trans (HFMX4.out.below (by have := HBX3.out.size; exact this) (fun k hk e => by have := HG0.out; omega))
        have HPX4 : Hid (FBlk X4 n0 (.int .i64 F.states) (.slice A n c) (.slice A' n' c')) := frm_cells HFMX4.out MMX3.out HPX3.out (by decide) HPX3.out.lt
        have DDX4 : Hid (Ins X4 gd D) := frm_cells HFMX4.out MMX3.out DDX3.out (by decide) DDX3.out.lt
        have SYX4 := Lib.hid (frm_ownI HFMX4.out MMX3.out SYX3.out (Nat.le_refl _))
        have ZZX4 : Hid (ZBlk X4 ba) := frm_cells HFMX4.out MMX3.out ZZX3.out (by decide) ZZX3.out.lt
        refine wpE_br [14] (by kernel_rfl) ?_
        refine AllE.cons rfl rfl (fun K hK => ?_) AllE.nil
        go_simp
        have hfr := from_any X4 _ _ _ _ gd M D F xs ⟨HV.out.below HBX4.out, HX.out.below HBX4.out, SYX4.out.rd, DDX4.out, HDI.out, HDA.out, HF.out, HXL.out, HFL.out⟩ HMM.out k X4 g (.slice none 0 0) (.slice none 0 0) [] [] M' (Below.refl _ _) MCX4.out (by rw [HSZ.out]; exact HML.out) HSP.out.2.2.1 (World.ownsRow_nil _ _ _ _) (by simp; omega) (OwnL.nil _ _) (Nat.zero_le _)
        simp only [sCells, HSZ.out] at hfr
        refine hfr.mono ?_
        rintro e X5 ⟨⟨fv, rfl, Fs, hol, hpo⟩, hfl⟩
        obtain ⟨uf, cf, rfl⟩ := hol.form
        have HFRX5 := Lib.hid hfl
        refine hK.out _ _ (HFRX5.out.cells HPX4.out (by decide) HPX4.out.lt) ?_
        clear hK K hfr
        (try simp only [Act.put, List.setIfInBounds_toArray, List.set_cons_zero, List.set_cons_succ])
        have OLX5 := Lib.hid hol
        have HPO := Lib.hid hpo
        clear hol hpo hfl
        have HBX5 : Hid (Below w.heap.size w X5) := bchain HBX4.out (HFRX5.out.below (Nat.le_refl _))
        have HPX5 : Hid (FBlk X5 n0 (.int .i64 F.states) (.slice A n c) (.slice A' n' c')) := HFRX5.out.cells HPX4.out (by decide) HPX4.out.lt
        have ZZX5 : Hid (ZBlk X5 ba) := HFRX5.out.cells ZZX4.out (by decide) ZZX4.out.lt
        clear HPS
        refine wpE_rest 16 (by kernel_rfl) ?_
        simp only [List.drop_succ_cons, List.drop_zero]
        obtain ⟨r0, r1, r2, r3, r4, r5, r6, r7⟩ := ZZX5.out.cells
        have hfz := ZZX5.out.free
        have hl1 := ZZX5.out.lt
        go_wp2_with fail
        refine NoPanic.normal ?_
        generalize hW8 : World.setCell _ _ _ = W8
        have hset : ∀ k, k ≠ ba → W8.heap[k]? = X5.heap[k]? := fun k hk => by
          rw [← hW8]
          iterate 8 (refine (Below.heap_setCell _ _ _ k hk).trans ?_)
          rfl
        have HS8 : Hid (W8.heap[ba]? = some (.cells #[.int .i64 F.states, .slice A n c, .slice A' n' c', .slice Ax nx cx, .slice As (symsX F.arcs).length cs, .slice (some ⟨gd, 0, none⟩) sz sz, .int .i64 (M : Int), .slice uf Fs.length cf] 67 (0, 0))) := by
          have h := ZZX5.out
          unfold ZBlk at h
          rw [← hW8, Hid]
          simp [World.setCell, Array.getElem?_modify, h]
        have HB8 : Hid (Below w.heap.size w W8) := by
          rw [← hW8]
          iterate 8 (refine Below.setCell ?_ (by have := HBA.out; have := HBAW.out; exact this) _)
          exact HBX5.out
        have HO8 : Hid (RdL W8 (.slice uf Fs.length cf) Fs) := (OLX5.out.keep fun k cs t m hk ht _ => hset k (fun e => by
          have h := ZZX5.out
          unfold ZBlk at h
          rw [e, h] at hk
          cases hk
          rcases ht with h | h
          · exact absurd h (by decide)
          · exact absurd h (by decide))).rd
        clear hW8 hset r0 r1 r2 r3 r4 r5 r6 r7 hfz hl1
        have s5 : W8.cell? ⟨ba, 7, none⟩ = some (.slice uf Fs.length cf) := by rw [cell_of_row W8 ba _ _ _ (0, 0) HS8.out]; rfl
        have hbl : ba < W8.heap.size := (Array.getElem?_eq_some_iff.1 HS8.out).1
        by_cases hle : (allW F xs k).length ≤ M
        · have HFE : Hid (Fs = allW F xs k) := by
            rcases HPO.out.2 with ⟨h1, h2⟩ | ⟨h1, h2⟩
            · rw [Hid, h2]
              simp only [List.nil_append]
              rw [show (fun x : List Int => x) = id from rfl, List.map_id, allW]
              exact enumW_congr fun u => HSP.out.acc u
            · exfalso
              simp only [List.length_nil, Nat.zero_add, List.length_map] at h1
              rw [enumW_congr (fun u => HSP.out.acc u)] at h1
              unfold allW at hle
              omega
          have HLE : Hid (Fs.length ≤ M) := by rw [HFE.out]; exact hle
          have hd1 : decide (M < Fs.length) = false := by have := HLE.out; simp; omega
          have hd2 : decide ((M : Int) < (Fs.length : Int)) = false := by have := HLE.out; simp; omega
          have HO : Hid (o = (Fs, true)) := by rw [Hid, HOUT.out, if_pos hle, HFE.out]
          clear hle
          go_wp2_with fail
          go_ret2
          rw [HO.out]
          exact ⟨⟨_, rfl, HO8.out⟩, HB8.out⟩
        · have HLT : Hid (M < Fs.length) := by
            rcases HPO.out.2 with ⟨h1, h2⟩ | ⟨h1, h2⟩
            · exfalso
              simp only [List.length_nil, Nat.zero_add, List.length_map] at h1
              rw [enumW_congr (fun u => HSP.out.acc u)] at h1
              unfold allW at hle
              omega
            · exact h2
          have hd1 : decide (M < Fs.length) = true := by have := HLT.out; simpa using this
          have hd2 : decide ((M : Int) < (Fs.length : Int)) = true := by have := HLT.out; simp; omega
          have HO : Hid (o = ([], false)) := by rw [Hid, HOUT.out, if_neg hle]
          clear hle
          go_wp2_with fail
          go_ret2
          rw [HO.out]
          exact ⟨⟨_, rfl, rdL_nil _⟩, HB8.out⟩
    · skip
      go_simp
      generalize hal : World.alloc X1 _ = X2
      obtain ⟨ba, hba⟩ : ∃ ba, X1.heap.size = ba := ⟨_, rfl⟩
      have HXX2 : Hid (Below X1.heap.size X1 X2) := by rw [← hal]; exact (Below.refl _ _).alloc (Nat.le_refl _) _
      have ZZX2 : Hid (ZBlk X2 ba) := by rw [← hal, ← hba]; exact heap_alloc_new X1 _
      rw [hba]
      have HBA : Hid (X1.heap.size = ba) := hba
      refine hK.out _ _ (HPX1.out.below HXX2.out) ?_
      clear hK K hal hba
      (try simp only [Act.put, List.setIfInBounds_toArray, List.set_cons_zero, List.set_cons_succ])
      have HBX2 : Hid (Below w.heap.size w X2) := bchain HBX1.out HXX2.out
      have HPX2 := Lib.hid (HPX1.out.below HXX2.out)
      have MMX2 := Lib.hid (MMX1.out.below HXX2.out)
      have SYX2 : Hid (OwnI X2 _ _ _) := own_below SYX1.out HXX2.out
      have HBAW : Hid (w.heap.size ≤ ba) := by have h1 := HBX1.out.size; have h2 := HBA.out; unfold Hid; omega
      refine wpE_br [6] (by kernel_rfl) ?_
      refine AllE.cons rfl rfl (fun K hK => ?_) AllE.nil
      go_simp
      have hle := least_any _ _ F xs X2 (HV.out.below HBX2.out) (HX.out.below HBX2.out) HF.out.good HF.out.right HF.out.st HXL.out
      rw [HSZ.out] at hle
      refine hle.mono ?_
      rintro e X3 ⟨⟨gd, rfl, hge, D, hins, hdi, hda⟩, hb⟩
      refine hK.out _ _ (HPX2.out.below hb) ?_
      clear hK K
      (try simp only [Act.put, List.setIfInBounds_toArray, List.set_cons_zero, List.set_cons_succ])
      have DDX3 := Lib.hid hins
      have HDI := Lib.hid hdi
      have HDA := Lib.hid hda
      have HXX3 := Lib.hid hb
      clear hins hdi hda hb hge hle
      have HBX3 : Hid (Below w.heap.size w X3) := bchain HBX2.out HXX3.out
      have HPX3 := Lib.hid (HPX2.out.below HXX3.out)
      have MMX3 := Lib.hid (MMX2.out.below HXX3.out)
      have SYX3 : Hid (OwnI X3 _ _ _) := own_below SYX2.out HXX3.out
      have ZZX3 := Lib.hid (ZZX2.out.below HXX3.out)
      (refine wpE_take 8 (v := ?_) (by kernel_rfl) rfl rfl (by exact HPX3.out) (fun w' hS => ?_) ?_; rotate_left; (focus ((try obtain ⟨s0, s1, s2⟩ := HS.out _ (hS rfl)); clear hS; go_simp; try with_reducible rfl; done)); (try simp only [Act.put, List.setIfInBounds_toArray, List.set_cons_zero, List.set_cons_succ]))
      refine wpE_br [12] (by kernel_rfl) ?_
      refine AllE.cons rfl rfl (fun K hK => ?_) AllE.nil
      go_simp
      have hcl := closed_any w X3 _ _ F xs g _ HBX3.out HV.out HX.out HG0.out MMX3.out (by simp) HF.out.good HF.out.right HF.out.st HXL.out
      rw [HSZ.out] at hcl
      refine hcl.mono ?_
      rintro e X4 ⟨rfl, M', hm', hl', hsp, hfm⟩
      rw [HSTM.out] at hsp
      have HFMX4 := Lib.hid hfm
      refine hK.out _ _ (frm_cells HFMX4.out MMX3.out HPX3.out (by decide) HPX3.out.lt) ?_
      clear hK K hcl
      (try simp only [Act.put, List.setIfInBounds_toArray, List.set_cons_zero, List.set_cons_succ])
      have MCX4 := Lib.hid hm'
      have HML := Lib.hid hl'
      have HSP := Lib.hid hsp
      clear hm' hl' hsp hfm
      have HBX4 : Hid (Below w.heap.size w X4) := HBX3.out.trans (HFMX4.out.below (by have := HBX3.out.size; exact this) (fun k hk e => by have := HG0.out; omega))
      have HPX4 : Hid (FBlk X4 n0 (.int .i64 F.states) (.slice A n c) (.slice A' n' c')) := frm_cells HFMX4.out MMX3.out HPX3.out (by decide) HPX3.out.lt
      have DDX4 : Hid (Ins X4 gd D) := frm_cells HFMX4.out MMX3.out DDX3.out (by decide) DDX3.out.lt
      have SYX4 := Lib.hid (frm_ownI HFMX4.out MMX3.out SYX3.out (Nat.le_refl _))
      have ZZX4 : Hid (ZBlk X4 ba) := frm_cells HFMX4.out MMX3.out ZZX3.out (by decide) ZZX3.out.lt
      refine wpE_br [14] (by kernel_rfl) ?_
      refine AllE.cons rfl rfl (fun K hK => ?_) AllE.nil
      go_simp
      have hfr := from_any X4 _ _ _ _ gd M D F xs ⟨HV.out.below HBX4.out, HX.out.below HBX4.out, SYX4.out.rd, DDX4.out, HDI.out, HDA.out, HF.out, HXL.out, HFL.out⟩ HMM.out k X4 g (.slice none 0 0) (.slice none 0 0) [] [] M' (Below.refl _ _) MCX4.out (by rw [HSZ.out]; exact HML.out) HSP.out.2.2.1 (World.ownsRow_nil _ _ _ _) (by simp; omega) (OwnL.nil _ _) (Nat.zero_le _)
      simp only [sCells, HSZ.out] at hfr
      refine hfr.mono ?_
      rintro e X5 ⟨⟨fv, rfl, Fs, hol, hpo⟩, hfl⟩
      obtain ⟨uf, cf, rfl⟩ := hol.form
      have HFRX5 := Lib.hid hfl
      refine hK.out _ _ (HFRX5.out.cells HPX4.out (by decide) HPX4.out.lt) ?_
      clear hK K hfr
      (try simp only [Act.put, List.setIfInBounds_toArray, List.set_cons_zero, List.set_cons_succ])
      have OLX5 := Lib.hid hol
      have HPO := Lib.hid hpo
      clear hol hpo hfl
      have HBX5 : Hid (Below w.heap.size w X5) := bchain HBX4.out (HFRX5.out.below (Nat.le_refl _))
      have HPX5 : Hid (FBlk X5 n0 (.int .i64 F.states) (.slice A n c) (.slice A' n' c')) := HFRX5.out.cells HPX4.out (by decide) HPX4.out.lt
      have ZZX5 : Hid (ZBlk X5 ba) := HFRX5.out.cells ZZX4.out (by decide) ZZX4.out.lt
      clear HPS
      refine wpE_rest 16 (by kernel_rfl) ?_
      simp only [List.drop_succ_cons, List.drop_zero]
      obtain ⟨r0, r1, r2, r3, r4, r5, r6, r7⟩ := ZZX5.out.cells
      have hfz := ZZX5.out.free
      have hl1 := ZZX5.out.lt
      go_wp2_with fail
      refine NoPanic.normal ?_
      generalize hW8 : World.setCell _ _ _ = W8
      have hset : ∀ k, k ≠ ba → W8.heap[k]? = X5.heap[k]? := fun k hk => by
        rw [← hW8]
        iterate 8 (refine (Below.heap_setCell _ _ _ k hk).trans ?_)
        rfl
      have HS8 : Hid (W8.heap[ba]? = some (.cells #[.int .i64 F.states, .slice A n c, .slice A' n' c', .slice Ax nx cx, .slice As (symsX F.arcs).length cs, .slice (some ⟨gd, 0, none⟩) sz sz, .int .i64 (M : Int), .slice uf Fs.length cf] 67 (0, 0))) := by
        have h := ZZX5.out
        unfold ZBlk at h
        rw [← hW8, Hid]
        simp [World.setCell, Array.getElem?_modify, h]
      have HB8 : Hid (Below w.heap.size w W8) := by
        rw [← hW8]
        iterate 8 (refine Below.setCell ?_ (by have := HBA.out; have := HBAW.out; exact this) _)
        exact HBX5.out
      have HO8 : Hid (RdL W8 (.slice uf Fs.length cf) Fs) := (OLX5.out.keep fun k cs t m hk ht _ => hset k (fun e => by
        have h := ZZX5.out
        unfold ZBlk at h
        rw [e, h] at hk
        cases hk
        rcases ht with h | h
        · exact absurd h (by decide)
        · exact absurd h (by decide))).rd
      clear hW8 hset r0 r1 r2 r3 r4 r5 r6 r7 hfz hl1
      have s5 : W8.cell? ⟨ba, 7, none⟩ = some (.slice uf Fs.length cf) := by rw [cell_of_row W8 ba _ _ _ (0, 0) HS8.out]; rfl
      have hbl : ba < W8.heap.size := (Array.getElem?_eq_some_iff.1 HS8.out).1
      by_cases hle : (allW F xs k).length ≤ M
      · have HFE : Hid (Fs = allW F xs k) := by
          rcases HPO.out.2 with ⟨h1, h2⟩ | ⟨h1, h2⟩
          · rw [Hid, h2]
            simp only [List.nil_append]
            rw [show (fun x : List Int => x) = id from rfl, List.map_id, allW]
            exact enumW_congr fun u => HSP.out.acc u
          · exfalso
            simp only [List.length_nil, Nat.zero_add, List.length_map] at h1
            rw [enumW_congr (fun u => HSP.out.acc u)] at h1
            unfold allW at hle
            omega
        have HLE : Hid (Fs.length ≤ M) := by rw [HFE.out]; exact hle
        have hd1 : decide (M < Fs.length) = false := by have := HLE.out; simp; omega
        have hd2 : decide ((M : Int) < (Fs.length : Int)) = false := by have := HLE.out; simp; omega
        have HO : Hid (o = (Fs, true)) := by rw [Hid, HOUT.out, if_pos hle, HFE.out]
        clear hle
        go_wp2_with fail
        go_ret2
        rw [HO.out]
        exact ⟨⟨_, rfl, HO8.out⟩, HB8.out⟩
      · have HLT : Hid (M < Fs.length) := by
          rcases HPO.out.2 with ⟨h1, h2⟩ | ⟨h1, h2⟩
          · exfalso
            simp only [List.length_nil, Nat.zero_add, List.length_map] at h1
            rw [enumW_congr (fun u => HSP.out.acc u)] at h1
            unfold allW at hle
            omega
          · exact h2
        have hd1 : decide (M < Fs.length) = true := by have := HLT.out; simpa using this
        have hd2 : decide ((M : Int) < (Fs.length : Int)) = true := by have := HLT.out; simp; omega
        have HO : Hid (o = ([], false)) := by rw [Hid, HOUT.out, if_neg hle]
        clear hle
        go_wp2_with fail
        go_ret2
        rw [HO.out]
        exact ⟨⟨_, rfl, rdL_nil _⟩, HB8.out⟩
  · skip
    go_simp
    generalize hal : World.alloc X0 _ = X1
    obtain ⟨ba, hba⟩ : ∃ ba, X0.heap.size = ba := ⟨_, rfl⟩
    have HXX1 : Hid (Below X0.heap.size X0 X1) := by rw [← hal]; exact (Below.refl _ _).alloc (Nat.le_refl _) _
    have ZZX1 : Hid (ZBlk X1 ba) := by rw [← hal, ← hba]; exact heap_alloc_new X0 _
    rw [hba]
    have HBA : Hid (X0.heap.size = ba) := hba
    refine hK.out _ _ (HPX0.out.below HXX1.out) ?_
    clear hK K hal hba
    (try simp only [Act.put, List.setIfInBounds_toArray, List.set_cons_zero, List.set_cons_succ])
    have HBX1 : Hid (Below w.heap.size w X1) := bchain HBX0.out HXX1.out
    have HPX1 := Lib.hid (HPX0.out.below HXX1.out)
    have MMX1 := Lib.hid (MMX0.out.below HXX1.out)
    have HBAW : Hid (w.heap.size ≤ ba) := by have h1 := HBX0.out.size; have h2 := HBA.out; unfold Hid; omega
    refine wpE_br [3] (by kernel_rfl) ?_
    refine AllE.cons rfl rfl (fun K hK => ?_) AllE.nil
    go_simp
    refine (symbols_any X1 _ F (HV.out.below HBX1.out) HF.out.al).mono ?_
    rintro e X2 ⟨⟨vs, rfl, hos⟩, hb⟩
    obtain ⟨_, As, cs, rfl⟩ := own_slice hos
    refine hK.out _ _ (HPX1.out.below hb) ?_
    clear hK K
    (try simp only [Act.put, List.setIfInBounds_toArray, List.set_cons_zero, List.set_cons_succ])
    have SYX2 := Lib.hid hos
    have HXX2 := Lib.hid hb
    clear hos hb
    have HBX2 : Hid (Below w.heap.size w X2) := bchain HBX1.out HXX2.out
    have HPX2 := Lib.hid (HPX1.out.below HXX2.out)
    have MMX2 := Lib.hid (MMX1.out.below HXX2.out)
    have ZZX2 := Lib.hid (ZZX1.out.below HXX2.out)
    refine wpE_br [6] (by kernel_rfl) ?_
    refine AllE.cons rfl rfl (fun K hK => ?_) AllE.nil
    go_simp
    have hle := least_any _ _ F xs X2 (HV.out.below HBX2.out) (HX.out.below HBX2.out) HF.out.good HF.out.right HF.out.st HXL.out
    rw [HSZ.out] at hle
    refine hle.mono ?_
    rintro e X3 ⟨⟨gd, rfl, hge, D, hins, hdi, hda⟩, hb⟩
    refine hK.out _ _ (HPX2.out.below hb) ?_
    clear hK K
    (try simp only [Act.put, List.setIfInBounds_toArray, List.set_cons_zero, List.set_cons_succ])
    have DDX3 := Lib.hid hins
    have HDI := Lib.hid hdi
    have HDA := Lib.hid hda
    have HXX3 := Lib.hid hb
    clear hins hdi hda hb hge hle
    have HBX3 : Hid (Below w.heap.size w X3) := bchain HBX2.out HXX3.out
    have HPX3 := Lib.hid (HPX2.out.below HXX3.out)
    have MMX3 := Lib.hid (MMX2.out.below HXX3.out)
    have SYX3 : Hid (OwnI X3 _ _ _) := own_below SYX2.out HXX3.out
    have ZZX3 := Lib.hid (ZZX2.out.below HXX3.out)
    (refine wpE_take 8 (v := ?_) (by kernel_rfl) rfl rfl (by exact HPX3.out) (fun w' hS => ?_) ?_; rotate_left; (focus ((try obtain ⟨s0, s1, s2⟩ := HS.out _ (hS rfl)); clear hS; go_simp; try with_reducible rfl; done)); (try simp only [Act.put, List.setIfInBounds_toArray, List.set_cons_zero, List.set_cons_succ]))
    refine wpE_br [12] (by kernel_rfl) ?_
    refine AllE.cons rfl rfl (fun K hK => ?_) AllE.nil
    go_simp
    have hcl := closed_any w X3 _ _ F xs g _ HBX3.out HV.out HX.out HG0.out MMX3.out (by simp) HF.out.good HF.out.right HF.out.st HXL.out
    rw [HSZ.out] at hcl
    refine hcl.mono ?_
    rintro e X4 ⟨rfl, M', hm', hl', hsp, hfm⟩
    rw [HSTM.out] at hsp
    have HFMX4 := Lib.hid hfm
    refine hK.out _ _ (frm_cells HFMX4.out MMX3.out HPX3.out (by decide) HPX3.out.lt) ?_
    clear hK K hcl
    (try simp only [Act.put, List.setIfInBounds_toArray, List.set_cons_zero, List.set_cons_succ])
    have MCX4 := Lib.hid hm'
    have HML := Lib.hid hl'
    have HSP := Lib.hid hsp
    clear hm' hl' hsp hfm
    have HBX4 : Hid (Below w.heap.size w X4) := HBX3.out.trans (HFMX4.out.below (by have := HBX3.out.size; exact this) (fun k hk e => by have := HG0.out; omega))
    have HPX4 : Hid (FBlk X4 n0 (.int .i64 F.states) (.slice A n c) (.slice A' n' c')) := frm_cells HFMX4.out MMX3.out HPX3.out (by decide) HPX3.out.lt
    have DDX4 : Hid (Ins X4 gd D) := frm_cells HFMX4.out MMX3.out DDX3.out (by decide) DDX3.out.lt
    have SYX4 := Lib.hid (frm_ownI HFMX4.out MMX3.out SYX3.out (Nat.le_refl _))
    have ZZX4 : Hid (ZBlk X4 ba) := frm_cells HFMX4.out MMX3.out ZZX3.out (by decide) ZZX3.out.lt
    refine wpE_br [14] (by kernel_rfl) ?_
    refine AllE.cons rfl rfl (fun K hK => ?_) AllE.nil
    go_simp
    have hfr := from_any X4 _ _ _ _ gd M D F xs ⟨HV.out.below HBX4.out, HX.out.below HBX4.out, SYX4.out.rd, DDX4.out, HDI.out, HDA.out, HF.out, HXL.out, HFL.out⟩ HMM.out k X4 g (.slice none 0 0) (.slice none 0 0) [] [] M' (Below.refl _ _) MCX4.out (by rw [HSZ.out]; exact HML.out) HSP.out.2.2.1 (World.ownsRow_nil _ _ _ _) (by simp; omega) (OwnL.nil _ _) (Nat.zero_le _)
    simp only [sCells, HSZ.out] at hfr
    refine hfr.mono ?_
    rintro e X5 ⟨⟨fv, rfl, Fs, hol, hpo⟩, hfl⟩
    obtain ⟨uf, cf, rfl⟩ := hol.form
    have HFRX5 := Lib.hid hfl
    refine hK.out _ _ (HFRX5.out.cells HPX4.out (by decide) HPX4.out.lt) ?_
    clear hK K hfr
    (try simp only [Act.put, List.setIfInBounds_toArray, List.set_cons_zero, List.set_cons_succ])
    have OLX5 := Lib.hid hol
    have HPO := Lib.hid hpo
    clear hol hpo hfl
    have HBX5 : Hid (Below w.heap.size w X5) := bchain HBX4.out (HFRX5.out.below (Nat.le_refl _))
    have HPX5 : Hid (FBlk X5 n0 (.int .i64 F.states) (.slice A n c) (.slice A' n' c')) := HFRX5.out.cells HPX4.out (by decide) HPX4.out.lt
    have ZZX5 : Hid (ZBlk X5 ba) := HFRX5.out.cells ZZX4.out (by decide) ZZX4.out.lt
    clear HPS
    refine wpE_rest 16 (by kernel_rfl) ?_
    simp only [List.drop_succ_cons, List.drop_zero]
    obtain ⟨r0, r1, r2, r3, r4, r5, r6, r7⟩ := ZZX5.out.cells
    have hfz := ZZX5.out.free
    have hl1 := ZZX5.out.lt
    go_wp2_with fail
    refine NoPanic.normal ?_
    generalize hW8 : World.setCell _ _ _ = W8
    have hset : ∀ k, k ≠ ba → W8.heap[k]? = X5.heap[k]? := fun k hk => by
      rw [← hW8]
      iterate 8 (refine (Below.heap_setCell _ _ _ k hk).trans ?_)
      rfl
    have HS8 : Hid (W8.heap[ba]? = some (.cells #[.int .i64 F.states, .slice A n c, .slice A' n' c', .slice Ax nx cx, .slice As (symsX F.arcs).length cs, .slice (some ⟨gd, 0, none⟩) sz sz, .int .i64 (M : Int), .slice uf Fs.length cf] 67 (0, 0))) := by
      have h := ZZX5.out
      unfold ZBlk at h
      rw [← hW8, Hid]
      simp [World.setCell, Array.getElem?_modify, h]
    have HB8 : Hid (Below w.heap.size w W8) := by
      rw [← hW8]
      iterate 8 (refine Below.setCell ?_ (by have := HBA.out; have := HBAW.out; exact this) _)
      exact HBX5.out
    have HO8 : Hid (RdL W8 (.slice uf Fs.length cf) Fs) := (OLX5.out.keep fun k cs t m hk ht _ => hset k (fun e => by
      have h := ZZX5.out
      unfold ZBlk at h
      rw [e, h] at hk
      cases hk
      rcases ht with h | h
      · exact absurd h (by decide)
      · exact absurd h (by decide))).rd
    clear hW8 hset r0 r1 r2 r3 r4 r5 r6 r7 hfz hl1
    have s5 : W8.cell? ⟨ba, 7, none⟩ = some (.slice uf Fs.length cf) := by rw [cell_of_row W8 ba _ _ _ (0, 0) HS8.out]; rfl
    have hbl : ba < W8.heap.size := (Array.getElem?_eq_some_iff.1 HS8.out).1
    by_cases hle : (allW F xs k).length ≤ M
    · have HFE : Hid (Fs = allW F xs k) := by
        rcases HPO.out.2 with ⟨h1, h2⟩ | ⟨h1, h2⟩
        · rw [Hid, h2]
          simp only [List.nil_append]
          rw [show (fun x : List Int => x) = id from rfl, List.map_id, allW]
          exact enumW_congr fun u => HSP.out.acc u
        · exfalso
          simp only [List.length_nil, Nat.zero_add, List.length_map] at h1
          rw [enumW_congr (fun u => HSP.out.acc u)] at h1
          unfold allW at hle
          omega
      have HLE : Hid (Fs.length ≤ M) := by rw [HFE.out]; exact hle
      have hd1 : decide (M < Fs.length) = false := by have := HLE.out; simp; omega
      have hd2 : decide ((M : Int) < (Fs.length : Int)) = false := by have := HLE.out; simp; omega
      have HO : Hid (o = (Fs, true)) := by rw [Hid, HOUT.out, if_pos hle, HFE.out]
      clear hle
      go_wp2_with fail
      go_ret2
      rw [HO.out]
      exact ⟨⟨_, rfl, HO8.out⟩, HB8.out⟩
    · have HLT : Hid (M < Fs.length) := by
        rcases HPO.out.2 with ⟨h1, h2⟩ | ⟨h1, h2⟩
        · exfalso
          simp only [List.length_nil, Nat.zero_add, List.length_map] at h1
          rw [enumW_congr (fun u => HSP.out.acc u)] at h1
          unfold allW at hle
          omega
        · exact h2
      have hd1 : decide (M < Fs.length) = true := by have := HLT.out; simpa using this
      have hd2 : decide ((M : Int) < (Fs.length : Int)) = true := by have := HLT.out; simp; omega
      have HO : Hid (o = ([], false)) := by rw [Hid, HOUT.out, if_neg hle]
      clear hle
      go_wp2_with fail
      go_ret2
      rw [HO.out]
      exact ⟨⟨_, rfl, rdL_nil _⟩, HB8.out⟩
end Go.Proofs.Ytmejihlplbeekaa
