/-
  sound, right, all, sounds: what the statements ask of their arguments.
-/
import Derived.Test.YtdijlakeonionaaQ18
import Derived.Test.YtdijlakeonionaaQ14
import Derived.Test.YtdijlakeonionaaQP3
namespace Go.Proofs.Ytdijlakeonionaa
open Go.ChangeShapes Go.WideShapes Go.ChangeAt Go.RowKit
theorem rd_blk (E : TypeId) (sz n : Nat) (xs : List Value) (h : xs.length = n * sz) (hn : n ≤ 9223372036854775807) (w : World) : Rd (w.alloc (.cells xs.toArray E)) sz (.slice (some ⟨w.heap.size, 0, none⟩) n n) n xs := by
  refine ⟨_, n, rfl, Nat.le_refl _, hn, h, fun _ => ⟨w.heap.size, 0, rfl, by simp, fun j u hu => ?_⟩⟩
  rw [cell_of_row _ w.heap.size (0 + j) xs.toArray E (0, 0) (heap_alloc_new w _)]
  simpa using hu
theorem rdI_blk (l : List Int) (h : l.length ≤ 1000000) (w : World) : RdI (w.alloc (.cells (l.map (Value.int .i64)).toArray 3)) (.slice (some ⟨w.heap.size, 0, none⟩) l.length l.length) l :=
  rd_blk _ 1 _ _ (by simp) (by omega) w
theorem rdC_nil (w : World) : RdC w (.slice none 0 0) [] := ⟨none, 0, rfl, by simp, by decide, rfl, fun h => absurd h (Nat.lt_irrefl 0)⟩
def sndL : List PPh := [⟨⟨#[97]⟩, 1⟩, ⟨⟨#[112]⟩, 0⟩, ⟨⟨#[116]⟩, 0⟩, ⟨⟨#[100]⟩, 2⟩]
set_option maxHeartbeats 1000000 in
theorem sounds_any (w : World) :
    Calls Try.prog 37 #[] w fun e w' => (∃ v, e = .returned v ∧ RdV w' v sndL) ∧ Below w.heap.size w w' := by
  go_enter Try.func37, Try.ntmps37
  go_wp2_with fail
  refine bodyPost_ret (results_cell_row rfl _ _ w.heap.size 24 #[.slice (some ⟨w.heap.size + 1, 0, none⟩) 4 4] (0, 0) _ rfl ((Below.heap_alloc _ _ _ (by simp)).trans (heap_alloc_new w _)) Try.underlying24 rfl (by kernel_rfl)) rfl ?_
  refine ⟨⟨_, rfl, ⟨_, rfl, ?_⟩⟩, bchain (al_below _ _) (al_below _ _)⟩
  have := rd_blk 62 2 4 (sndL.flatMap phCells) rfl (by decide) (w.alloc (.cells #[.slice (some ⟨w.heap.size + 1, 0, none⟩) 4 4] 24))
  rw [World.size_alloc] at this
  exact this
def SndQ (I : List PPh) (e : Ending) : Prop := ∃ b, e = .returned (.bool b) ∧ (b = true → I.length ≤ 60)
set_option maxHeartbeats 4000000 in
set_option maxRecDepth 100000 in
theorem sound_any (v : Value) (I : List PPh) (w : World) (hv : RdV w v I) :
    Calls Try.prog 11 #[v] w fun e w' => SndQ I e ∧ Below w.heap.size w w' := by
  obtain ⟨u, rfl, hp⟩ := id hv
  obtain ⟨A0, n0, c0, rfl, hnc, hcm, HN, HR⟩ := hp.op
  have HV := Lib.hid hv
  have HPH := Lib.hid hp
  clear hv hp
  go_enter Try.func11, Try.ntmps11
  go_wp2_with fail
  generalize hW : World.alloc w _ = W
  have HBW : Hid (Below w.heap.size w W) := by rw [← hW]; exact al_below _ _
  have HP : Hid (VBlk W w.heap.size (.slice A0 n0 c0)) := by rw [← hW]; exact heap_alloc_new w _
  clear hW
  go_loopw [3] (fun vi wr => ∃ k : Nat, k ≤ n0 ∧ k ≤ 61 ∧ vi = .int .i64 k ∧ Hid (∀ p ∈ I.take k, p.name.size ≤ 100) ∧ wr = W) (fun vi _ => n0 - (intOf vi).toNat)
  case atStart => exact ⟨0, Nat.zero_le _, by omega, rfl, fun p hp => (nomatch hp), rfl⟩
  case round =>
    obtain ⟨k, hk, hk6, rfl, HA, rfl⟩ := hrel
    have y0 := HP.out.cell
    have y1 := HP.out.lt
    have hk0 : (0 : Int) ≤ (k : Int) := by omega
    by_cases hlt : k < n0
    · have d1 : decide ((k : Int) < (n0 : Int)) = true := by simp; exact hlt
      have d1' : decide (k < n0) = true := by simp; exact hlt
      by_cases h61 : k < 61
      · have d2 : decide ((k : Int) < 61) = true := by simp; omega
        have d2' : decide (k < 61) = true := by simp; omega
        obtain ⟨b, off, p, rfl, hb, hd, e0, e1⟩ := (HR.out k hlt).below HBW.out
        have hk' : k < I.length := by rw [HN.out]; exact hlt
        have HS : Hid (I.take (k + 1) = I.take k ++ [p]) := by
          have hd2 := hd.out
          rw [List.drop_eq_getElem_cons hk'] at hd2
          rw [Hid, List.take_succ_eq_append_getElem hk', (List.cons.inj hd2).1]
        by_cases hs : 100 < p.name.size
        · have d3 : decide ((100 : Int) < (p.name.size : Int)) = true := by simp; omega
          have d3' : decide (100 < p.name.size) = true := by simp; omega
          go_wp2_with fail
          go_ret
          exact ⟨⟨false, rfl, fun h => nomatch h⟩, HBW.out⟩
        · have d3 : decide ((100 : Int) < (p.name.size : Int)) = false := by simp; omega
          have d3' : decide (100 < p.name.size) = false := by simp; omega
          have HA2 : Hid (∀ q ∈ I.take (k + 1), q.name.size ≤ 100) := by
            rw [Hid, HS.out]
            intro q hq
            rcases List.mem_append.1 hq with hq | hq
            · exact HA.out q hq
            · rw [List.mem_singleton.1 hq]; omega
          go_wp2_with fail
          go_roundw
          case rel => exact ⟨k + 1, by omega, by omega, by go_num, HA2.out, trivial⟩
          case measure => simp [intOf]; omega
      · have d2 : decide ((k : Int) < 61) = false := by simp; omega
        have d2' : decide (k < 61) = false := by simp; omega
        have d3 : decide ((n0 : Int) ≤ 60) = false := by simp; omega
        have d3' : decide (n0 ≤ 60) = false := by simp; omega
        go_wp2_with fail
        go_ret
        exact ⟨⟨false, rfl, fun h => nomatch h⟩, HBW.out⟩
    · obtain rfl : n0 = k := by omega
      have d1 : decide ((n0 : Int) < (n0 : Int)) = false := by simp
      have d1' : decide (n0 < n0) = false := by simp
      by_cases h60 : n0 ≤ 60
      · have d3 : decide ((n0 : Int) ≤ 60) = true := by simp; omega
        have d3' : decide (n0 ≤ 60) = true := by simp; omega
        have HSM : Hid (∀ p ∈ I, SmS p.name) := by
          intro p hp
          have := HA.out p (by rwa [List.take_of_length_le (by rw [HN.out]; omega)])
          unfold SmS; omega
        have H60 : Hid (I.length ≤ 60) := by rw [Hid, HN.out]; exact h60
        go_wp2_with fail
        refine (check16_any _ I _ (HPH.out.below HBW.out) (by have := H60.out; omega) HSM.out).mono ?_
        rintro e w1 ⟨⟨x, rfl, _⟩, hb1⟩
        have HB1 := Lib.hid (bchain HBW.out hb1)
        clear hb1
        go_wp2_with fail
        go_ret
        exact ⟨⟨_, rfl, fun _ => H60.out⟩, HB1.out⟩
      · have d3 : decide ((n0 : Int) ≤ 60) = false := by simp; omega
        have d3' : decide (n0 ≤ 60) = false := by simp; omega
        go_wp2_with fail
        go_ret
        exact ⟨⟨false, rfl, fun h => nomatch h⟩, HBW.out⟩
def RgtQ (I : List PPh) (R : PRule) (l : List Int) (e : Ending) : Prop := ∃ b, e = .returned (.bool b) ∧ (b = true → I.length ≤ 60 ∧ chkR I R = 0 ∧ listB I l = true)
set_option maxHeartbeats 4000000 in
set_option maxRecDepth 100000 in
theorem right_any (v vr vw : Value) (I : List PPh) (R : PRule) (l : List Int) (w : World) (hv : RdV w v I) (hr : RdR w vr R) (hw : RdI w vw l) :
    Calls Try.prog 15 #[v, vr, vw] w fun e w' => RgtQ I R l e ∧ Below w.heap.size w w' := by
  have HVW := Lib.hid hw
  obtain ⟨Aw, nw, cw, rfl⟩ := rdI_slice hw
  clear hw
  obtain ⟨u, rfl, hp⟩ := id hv
  obtain ⟨A0, n0, c0, rfl, _, _, _, _⟩ := hp.op
  obtain ⟨vf, vt, vl, vg, rfl, hf, ht, hl, hg⟩ := id hr
  obtain ⟨A1, n1, c1, rfl, _, _, HN1, HR1⟩ := hf.op
  obtain ⟨A2, n2, c2, rfl, _, _, HN2, HR2⟩ := ht.op
  obtain ⟨A3, n3, c3, rfl, _, _, HN3, _⟩ := hl.op
  obtain ⟨A4, n4, c4, rfl, _, _, HN4, _⟩ := hg.op
  have HV := Lib.hid hv
  have HRR := Lib.hid hr
  have HF := Lib.hid hf
  have HT := Lib.hid ht
  clear hp hf ht hl hg hv hr
  obtain ⟨beg, hbeg⟩ : ∃ x, R.beg = x := ⟨_, rfl⟩
  obtain ⟨fin, hfin⟩ : ∃ x, R.fin = x := ⟨_, rfl⟩
  rw [hbeg, hfin] at HRR ⊢
  clear hbeg hfin
  go_enter Try.func15, Try.ntmps15
  go_upto_region 1 with (fail)
  generalize hW : World.alloc (World.alloc w _) _ = W
  have HBW : Hid (Below w.heap.size w W) := by rw [← hW]; exact bchain (al_below _ _) (al_below _ _)
  have HP : Hid (VBlk W w.heap.size (.slice A0 n0 c0)) := by rw [← hW]; exact VBlk.below (heap_alloc_new w _) (al_below _ _)
  have HQ : Hid (RBlk W (w.heap.size + 1) (.slice A1 n1 c1) (.slice A2 n2 c2) (.slice A3 n3 c3) (.slice A4 n4 c4) beg fin) := by
    have h := heap_alloc_new (w.alloc (.cells #[.slice A0 n0 c0] 24)) (.cells #[.slice A1 n1 c1, .slice A2 n2 c2, .slice A3 n3 c3, .slice A4 n4 c4, .bool beg, .bool fin] 28)
    rw [World.size_alloc] at h
    rw [← hW]; exact h
  clear hW
  have y0 := HP.out.cell
  have y1 := HP.out.lt
  go_wp2_with fail
  clear y0 y1
  refine (sound_any _ I _ (HV.out.below HBW.out)).mono ?_
  rintro e w1 ⟨⟨b, rfl, hb60⟩, hb1⟩
  have HB1 := Lib.hid (bchain HBW.out hb1)
  have HP1 := Lib.hid (HP.out.below hb1)
  have HQ1 := Lib.hid (HQ.out.below hb1)
  clear hb1 HP HQ HBW
  cases b
  · go_wp2_with fail
    go_ret
    exact ⟨⟨false, rfl, fun h => nomatch h⟩, HB1.out⟩
  have H60 := Lib.hid (hb60 rfl)
  clear hb60
  have y0 := HP1.out.cell
  have y1 := HP1.out.lt
  obtain ⟨z0, z1, z2, z3, z4, z5⟩ := HQ1.out.cells
  have zl := HQ1.out.lt
  go_wp2_with fail
  clear y0 y1 z0 z1 z2 z3 z4 z5 zl
  refine (rchkR_any _ _ I R _ (HV.out.below HB1.out) (HRR.out.below HB1.out) (by have := H60.out; omega)).mono ?_
  rintro e w2 ⟨rfl, hb2⟩
  have HB2 := Lib.hid (bchain HB1.out hb2)
  have HP2 := Lib.hid (HP1.out.below hb2)
  clear hb2 HP1 HQ1
  cases hc : (chkR I R == 0)
  · go_wp2_with fail
    go_ret
    exact ⟨⟨false, rfl, fun h => nomatch h⟩, HB2.out⟩
  have HC0 : Hid (chkR I R = 0) := by rw [Hid]; simpa using hc
  have y0 := HP2.out.cell
  have y1 := HP2.out.lt
  go_wp2_with fail
  clear y0 y1 hc
  refine (rlist_any _ _ I l _ (HV.out.below HB2.out) (HVW.out.below HB2.out)).mono ?_
  rintro e w3 ⟨rfl, hb3⟩
  have HB3 := Lib.hid (bchain HB2.out hb3)
  clear hb3
  go_wp2_with fail
  go_ret
  exact ⟨⟨_, rfl, fun h => ⟨H60.out, HC0.out, h⟩⟩, HB3.out⟩
theorem rgood_of {I : List PPh} {R : PRule} (h : chkR I R = 0) : RGood I R := by
  unfold chkR at h
  split at h
  · cases h
  rename_i h1
  split at h
  · cases h
  rename_i h2
  split at h
  · cases h
  rename_i h3
  split at h
  · cases h
  rename_i h4
  rw [Bool.not_eq_false, Bool.and_eq_true, List.all_eq_true, List.all_eq_true] at h2
  refine ⟨by omega, by omega, by omega, Decidable.not_not.1 h3, h2.1, fun x hx => ?_⟩
  have := h2.2 x hx
  simpa [okTo] using this
theorem RGood.ok {I : List PPh} {R : PRule} (h : RGood I R) : ROk R := ⟨by have := h.l1; omega, by have := h.l2; omega, h.tl⟩
theorem listB_iff {I : List PPh} {l : List Int} : listB I l = true ↔ (∀ x ∈ l, isB I x = true) ∧ l.length ≤ 24 := by
  rw [listB, Bool.and_eq_true, List.all_eq_true, decide_eq_true_iff]
theorem isB_nz {I : List PPh} {x : Int} (h : isB I x = true) : x ≠ 0 := by
  simp only [isB, Bool.and_eq_true, decide_eq_true_iff] at h; omega
theorem list_nz {I : List PPh} {l : List Int} (h : listB I l = true) : ∀ x ∈ l, x ≠ 0 := fun x hx => isB_nz ((listB_iff.1 h).1 x hx)
theorem list_len {I : List PPh} {l : List Int} (h : listB I l = true) : l.length ≤ 1000000 := by have := (listB_iff.1 h).2; omega
def AllQ (I : List PPh) (Rs : List PRule) (l : List Int) (e : Ending) : Prop := ∃ b, e = .returned (.bool b) ∧ (b = true → I.length ≤ 60 ∧ (∀ R ∈ Rs, RGood I R) ∧ Rs.length ≤ 12 ∧ listB I l = true)
set_option maxHeartbeats 4000000 in
set_option maxRecDepth 100000 in
theorem all_walk (v vr vw : Value) (I : List PPh) (Rs : List PRule) (l : List Int) (w : World) (hv : RdV w v I) (hr : RdRs w vr Rs) (hw : RdI w vw l) :
    Calls Try.prog 31 #[v, vr, vw] w fun e w' => AllQ I Rs l e ∧ Below w.heap.size w w' := by
  obtain ⟨u, rfl, hp⟩ := id hv
  obtain ⟨A0, n0, c0, rfl, _, _, _, _⟩ := hp.op
  obtain ⟨A, n, c, rfl, hnc, _, HN, HR⟩ := hr
  obtain ⟨Aw, nw, cw, rfl⟩ := rdI_slice hw
  have HV := Lib.hid hv
  have HW := Lib.hid hw
  clear hw hp hv
  go_enter Try.func31, Try.ntmps31
  go_wp2_with fail
  generalize hW : World.alloc w _ = W
  have HBW : Hid (Below w.heap.size w W) := by rw [← hW]; exact al_below _ _
  have HP : Hid (VBlk W w.heap.size (.slice A0 n0 c0)) := by rw [← hW]; exact heap_alloc_new w _
  clear hW
  go_loopw [7] (fun vi wr => ∃ k : Nat, k ≤ n ∧ k ≤ 13 ∧ vi = .int .i64 k ∧ Hid (∀ R ∈ Rs.take k, RGood I R) ∧ Hid (Below W.heap.size W wr)) (fun vi _ => n - (intOf vi).toNat)
  case atStart => exact ⟨0, Nat.zero_le _, by omega, rfl, fun p hp => (nomatch hp), Below.refl _ _⟩
  case round =>
    obtain ⟨k, hk, hk13, rfl, HA, HBR⟩ := hrel
    have HBX := Lib.hid (bchain HBW.out HBR.out)
    have y0 := (HP.out.below HBR.out).cell
    have y1 := (HP.out.below HBR.out).lt
    have hk0 : (0 : Int) ≤ (k : Int) := by omega
    by_cases hlt : k < n
    · have d1 : decide ((k : Int) < (n : Int)) = true := by simp; exact hlt
      have d1' : decide (k < n) = true := by simp; exact hlt
      by_cases h13 : k < 13
      · have d2 : decide ((k : Int) < 13) = true := by simp; omega
        have d2' : decide (k < 13) = true := by simp; omega
        obtain ⟨b, off, vf, vt, vl, vg, R, rfl, hb, HD, ⟨e0, e1, e2, e3, e4, e5⟩, HRR⟩ := (HR.out k hlt).below HBX.out
        have HS : Hid (Rs.take (k + 1) = Rs.take k ++ [R]) := by
          have hk' : k < Rs.length := by rw [HN.out]; exact hlt
          have hd2 := HD.out
          rw [List.drop_eq_getElem_cons hk'] at hd2
          rw [Hid, List.take_succ_eq_append_getElem hk', (List.cons.inj hd2).1]
        go_upto_region 4 with (fail)
        refine wp_region_ord 5 [0, 1, 2, 3, 4] [] [0, 1, 2, 3, 4] [5, 6] (fun w' => Below wr.heap.size wr w') (by kernel_rfl) (by kernel_rfl) ?_
        rintro Z hZ
        have HSZ : Hid (Below wr.heap.size wr Z) := by rw [hZ]; exact (Below.refl _ _).drew
        clear hZ
        refine ⟨HSZ.out, ?_⟩
        have HS7 : Hid (∀ w' : World, Below wr.heap.size wr w' → w'.cell? ⟨w.heap.size, 0, none⟩ = some (.slice A0 n0 c0) ∧ w'.cell? ⟨b, off + k * 6, none⟩ = some vf ∧ w'.cell? ⟨b, off + k * 6 + 1, none⟩ = some vt ∧ w'.cell? ⟨b, off + k * 6 + 2, none⟩ = some vl ∧ w'.cell? ⟨b, off + k * 6 + 3, none⟩ = some vg ∧ w'.cell? ⟨b, off + k * 6 + 4, none⟩ = some (.bool R.beg) ∧ w'.cell? ⟨b, off + k * 6 + 5, none⟩ = some (.bool R.fin)) := by
          intro w' h
          exact ⟨(h.cell (p := ⟨w.heap.size, 0, none⟩) y1).trans y0, (h.cell (p := ⟨b, off + k * 6, none⟩) hb).trans e0, (h.cell (p := ⟨b, off + k * 6 + 1, none⟩) hb).trans e1, (h.cell (p := ⟨b, off + k * 6 + 2, none⟩) hb).trans e2, (h.cell (p := ⟨b, off + k * 6 + 3, none⟩) hb).trans e3, (h.cell (p := ⟨b, off + k * 6 + 4, none⟩) hb).trans e4, (h.cell (p := ⟨b, off + k * 6 + 5, none⟩) hb).trans e5⟩
        have HST := HS
        clear HS
        have HS := HS7
        clear HS7
        iterate 5 (refine wpHead_cons (v := ?_) rfl rfl (fun w' hS => ?_) ?_; rotate_left; (focus ((try obtain ⟨s0, s1, s2, s3, s4, s5, s6⟩ := HS.out _ (hS rfl)); clear hS; go_simp; try with_reducible rfl; done)); (try simp only [Act.put, List.setIfInBounds_toArray, List.set_cons_zero, List.set_cons_succ]))
        refine wpHead_nil ?_
        refine wpTail_cons rfl rfl (fun K hK => ?_)
        go_simp
        clear y0 y1 e0 e1 e2 e3 e4 e5
        refine (right_any _ _ _ I R [] _ (HV.out.below (bchain HBX.out HSZ.out)) (HRR.out.below HSZ.out) (rdI_nil _)).mono ?_
        rintro e w1 ⟨⟨g, rfl, hg⟩, hb1⟩
        have HB1 := Lib.hid (bchain HBR.out (bchain HSZ.out hb1))
        refine hK.out _ _ (fun _ => bchain HSZ.out hb1) ?_
        clear hK K HS hb1
        (try simp only [Act.put, List.setIfInBounds_toArray, List.set_cons_zero, List.set_cons_succ])
        refine wpTail_rest 6 rfl ?_
        simp only [List.drop_succ_cons, List.drop_zero]
        cases g
        · go_wp2_with fail
          refine NoPanic.normal ?_
          go_wp2_with fail
          go_ret
          exact ⟨⟨false, rfl, fun h => nomatch h⟩, bchain HBW.out HB1.out⟩
        · have HA2 : Hid (∀ Q ∈ Rs.take (k + 1), RGood I Q) := by
            rw [Hid, HST.out]
            intro q hq
            rcases List.mem_append.1 hq with hq | hq
            · exact HA.out q hq
            · rw [List.mem_singleton.1 hq]; exact rgood_of (hg rfl).2.1
          clear hg
          go_wp2_with fail
          refine NoPanic.normal ?_
          go_wp2_with fail
          go_roundw
          case rel => exact ⟨k + 1, by omega, by omega, by go_num, HA2.out, HB1.out⟩
          case measure => simp [intOf]; omega
      · have d2 : decide ((k : Int) < 13) = false := by simp; omega
        have d2' : decide (k < 13) = false := by simp; omega
        have d3 : decide ((n : Int) ≤ 12) = false := by simp; omega
        have d3' : decide (n ≤ 12) = false := by simp; omega
        go_wp2_with fail
        go_ret
        exact ⟨⟨false, rfl, fun h => nomatch h⟩, HBX.out⟩
    · obtain rfl : n = k := by omega
      have d1 : decide ((n : Int) < (n : Int)) = false := by simp
      have d1' : decide (n < n) = false := by simp
      have HA2 : Hid (∀ R ∈ Rs, RGood I R) := by have := HA.out; rwa [List.take_of_length_le (by rw [HN.out]; omega)] at this
      by_cases h12 : n ≤ 12
      · have d3 : decide ((n : Int) ≤ 12) = true := by simp; omega
        have d3' : decide (n ≤ 12) = true := by simp; omega
        have H12 : Hid (Rs.length ≤ 12) := by rw [Hid, HN.out]; exact h12
        go_wp2_with fail
        clear y0 y1
        generalize hW2 : World.alloc (World.alloc wr _) _ = W2
        have HB2 : Hid (Below w.heap.size w W2) := by rw [← hW2]; exact bchain HBX.out (bchain (al_below _ _) (al_below _ _))
        have H1 : Hid (RdI W2 (.slice (some ⟨wr.heap.size, 0, none⟩) 1 1) [1]) := by rw [← hW2]; exact (rdI_blk [1] (by decide) wr).below (al_below _ _)
        have H2 : Hid (RdI W2 (.slice (some ⟨wr.heap.size + 1, 0, none⟩) 1 1) [0]) := by
          have := rdI_blk [0] (by decide) (wr.alloc (.cells #[.int .i64 1] 3))
          rw [World.size_alloc] at this
          rw [← hW2]; exact this
        clear hW2
        refine (right_any _ _ _ I ⟨[1], [0], [], [], false, false⟩ l _ (HV.out.below HB2.out) ⟨_, _, _, _, rfl, H1.out, H2.out, rdC_nil _, rdC_nil _⟩ (HW.out.below HB2.out)).mono ?_
        rintro e w3 ⟨⟨g, rfl, hg⟩, hb3⟩
        have HB3 := Lib.hid (bchain HB2.out hb3)
        have HG := Lib.hid hg
        clear hb3 hg
        go_wp2_with fail
        go_ret
        exact ⟨⟨_, rfl, fun h => ⟨(HG.out h).1, HA2.out, H12.out, (HG.out h).2.2⟩⟩, HB3.out⟩
      · have d3 : decide ((n : Int) ≤ 12) = false := by simp; omega
        have d3' : decide (n ≤ 12) = false := by simp; omega
        go_wp2_with fail
        go_ret
        exact ⟨⟨false, rfl, fun h => nomatch h⟩, HBX.out⟩
end Go.Proofs.Ytdijlakeonionaa
