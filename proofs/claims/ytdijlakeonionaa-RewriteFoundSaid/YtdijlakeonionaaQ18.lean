/-
  The program's Check of a rule: two closures asked by slices.ContainsFunc, then num.Sorted.
-/
import Derived.Test.YtdijlakeonionaaQ16
import Derived.Test.YtdijlakeonionaaQ17
namespace Go.Proofs.Ytdijlakeonionaa
open Go.ChangeShapes Go.WideShapes Go.ChangeAt Go.RowKit
theorem run_store_func {P : Program} {a : Addr} {m : Mode} {w : World} (f : Fn) (b c : Array Value) : (store a (.func f b c) m).run P w = stored P w a (.func f b c) m := run_store P w a _ m rfl
attribute [local go_sem] run_store_func
/-- the index of the first element that is asked for -/
def idxP {α : Type} (p : α → Bool) : List α → Nat → Int
  | [], _ => -1
  | x :: r, k => if p x = true then k else idxP p r (k + 1)
theorem idxP_iff {α : Type} (p : α → Bool) : ∀ (l : List α) (k : Nat), decide (0 ≤ idxP p l k) = l.any p
  | [], _ => by simp [idxP]
  | x :: r, k => by
    rw [idxP, List.any_cons]
    cases h : p x
    · rw [if_neg (by simp), idxP_iff p r (k + 1)]; rfl
    · rw [if_pos rfl]; simp
set_option maxHeartbeats 1000000 in
set_option maxRecDepth 100000 in
theorem chk1_any (I : List PPh) (x : Int) (B : Nat) (A : Option Addr) (c : Nat) (w : World) (hB : VBlk w B (.slice A I.length c)) :
    Calls Try.prog 38 #[.int .i64 x, .pointer (some ⟨B, 0, none⟩)] w fun e w' => e = .returned (.bool (!isB I x)) ∧ Below w.heap.size w w' := by
  have y0 := hB.cell
  have y1 := hB.lt
  clear hB
  by_cases h1 : x < 1
  · have d1 : decide (x < 1) = true := decide_eq_true h1
    have HF : Hid (isB I x = false) := by rw [Hid, isB, decide_eq_false (by omega)]; rfl
    clear h1
    go_enter Try.func38, Try.ntmps38
    go_wp2_with fail
    go_ret
    exact ⟨by rw [HF.out]; rfl, Below.refl _ _⟩
  · have d1 : decide (x < 1) = false := decide_eq_false h1
    have HF : Hid ((!isB I x) = decide ((I.length : Int) < x)) := by
      rw [Hid, isB, decide_eq_true (show 1 ≤ x by omega), Bool.true_and]
      by_cases h : x ≤ (I.length : Int)
      · rw [decide_eq_true h, decide_eq_false (by omega)]; rfl
      · rw [decide_eq_false h, decide_eq_true (by omega)]; rfl
    clear h1
    go_enter Try.func38, Try.ntmps38
    go_wp2_with fail
    go_ret
    exact ⟨by rw [HF.out]; rfl, Below.refl _ _⟩
set_option maxHeartbeats 1000000 in
set_option maxRecDepth 100000 in
theorem chk2_any (I : List PPh) (x : Int) (B C : Nat) (A : Option Addr) (c : Nat) (w : World) (hB : VBlk w B (.slice A I.length c)) (hC : Boxed w C 67 (.func (.func 38) #[] #[.pointer (some ⟨B, 0, none⟩)])) :
    Calls Try.prog 40 #[.int .i64 x, .pointer (some ⟨C, 0, none⟩)] w fun e w' => e = .returned (.bool (!okTo I x)) ∧ Below w.heap.size w w' := by
  have y0 := hC.cell
  have y1 := hC.lt
  have HB := Lib.hid hB
  clear hB hC
  by_cases h0 : x = 0
  · subst h0
    go_enter Try.func40, Try.ntmps40
    go_wp2_with fail
    go_ret
    exact ⟨rfl, Below.refl _ _⟩
  · have d1 : (x == 0) = false := by simpa using h0
    have d2 : (x != 0) = true := by simpa using h0
    have HF : Hid ((!okTo I x) = !isB I x) := by rw [Hid, okTo, d1, Bool.false_or]
    clear h0
    go_enter Try.func40, Try.ntmps40
    go_wp2_with fail
    refine (chk1_any I x B A c _ HB.out).mono ?_
    rintro e w1 ⟨rfl, hb⟩
    have HB1 := Lib.hid hb
    clear hb
    go_wp2_with fail
    go_ret
    exact ⟨by rw [HF.out]; rfl, HB1.out⟩
set_option maxHeartbeats 1000000 in
set_option maxRecDepth 100000 in
theorem idxI_any (F : Nat) (cap : Value) (p : Int → Bool) (v : Value) (l : List Int) (w : World) (hv : RdI w v l)
    (hE : ∀ (x : Int) (W : World), (callFunc F #[.int .i64 x, cap]).run Try.prog W = .ok (.enter F #[.int .i64 x, cap]) W)
    (hF : ∀ x w', Below w.heap.size w w' → Calls Try.prog F #[.int .i64 x, cap] w' fun e w'' => e = .returned (.bool (p x)) ∧ Below w'.heap.size w' w'') :
    Calls Try.prog 58 #[v, .func (.func F) #[] #[cap]] w fun e' w' => e' = .returned (.int .i64 (idxP p l 0)) ∧ Below w.heap.size w w' := by
  obtain ⟨A, n, c, rfl, h1, h2, HN, HR⟩ := hv.op
  have HFF := Lib.hid hF
  clear hv hF
  go_enter Try.func58, Try.ntmps58
  go_wp2_with fail
  go_loopw [8] (fun i wr => ∃ k : Nat, k ≤ n ∧ i = .int .i64 k ∧ Hid (idxP p l 0 = idxP p (l.drop k) k) ∧ Hid (Below w.heap.size w wr)) (fun i _ => n - (intOf i).toNat)
  case atStart => exact ⟨0, Nat.zero_le _, rfl, rfl, Below.refl _ _⟩
  case round =>
    obtain ⟨k, hk, rfl, HP, HW⟩ := hrel
    by_cases hlt : k < n
    · obtain ⟨b, off, x, rfl, hb, hd, c1⟩ := (HR.out k hlt).below HW.out
      have HP2 : Hid (idxP p l 0 = if p x = true then (k : Int) else idxP p (l.drop (k + 1)) (k + 1)) := by rw [Hid, HP.out, hd.out]; rfl
      have hk0 : (0 : Int) ≤ (k : Int) := by omega
      clear HP hd
      go_wp2_with fail
      refine (HFF.out x _ HW.out).mono ?_
      rintro e' w1 ⟨rfl, hb1⟩
      have HW1 := Lib.hid (bchain HW.out hb1)
      clear hb1 c1
      cases hid : p x
      · have HP3 : Hid (idxP p l 0 = idxP p (l.drop (k + 1)) (k + 1)) := by rw [Hid, HP2.out, if_neg (by simp [hid])]
        clear hid
        go_wp2_with fail
        go_roundw
        case rel => exact ⟨k + 1, by omega, by go_num, HP3.out, HW1.out⟩
        case measure => simp [intOf]; omega
      · have HP3 : Hid (idxP p l 0 = k) := by rw [Hid, HP2.out, if_pos hid]
        clear hid
        go_wp2_with fail
        go_ret
        exact ⟨by rw [HP3.out]; rfl, HW1.out⟩
    · obtain rfl : n = k := by omega
      have HP3 : Hid (idxP p l 0 = -1) := by rw [Hid, HP.out, List.drop_of_length_le (by rw [HN.out]; omega)]; rfl
      go_wp2_with fail
      go_ret
      exact ⟨by rw [HP3.out]; rfl, HW.out⟩
set_option maxHeartbeats 1000000 in
set_option maxRecDepth 100000 in
theorem contI_any (F : Nat) (cap : Value) (p : Int → Bool) (v : Value) (l : List Int) (w : World) (hv : RdI w v l)
    (hE : ∀ (x : Int) (W : World), (callFunc F #[.int .i64 x, cap]).run Try.prog W = .ok (.enter F #[.int .i64 x, cap]) W)
    (hF : ∀ x w', Below w.heap.size w w' → Calls Try.prog F #[.int .i64 x, cap] w' fun e w'' => e = .returned (.bool (p x)) ∧ Below w'.heap.size w' w'') :
    Calls Try.prog 39 #[v, .func (.func F) #[] #[cap]] w fun e' w' => e' = .returned (.bool (l.any p)) ∧ Below w.heap.size w w' := by
  obtain ⟨A, n, c, rfl, h1, h2, HN, HR⟩ := hv.op
  have HVV := Lib.hid hv
  have HFF := Lib.hid hF
  clear hv hF
  go_enter Try.func39, Try.ntmps39
  go_wp2_with fail
  refine (idxI_any F cap p _ l _ HVV.out hE HFF.out).mono ?_
  rintro e w1 ⟨rfl, hb⟩
  have HB1 := Lib.hid hb
  have HI := Lib.hid (idxP_iff p l 0)
  clear hb
  go_wp2_with fail
  go_ret
  exact ⟨by rw [← HI.out]; rfl, HB1.out⟩
theorem all_any {α : Type} (p : α → Bool) (l : List α) : l.any (fun x => !p x) = !l.all p := by
  rw [List.any_eq_not_all_not]; simp
set_option maxHeartbeats 8000000 in
set_option maxRecDepth 100000 in
theorem pchkR_any (v vr : Value) (I : List PPh) (R : PRule) (w : World) (hv : RdV w v I) (hr : RdR w vr R) (hfl : R.fr.length ≤ 100000) :
    Calls Try.prog 13 #[v, vr] w fun e w' => e = .returned (.int .i64 (chkR I R)) ∧ Below w.heap.size w w' := by
  obtain ⟨ck, hck⟩ : ∃ ck, chkR I R = ck := ⟨_, rfl⟩
  rw [hck]
  unfold chkR at hck
  obtain ⟨u, rfl, hp⟩ := id hv
  obtain ⟨A0, n0, c0, rfl, _, _, _, _⟩ := hp.op
  obtain ⟨vf, vt, vl, vg, rfl, hf, ht, hl, hg⟩ := id hr
  obtain ⟨A1, n1, c1, rfl, _, _, HN1, HR1⟩ := hf.op
  obtain ⟨A2, n2, c2, rfl, _, _, HN2, HR2⟩ := ht.op
  obtain ⟨A3, n3, c3, rfl, _, _, HN3, _⟩ := hl.op
  obtain ⟨A4, n4, c4, rfl, _, _, HN4, _⟩ := hg.op
  have HV := Lib.hid hv
  have HRR := Lib.hid hr
  have HF := Lib.hid hf
  have HT := Lib.hid ht
  clear hp hf ht hl hg hv hr
  obtain ⟨beg, hbeg⟩ : ∃ x, R.beg = x := ⟨_, rfl⟩
  obtain ⟨fin, hfin⟩ : ∃ x, R.fin = x := ⟨_, rfl⟩
  rw [hbeg, hfin] at HRR ⊢
  clear hbeg hfin
  obtain ⟨u, he, hp⟩ := id HV.out
  injection he with he
  simp only [Array.mk.injEq, List.cons.injEq, and_true] at he
  subst he
  obtain ⟨_, _, _, he, _, _, HN0, _⟩ := hp.op
  cases he
  rw [HN1.out, HN2.out, HN3.out, HN4.out] at hck
  have HFL := Lib.hid hfl
  clear hfl hp
  go_enter Try.func13, Try.ntmps13
  go_upto_region 1 with (fail)
  generalize hW : World.alloc (World.alloc w _) _ = W
  have HBW : Hid (Below w.heap.size w W) := by rw [← hW]; exact bchain (al_below _ _) (al_below _ _)
  have HP : Hid (VBlk W w.heap.size (.slice A0 n0 c0)) := by rw [← hW]; exact VBlk.below (heap_alloc_new w _) (al_below _ _)
  have HQ : Hid (RBlk W (w.heap.size + 1) (.slice A1 n1 c1) (.slice A2 n2 c2) (.slice A3 n3 c3) (.slice A4 n4 c4) beg fin) := by
    have h := heap_alloc_new (w.alloc (.cells #[.slice A0 n0 c0] 24)) (.cells #[.slice A1 n1 c1, .slice A2 n2 c2, .slice A3 n3 c3, .slice A4 n4 c4, .bool beg, .bool fin] 28)
    rw [World.size_alloc] at h
    rw [← hW]; exact h
  clear hW
  obtain ⟨z0, z1, z2, z3, z4, z5⟩ := HQ.out.cells
  have zl := HQ.out.lt
  by_cases h0 : n1 = 0
  · rw [if_pos (.inl h0)] at hck
    have HC := Lib.hid hck
    clear hck
    subst h0
    go_wp2_with fail
    go_ret
    exact ⟨by rw [← HC.out]; rfl, HBW.out⟩
  have d0 : ((n1 : Int) == 0) = false := by simp; omega
  have d0' : (n1 == 0) = false := by simp; omega
  by_cases h1 : n2 = n1
  rotate_left
  · rw [if_pos (.inr h1)] at hck
    have HC := Lib.hid hck
    have d1 : ((n2 : Int) != (n1 : Int)) = true := by simp; omega
    have d1' : (n2 != n1) = true := by simp; omega
    clear hck h0 h1
    go_wp2_with fail
    go_ret
    exact ⟨by rw [← HC.out]; rfl, HBW.out⟩
  subst h1
  rw [if_neg (by omega)] at hck
  have d1 : ((n2 : Int) != (n2 : Int)) = false := by simp
  have d1' : (n2 != n2) = false := by simp
  have HCK := Lib.hid hck
  clear hck h0
  go_wp2_with fail
  clear z0 z1 z2 z3 z4 z5 zl d0 d0' d1 d1'
  generalize hW2 : World.alloc W _ = W2
  have hb2 : Below W.heap.size W W2 := by rw [← hW2]; exact al_below _ _
  have HBC : Hid (Boxed W2 W.heap.size 67 (.func (.func 38) #[] #[.pointer (some ⟨w.heap.size, 0, none⟩)])) := by rw [← hW2]; exact Boxed.new _ _ _
  have HB2 := Lib.hid (bchain HBW.out hb2)
  have HP2 := Lib.hid (HP.out.below hb2)
  have HQ2 := Lib.hid (HQ.out.below hb2)
  have hcl : ∀ (x : Int) (w' : World), Below W2.heap.size W2 w' → Calls Try.prog 38 #[.int .i64 x, .pointer (some ⟨w.heap.size, 0, none⟩)] w' fun e w'' => e = .returned (.bool (!isB I x)) ∧ Below w'.heap.size w' w'' :=
    fun x w' h => chk1_any I x w.heap.size A0 c0 w' (by rw [HN0.out]; exact HP2.out.below h)
  clear hW2 hb2
  refine (contI_any 38 (.pointer (some ⟨w.heap.size, 0, none⟩)) (fun x => !isB I x) _ R.fr _ (HF.out.below HB2.out) (fun x W => by go_simp) hcl).mono ?_
  rintro e w3 ⟨rfl, hb3⟩
  have HB3 := Lib.hid (bchain HB2.out hb3)
  have HP3 := Lib.hid (HP2.out.below hb3)
  have HQ3 := Lib.hid (HQ2.out.below hb3)
  have HBC3 : Hid (Boxed w3 W.heap.size 67 (.func (.func 38) #[] #[.pointer (some ⟨w.heap.size, 0, none⟩)])) := (hb3.block _ HBC.out.lt).trans HBC.out
  rw [all_any]
  clear hcl hb3 HP2 HQ2 HBC HB2
  cases hfa : R.fr.all (isB I)
  · have HF9 : Hid (ck = 19) := by rw [Hid, ← HCK.out, hfa]; rfl
    clear hfa
    go_wp2_with fail
    go_ret
    exact ⟨by rw [HF9.out]; rfl, HB3.out⟩
  have HIN := Lib.hid hfa
  rw [hfa, Bool.true_and] at HCK
  clear hfa
  obtain ⟨z0, z1, z2, z3, z4, z5⟩ := HQ3.out.cells
  have zl := HQ3.out.lt
  go_wp2_with fail
  clear z0 z1 z2 z3 z4 z5 zl
  refine (contI_any 40 (.pointer (some ⟨W.heap.size, 0, none⟩)) (fun x => !okTo I x) _ R.tto _ (HT.out.below HB3.out) (fun x W => by go_simp)
    (fun x w' h => chk2_any I x w.heap.size W.heap.size A0 c0 w' (by rw [HN0.out]; exact HP3.out.below h) ((h.block _ HBC3.out.lt).trans HBC3.out))).mono ?_
  rintro e w4 ⟨rfl, hb4⟩
  have HB4 := Lib.hid (bchain HB3.out hb4)
  have HQ4 := Lib.hid (HQ3.out.below hb4)
  rw [all_any]
  clear hb4 HB3 HQ3 HP3 HBC3
  cases hta : R.tto.all (okTo I)
  · have HF9 : Hid (ck = 19) := by rw [Hid, ← HCK.out, hta]; rfl
    clear hta
    go_wp2_with fail
    go_ret
    exact ⟨by rw [HF9.out]; rfl, HB4.out⟩
  have hck2 := HCK.out
  rw [hta, if_neg (by decide)] at hck2
  have HCK2 := Lib.hid hck2
  clear hta hck2 HCK
  go_upto_region 6 with (fail)
  refine wp_region_mix 7 [0, 1, 2, 3, 4, 5, 6] [] [(true, 0), (true, 1), (true, 4), (true, 5), (true, 6), (false, 2), (true, 3), (false, 7)] (fun w' => Below w4.heap.size w4 w') (by kernel_rfl) (by kernel_rfl) ?_
  rintro D hD
  have HSD : Hid (Below w4.heap.size w4 D) := by rw [hD]; exact (Below.refl _ _).drew
  clear hD
  refine ⟨HSD.out, ?_⟩
  have HS : Hid (∀ w' : World, Below w4.heap.size w4 w' → w'.cell? ⟨w.heap.size + 1, 0, none⟩ = some (.slice A1 n2 c1)) := by
    intro w' h
    exact (HQ4.out.below h).cells.1
  iterate 5 (refine wpMix_q (v := ?_) rfl rfl (fun w' hS => ?_) ?_; rotate_left; (focus ((try obtain s0 := HS.out _ (hS rfl)); clear hS; go_simp; try with_reducible rfl; done)); (try simp only [Act.put, List.setIfInBounds_toArray, List.set_cons_zero, List.set_cons_succ]))
  refine wpMix_e rfl rfl (fun K hK => ?_)
  go_simp
  refine (nsorted_any _ R.fr _ (HF.out.below (bchain HB4.out HSD.out)) HFL.out).mono ?_
  rintro e w1 ⟨⟨A7, n7, c7, rfl, hnd⟩, hb1⟩
  have HS1 := Lib.hid (bchain HSD.out hb1)
  refine hK.out _ _ (fun _ => HS1.out) ?_
  clear hK K hb1
  (try dsimp only); (try simp only [Act.put]); (try simp only [List.setIfInBounds_toArray, List.set_cons_zero, List.set_cons_succ])
  rw [HN1.out] at hnd
  by_cases hN : R.fr.Nodup
  · have hq : ¬ n7 < n2 := fun h => hnd.1 h hN
    have hck3 := HCK2.out
    rw [if_neg (fun h => h hN)] at hck3
    have HC3 := Lib.hid hck3
    have d2 : decide ((n7 : Int) < (n2 : Int)) = false := by simp; omega
    have d2' : decide (n7 < n2) = false := by simp; omega
    clear hck3 HCK2 hN hnd hq
    iterate 2 (first | (refine wpMix_q (v := ?_) rfl rfl (fun w' hS => ?_) ?_; rotate_left; (focus ((try obtain s0 := HS.out _ (hS rfl)); clear hS; go_simp; try with_reducible rfl; done)); (try simp only [Act.put, List.setIfInBounds_toArray, List.set_cons_zero, List.set_cons_succ])) | (refine wpMix_qskip rfl rfl ?_; (try simp only [Act.put, List.setIfInBounds_toArray, List.set_cons_zero, List.set_cons_succ])) | (refine wpMix_eskip rfl rfl ( HS1).out ?_; (try simp only [Act.put, List.setIfInBounds_toArray, List.set_cons_zero, List.set_cons_succ])) | (refine wpMix_e rfl rfl (fun K hK => ?_); go_simp; refine hK.out _ _ (fun h => absurd h (by decide)) ?_; clear hK K; (try simp only [Act.put, List.setIfInBounds_toArray, List.set_cons_zero, List.set_cons_succ])))
    refine wpMix_nil ?_
    clear HS
    obtain ⟨z0, z1, z2, z3, z4, z5⟩ := (HQ4.out.below HS1.out).cells
    have zl := (HQ4.out.below HS1.out).lt
    refine NoPanic.normal ?_
    by_cases hl3 : 2 < n3
    · have HF5 : Hid (ck = 5) := by rw [Hid, ← HC3.out, if_pos (.inl hl3)]
      have d3 : decide ((2 : Int) < (n3 : Int)) = true := by simp; omega
      have d3' : decide (2 < n3) = true := by simp; omega
      go_wp2_with fail
      go_ret
      exact ⟨by rw [HF5.out]; rfl, bchain HB4.out HS1.out⟩
    · have d3 : decide ((2 : Int) < (n3 : Int)) = false := by simp; omega
      have d3' : decide (2 < n3) = false := by simp; omega
      by_cases hl4 : 2 < n4
      · have HF5 : Hid (ck = 5) := by rw [Hid, ← HC3.out, if_pos (.inr hl4)]
        have d4 : decide ((2 : Int) < (n4 : Int)) = true := by simp; omega
        have d4' : decide (2 < n4) = true := by simp; omega
        go_wp2_with fail
        go_ret
        exact ⟨by rw [HF5.out]; rfl, bchain HB4.out HS1.out⟩
      · have HF5 : Hid (ck = 0) := by rw [Hid, ← HC3.out, if_neg (by omega)]
        have d4 : decide ((2 : Int) < (n4 : Int)) = false := by simp; omega
        have d4' : decide (2 < n4) = false := by simp; omega
        go_wp2_with fail
        go_ret
        exact ⟨by rw [HF5.out]; rfl, bchain HB4.out HS1.out⟩
  · have hq : n7 < n2 := hnd.2 hN
    have HF8 : Hid (ck = 8) := by rw [Hid, ← HCK2.out, if_pos hN]
    have d2 : decide ((n7 : Int) < (n2 : Int)) = true := by simp; omega
    have d2' : decide (n7 < n2) = true := by simp; omega
    clear HCK2 hN hnd hq
    iterate 2 (first | (refine wpMix_q (v := ?_) rfl rfl (fun w' hS => ?_) ?_; rotate_left; (focus ((try obtain s0 := HS.out _ (hS rfl)); clear hS; go_simp; try with_reducible rfl; done)); (try simp only [Act.put, List.setIfInBounds_toArray, List.set_cons_zero, List.set_cons_succ])) | (refine wpMix_qskip rfl rfl ?_; (try simp only [Act.put, List.setIfInBounds_toArray, List.set_cons_zero, List.set_cons_succ])) | (refine wpMix_eskip rfl rfl ( HS1).out ?_; (try simp only [Act.put, List.setIfInBounds_toArray, List.set_cons_zero, List.set_cons_succ])) | (refine wpMix_e rfl rfl (fun K hK => ?_); go_simp; refine hK.out _ _ (fun h => absurd h (by decide)) ?_; clear hK K; (try simp only [Act.put, List.setIfInBounds_toArray, List.set_cons_zero, List.set_cons_succ])))
    refine wpMix_nil ?_
    clear HS
    refine NoPanic.normal ?_
    go_wp2_with fail
    go_ret
    exact ⟨by rw [HF8.out]; rfl, bchain HB4.out HS1.out⟩
end Go.Proofs.Ytdijlakeonionaa
