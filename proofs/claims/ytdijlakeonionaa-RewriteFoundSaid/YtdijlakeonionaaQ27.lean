/-
  can of the finder: it remembers what it has found out.
-/
import Derived.Test.YtdijlakeonionaaQ26
namespace Go.Proofs.Ytdijlakeonionaa
open Go.ChangeShapes Go.WideShapes Go.ChangeAt Go.RowKit
/-- what is remembered is right -/
def KnOk (I : List PPh) (R : PRule) (wl : List Int) (kn : Pl → Option Bool) : Prop := ∀ p x, kn p = some x → x = canP I R wl p
def KnM (I : List PPh) (R : PRule) (wl : List Int) (bm : Nat) (w : World) : Prop := ∃ kn, OwnM KP w bm allPl kn ∧ KnOk I R wl kn
def CJ (I : List PPh) (R : PRule) (wl : List Int) (bm : Nat) (w wr : World) : Prop := KnM I R wl bm wr ∧ w.grownBy wr (some bm)
theorem grown_of_below {w w' : World} {row : Option Nat} (hb : Below w.heap.size w w') : w.grownBy w' row := ⟨hb.os, hb.tape, hb.output, hb.size, fun k hk _ => hb.block k hk⟩
theorem grown_tr {a b c : World} {row : Option Nat} (h : a.grownBy b row) (k : b.grownBy c row) : a.grownBy c row :=
  ⟨k.os.trans h.os, k.tape.trans h.tape, k.output.trans h.output, Nat.le_trans h.size k.size, fun i hi hne => (k.block i (Nat.lt_of_lt_of_le hi h.size) hne).trans (h.block i hi hne)⟩
section
variable {I : List PPh} {R : PRule} {wl : List Int} {bm : Nat} {w w1 w2 : World}
theorem KnM.below (h : KnM I R wl bm w) (hb : Below w.heap.size w w1) : KnM I R wl bm w1 := by
  obtain ⟨kn, h1, h2⟩ := h
  exact ⟨kn, h1.below hb, h2⟩
theorem KnM.ne (h : KnM I R wl bm w) {k : Nat} {cs : Array Value} {t : TypeId} {mm : Nat × Nat} (hk : w.heap[k]? = some (.cells cs t mm)) : k ≠ bm := by
  obtain ⟨kn, h1, _⟩ := h
  exact h1.ne hk
theorem CJ.refl (h : KnM I R wl bm w) : CJ I R wl bm w w := ⟨h, World.grownBy.refl _ _⟩
theorem CJ.below (h : CJ I R wl bm w w1) (hb : Below w1.heap.size w1 w2) : CJ I R wl bm w w2 := ⟨h.1.below hb, grown_tr h.2 (grown_of_below hb)⟩
theorem CJ.of_below (hb : Below w.heap.size w w1) (h : CJ I R wl bm w1 w2) : CJ I R wl bm w w2 := ⟨h.1, grown_tr (grown_of_below hb) h.2⟩
theorem CJ.trans (h : CJ I R wl bm w w1) (k : CJ I R wl bm w1 w2) : CJ I R wl bm w w2 := ⟨k.1, grown_tr h.2 k.2⟩
theorem CJ.blk (h : CJ I R wl bm w w1) (h0 : KnM I R wl bm w) {k : Nat} {cs : Array Value} {t : TypeId} {mm : Nat × Nat} (hk : w.heap[k]? = some (.cells cs t mm)) : w1.heap[k]? = some (.cells cs t mm) := by
  obtain ⟨kn, h1, _⟩ := h0
  exact blk_of_map hk h1 h.2
theorem CJ.own (h : CJ I R wl bm w w1) (h0 : KnM I R wl bm w) {base size n : Nat} {e : TypeId} {u : Value} {xs : List Value} (ho : w.ownsRow base e size u n xs) : w1.ownsRow base e size u n xs := by
  obtain ⟨kn, h1, _⟩ := h0
  exact own_of_map ho h1 h.2
theorem CJ.base (h : CJ I R wl bm w w1) {w₀ : World} (h0 : Below w₀.heap.size w₀ w) (hb : w₀.heap.size ≤ bm) : Below w₀.heap.size w₀ w1 := h0.grown h.2 h0.size fun j hj => by cases hj; exact hb
theorem KnM.put {p : Pl} {x : Bool} (hx : x = canP I R wl p) {kn : Pl → Option Bool} (hm : OwnM KP w1 bm allPl (put kn p x)) (hk : KnOk I R wl kn) : KnM I R wl bm w1 := by
  refine ⟨_, hm, fun q y hq => ?_⟩
  unfold Go.Proofs.Ytdijlakeonionaa.put at hq
  split at hq
  · rename_i e; cases hq; rw [e]; exact hx
  · exact hk q y hq
end
theorem canN_top {I : List PPh} {R : PRule} {wl : List Int} {p : Pl} {n : Nat} (h : canN I R wl p n = true) : ∀ k : Nat, n ≤ k → canN I R wl p k = true
  | 0, hk => by rwa [Nat.le_zero.1 hk] at h
  | k + 1, hk => by
    rcases Nat.lt_or_ge n (k + 1) with h1 | h1
    · rw [canN_succ, canN_top h k (by omega)]; rfl
    · rwa [show n = k + 1 by omega] at h
section
variable {w₀ : World} {I : List PPh} {R : PRule} {wl : List Int} {m : Mch} {beg fin : Bool} {Aw : Option Addr} {nw cw B bm : Nat}
def CanC (w₀ : World) (I : List PPh) (R : PRule) (wl : List Int) (m : Mch) (beg fin : Bool) (Aw : Option Addr) (nw cw B bm k : Nat) : Prop :=
  ∀ (p : Pl) (vf : Value) (w : World), p.left = k → PlOk p → p.at_ ≤ nw → Below w₀.heap.size w₀ w → FndBlk w B m beg fin Aw nw cw bm vf → KnM I R wl bm w →
    Calls Try.prog 73 #[.pointer (some ⟨B, 0, none⟩), plV p] w fun e w' => e = .returned (.bool (canP I R wl p)) ∧ CJ I R wl bm w w'
theorem allPl_small : allPl.length < maxLen := Nat.lt_of_le_of_lt allPl_len (by simp [maxLen])
set_option maxHeartbeats 16000000 in
set_option maxRecDepth 100000 in
theorem can_step (HE : Hid (FE w₀ I R wl m beg fin Aw nw cw B bm)) (k : Nat) (ih : ∀ k', k = k' + 1 → CanC w₀ I R wl m beg fin Aw nw cw B bm k') : CanC w₀ I R wl m beg fin Aw nw cw B bm k := by
  intro p vf w hpk hpo hpa h0 hf hkn
  obtain ⟨cn, hcn⟩ : ∃ cn, canP I R wl p = cn := ⟨_, rfl⟩
  have HCN := Lib.hid hcn
  rw [hcn]
  have HIH := Lib.hid ih
  have HPK := Lib.hid hpk
  have HPO := Lib.hid hpo
  have HB0 := Lib.hid h0
  have HF := Lib.hid hf
  have HKN := Lib.hid hkn
  have hpa24 : p.at_ ≤ 24 := hpo.a
  have hpl24 : p.left ≤ 24 := hpo.l
  have hnw := HE.out.lw
  clear hcn ih hpk hpo h0 hf hkn
  simp only [plV, plA]
  go_enter Try.func73, Try.ntmps73
  go_upto_region 1 with (fail)
  generalize hW : World.alloc w _ = W
  have HBW : Hid (Below w.heap.size w W) := by rw [← hW]; exact al_below _ _
  have HP : Hid (PBlk W w.heap.size p) := by rw [← hW]; exact heap_alloc_new w _
  clear hW
  have HFW := Lib.hid (HF.out.below HBW.out)
  obtain ⟨u0, u1, u2, u3, u4, u5, u6, u7⟩ := HP.out.cells
  have hul := HP.out.lt
  go_wp2_with fail
  clear u0 u1 u2 u3 u4 u5 u6 u7 hul
  have HW0 : Hid (Below w₀.heap.size w₀ W) := HB0.out.trans (HBW.out.mono HB0.out.size)
  have hdone := done_any HE p vf W HW0.out HFW.out
  simp only [plV, plA] at hdone
  refine hdone.mono ?_
  clear hdone
  rintro e w1 ⟨rfl, hb1⟩
  have HB1 := Lib.hid (bchain HBW.out hb1)
  have HW1 : Hid (Below w₀.heap.size w₀ w1) := HB0.out.trans (HB1.out.mono HB0.out.size)
  have HP1 := Lib.hid (HP.out.below hb1)
  have HF1 := Lib.hid (HFW.out.below hb1)
  have HK1 := Lib.hid (HKN.out.below HB1.out)
  clear hb1 HP HFW HW0 HBW
  cases hdn : doneP R wl p
  rotate_left
  · have HC : Hid (cn = true) := by
      rw [Hid, ← HCN.out]
      by_cases hz : p.left = 0
      · rw [canP_zero I R wl p hz, hdn]
      · rw [canP_succ I R wl p hz, hdn]; rfl
    have HJ : Hid (CJ I R wl bm w w1) := CJ.of_below HB1.out (CJ.refl HK1.out)
    clear hdn
    go_wp2_with fail
    go_ret
    exact ⟨by rw [(HC).out]; rfl, (HJ).out⟩
  have HDN := Lib.hid hdn
  clear hdn
  go_upto_region 3 with (fail)
  refine wp_region_mix 14 [0, 1, 2, 3, 4, 5, 6, 7, 8, 9, 10, 11, 12, 13] [] [(true, 0), (true, 1), (true, 2), (true, 3), (true, 4), (true, 5), (true, 6), (true, 7), (true, 8), (true, 9), (true, 10), (true, 11), (true, 12), (true, 13), (false, 14), (false, 15)] (fun w' => Below w1.heap.size w1 w') (by kernel_rfl) (by kernel_rfl) ?_
  rintro D hD
  have HSD : Hid (Below w1.heap.size w1 D) := by rw [hD]; exact (Below.refl _ _).drew
  clear hD
  refine ⟨HSD.out, ?_⟩
  have HS := Lib.hid (fun (w' : World) (h : Below w1.heap.size w1 w') => And.intro (HF1.out.below h).cells (HP1.out.below h).cells)
  by_cases hz : p.left = 0
  · have d1 : ((p.left : Int) == 0) = true := by simp [hz]
    have d1' : (p.left == 0) = true := by simp [hz]
    have HC : Hid (cn = false) := by rw [Hid, ← HCN.out, canP_zero I R wl p hz, HDN.out]
    have HJ : Hid (CJ I R wl bm w D) := CJ.of_below (bchain HB1.out HSD.out) (CJ.refl (HK1.out.below HSD.out))
    clear hz
    iterate 4 (refine wpMix_q (v := ?_) rfl rfl (fun w' hS => ?_) ?_; rotate_left; (focus ((try obtain ⟨⟨_, t0, t1, t2⟩, u0, u1, u2, u3, u4, u5, u6, u7⟩ := HS.out _ (hS rfl)); clear hS; go_simp; try with_reducible rfl; done)); (try simp only [Act.put, List.setIfInBounds_toArray, List.set_cons_zero, List.set_cons_succ]))
    iterate 10 (refine wpMix_qskip rfl rfl ?_; (try simp only [Act.put, List.setIfInBounds_toArray, List.set_cons_zero, List.set_cons_succ]))
    iterate 1 (refine wpMix_eskip rfl rfl (HSD).out ?_; (try simp only [Act.put, List.setIfInBounds_toArray, List.set_cons_zero, List.set_cons_succ]))
    iterate 1 (refine wpMix_e rfl rfl (fun K hK => ?_); go_simp; refine hK.out _ _ (fun h => absurd h (by decide)) ?_; clear hK K; (try simp only [Act.put, List.setIfInBounds_toArray, List.set_cons_zero, List.set_cons_succ]))
    refine wpMix_nil ?_
    refine NoPanic.normal ?_
    clear HS d1 d1'
    go_wp2_with fail
    go_ret
    exact ⟨by rw [(HC).out]; rfl, (HJ).out⟩
  obtain ⟨k', hk'⟩ : ∃ k', k = k' + 1 := ⟨k - 1, by have := HPK.out; omega⟩
  have HKK := Lib.hid hk'
  have HLZ := Lib.hid hz
  have d1 : ((p.left : Int) == 0) = false := by simp; omega
  have d1' : (p.left == 0) = false := by simp; omega
  have hwr : IntKind.i64.wrap ((nw : Int) - (p.at_ : Int)) = (nw : Int) - (p.at_ : Int) := IntWalk.i64_in _ (by omega)
  have hsucc := canP_succ I R wl p hz
  rw [HDN.out, Bool.false_or, HE.out.nl, HCN.out] at hsucc
  clear hk' hz
  by_cases hsh : p.left + p.at_ < nw
  · have d3 : decide ((p.left : Int) < (nw : Int) - (p.at_ : Int)) = true := by simp; omega
    have HC : Hid (cn = false) := by rw [Hid, hsucc, decide_eq_false (by omega)]; rfl
    have HJ : Hid (CJ I R wl bm w D) := CJ.of_below (bchain HB1.out HSD.out) (CJ.refl (HK1.out.below HSD.out))
    clear hsh hsucc
    iterate 14 (refine wpMix_q (v := ?_) rfl rfl (fun w' hS => ?_) ?_; rotate_left; (focus ((try obtain ⟨⟨_, t0, t1, t2⟩, u0, u1, u2, u3, u4, u5, u6, u7⟩ := HS.out _ (hS rfl)); clear hS; go_simp; try with_reducible rfl; done)); (try simp only [Act.put, List.setIfInBounds_toArray, List.set_cons_zero, List.set_cons_succ]))
    iterate 2 (refine wpMix_e rfl rfl (fun K hK => ?_); go_simp; refine hK.out _ _ (fun h => absurd h (by decide)) ?_; clear hK K; (try simp only [Act.put, List.setIfInBounds_toArray, List.set_cons_zero, List.set_cons_succ]))
    refine wpMix_nil ?_
    refine NoPanic.normal ?_
    clear HS d1 d1' hwr d3
    go_wp2_with fail
    go_ret
    exact ⟨by rw [(HC).out]; rfl, (HJ).out⟩
  have d3 : decide ((p.left : Int) < (nw : Int) - (p.at_ : Int)) = false := by simp; omega
  rw [decide_eq_true (show nw ≤ p.at_ + p.left by omega), Bool.true_and] at hsucc
  have HSUC := Lib.hid hsucc
  clear hsh hsucc
  iterate 14 (refine wpMix_q (v := ?_) rfl rfl (fun w' hS => ?_) ?_; rotate_left; (focus ((try obtain ⟨⟨_, t0, t1, t2⟩, u0, u1, u2, u3, u4, u5, u6, u7⟩ := HS.out _ (hS rfl)); clear hS; go_simp; try with_reducible rfl; done)); (try simp only [Act.put, List.setIfInBounds_toArray, List.set_cons_zero, List.set_cons_succ]))
  iterate 2 (refine wpMix_e rfl rfl (fun K hK => ?_); go_simp; refine hK.out _ _ (fun h => absurd h (by decide)) ?_; clear hK K; (try simp only [Act.put, List.setIfInBounds_toArray, List.set_cons_zero, List.set_cons_succ]))
  refine wpMix_nil ?_
  refine NoPanic.normal ?_
  clear HS d1 d1' hwr d3
  go_upto_region 5 with (fail)
  have HBD := Lib.hid (bchain HB1.out HSD.out)
  have HPD := Lib.hid (HP1.out.below HSD.out)
  have HFD := Lib.hid (HF1.out.below HSD.out)
  have HKD := Lib.hid (HK1.out.below HSD.out)
  clear HP1 HF1 HK1 HSD HB1 HW1
  obtain ⟨kn, hkn, hkk⟩ := HKD.out
  have HKK2 := Lib.hid hkk
  have HKNM := Lib.hid hkn
  clear hkn hkk
  refine wp_region_mix 9 [0, 1, 2, 3, 4, 5, 6, 7] [8] [(true, 0), (true, 1), (true, 2), (true, 3), (true, 4), (false, 5), (true, 6), (true, 7), (true, 8), (false, 9), (false, 10)] (fun w' => Below D.heap.size D w') (by kernel_rfl) (by kernel_rfl) ?_
  rintro E hE
  have HSE : Hid (Below D.heap.size D E) := by rw [hE]; exact (Below.refl _ _).drew
  clear hE
  refine ⟨HSE.out, ?_⟩
  have HS := Lib.hid (fun (w' : World) (h : Below D.heap.size D w') => And.intro (HFD.out.below h).cells (HPD.out.below h).cells)
  iterate 5 (refine wpMix_q (v := ?_) rfl rfl (fun w' hS => ?_) ?_; rotate_left; (focus ((try obtain ⟨⟨_, t0, t1, t2⟩, u0, u1, u2, u3, u4, u5, u6, u7⟩ := HS.out _ (hS rfl)); clear hS; go_simp; try with_reducible rfl; done)); (try simp only [Act.put, List.setIfInBounds_toArray, List.set_cons_zero, List.set_cons_succ]))
  have HKE : Hid (OwnM KP E bm allPl kn) := HKNM.out.below HSE.out
  have hlk : (Instr.lookup 78 (.map (some bm)) (.agg #[.int .i64 p.s.cnt, .int .u8 p.s.near, .int .u8 p.s.far, .int .i8 p.s.o0, .int .i8 p.s.o1, .int .i8 p.s.o2, .int .i64 (p.at_ : Int), .int .i64 (p.left : Int)]) true).run Try.prog E = .ok (.tuple #[.bool ((kn p).getD false), .bool (kn p).isSome]) E := HKE.out.look_ok p HPO.out
  have HFE := Lib.hid (HFD.out.below HSE.out)
  have HPE := Lib.hid (HPD.out.below HSE.out)
  have HBE := Lib.hid (bchain HBD.out HSE.out)
  have HKME : Hid (KnM I R wl bm E) := ⟨kn, HKE.out, HKK2.out⟩
  cases hkp : kn p with
  | some x =>
    have HX : Hid (cn = x) := by rw [Hid, ← HCN.out]; exact (HKK2.out p x hkp).symm
    rw [hkp, Option.getD_some, Option.isSome_some] at hlk
    have HJ : Hid (CJ I R wl bm w E) := CJ.of_below HBE.out (CJ.refl HKME.out)
    clear hkp
    refine wpMix_e rfl rfl (fun K hK => ?_)
    go_simp
    refine hK.out _ _ (fun _ => HSE.out) ?_
    clear hK K hlk
    (try simp only [Act.put, List.setIfInBounds_toArray, List.set_cons_zero, List.set_cons_succ])
    iterate 3 (refine wpMix_q (v := ?_) rfl rfl (fun w' hS => ?_) ?_; rotate_left; (focus ((try obtain _ := HS.out _ (hS rfl)); clear hS; go_simp; try with_reducible rfl; done)); (try simp only [Act.put, List.setIfInBounds_toArray, List.set_cons_zero, List.set_cons_succ]))
    iterate 2 (refine wpMix_e rfl rfl (fun K hK => ?_); go_simp; refine hK.out _ _ (fun h => absurd h (by decide)) ?_; clear hK K; (try simp only [Act.put, List.setIfInBounds_toArray, List.set_cons_zero, List.set_cons_succ]))
    refine wpMix_nil ?_
    refine NoPanic.normal ?_
    clear HS
    go_wp2_with fail
    go_ret
    exact ⟨by rw [(HX).out]; rfl, (HJ).out⟩
  | none =>
    rw [hkp, Option.getD_none, Option.isSome_none] at hlk
    clear hkp
    refine wpMix_e rfl rfl (fun K hK => ?_)
    go_simp
    refine hK.out _ _ (fun _ => HSE.out) ?_
    clear hK K hlk
    (try simp only [Act.put, List.setIfInBounds_toArray, List.set_cons_zero, List.set_cons_succ])
    iterate 3 (refine wpMix_q (v := ?_) rfl rfl (fun w' hS => ?_) ?_; rotate_left; (focus ((try obtain _ := HS.out _ (hS rfl)); clear hS; go_simp; try with_reducible rfl; done)); (try simp only [Act.put, List.setIfInBounds_toArray, List.set_cons_zero, List.set_cons_succ]))
    iterate 2 (refine wpMix_e rfl rfl (fun K hK => ?_); go_simp; refine hK.out _ _ (fun h => absurd h (by decide)) ?_; clear hK K; (try simp only [Act.put, List.setIfInBounds_toArray, List.set_cons_zero, List.set_cons_succ]))
    refine wpMix_nil ?_
    refine NoPanic.normal ?_
    clear HS HKE HKK2 HKNM HKD HFD HPD HBD HSE
    have HWE : Hid (Below w₀.heap.size w₀ E) := HB0.out.trans (HBE.out.mono HB0.out.size)
    obtain ⟨ni, hni⟩ : ∃ ni, m.i.n = ni := ⟨_, rfl⟩
    have HNI := Lib.hid hni
    have HLI : Hid (I.length = ni) := by rw [Hid, HE.out.ib]; exact hni
    have hni60 : ni ≤ 60 := by have := HE.out.il; rw [HLI.out] at this; exact this
    clear hni
    go_wp2_with fail
    go_loopw [5, 7] (fun v5 v7 wx => ∃ j : Nat, j ≤ ni ∧ v7 = .int .i64 ((j : Int) + 1) ∧ v5 = .bool (canN I R wl p j) ∧ Hid (CJ I R wl bm E wx)) (fun _ v7 _ => ni + 1 - (intOf v7).toNat)
    case atStart => exact ⟨0, Nat.zero_le _, rfl, rfl, CJ.refl HKME.out⟩
    case round =>
      obtain ⟨j, hj, rfl, rfl, HJ⟩ := hrel
      have hj0 : (0 : Int) ≤ (j : Int) := by omega
      have HFR : Hid (FndBlk wr B m beg fin Aw nw cw bm vf) := HJ.out.blk HKME.out HFE.out
      have HPR : Hid (PBlk wr w.heap.size p) := HJ.out.blk HKME.out HPE.out
      have HWR : Hid (Below w₀.heap.size w₀ wr) := HJ.out.base HWE.out HE.out.bb.2
      obtain ⟨⟨s0, _⟩, _⟩ := HFR.out.cells
      rw [HNI.out] at s0
      have hsl := HFR.out.lt
      obtain ⟨cj, hcj⟩ : ∃ cj, canN I R wl p j = cj := ⟨_, rfl⟩
      have HCJ := Lib.hid hcj
      rw [hcj]
      clear hcj
      by_cases hgo : j < ni ∧ cj = false
      · obtain ⟨hlt, rfl⟩ := hgo
        have d2 : decide ((j : Int) + 1 ≤ (ni : Int)) = true := by simp; omega
        have d2' : decide (j + 1 ≤ ni) = true := by simp; omega
        have d2'' : decide (j < ni) = true := by simp; omega
        obtain ⟨u0, u1, u2, u3, u4, u5, u6, u7⟩ := HPR.out.cells
        have hul := HPR.out.lt
        go_wp2_with fail
        clear s0 hsl u0 u1 u2 u3 u4 u5 u6 u7 hul d2 d2' d2''
        have hstep := fstep_any HE p ((j : Int) + 1) vf wr HWR.out HFR.out HPO.out (Nat.pos_of_ne_zero HLZ.out)
        simp only [plV, plA] at hstep
        refine hstep.mono ?_
        clear hstep
        rintro e w3 ⟨⟨v3, rfl, ho3⟩, hb3⟩
        obtain ⟨A3, n3, c3, rfl⟩ := own_sliceN ho3
        have HO3 := Lib.hid ho3
        have HJ3 : Hid (CJ I R wl bm E w3) := HJ.out.below hb3
        have HF3 := Lib.hid (HFR.out.below hb3)
        have HW3 : Hid (Below w₀.heap.size w₀ w3) := HWR.out.trans (hb3.mono HWR.out.size)
        have HSUB : Hid (∀ q, q ∈ stepP I R wl p ((j : Int) + 1) → q.left = k' ∧ PlOk q ∧ q.at_ ≤ nw) := by
          intro q hq
          have h1 := stepP_left hq
          have h2 := pstep_ok (R := R) HPO.out (by rw [HE.out.nl]; exact hpa) (by rw [HE.out.nl]; exact hnw) HE.out.good.l1 hq
          rw [HE.out.nl] at h2
          exact ⟨by have := HPK.out; have := HKK.out; omega, h2⟩
        obtain ⟨sl, hsl⟩ : ∃ sl, stepP I R wl p ((j : Int) + 1) = sl := ⟨_, rfl⟩
        have HCS := Lib.hid (canN_succ I R wl p j)
        rw [hsl] at HO3 HSUB HCS
        clear hsl ho3 hb3 HFR HPR HWR HJ
        go_wp2_with fail
        refine (contB_any 73 (.pointer (some ⟨B, 0, none⟩)) (canP I R wl) _ sl wr.heap.size w3 (CJ I R wl bm w3) (CJ.refl HJ3.out.1) (fun w' h => h.own HJ3.out.1 HO3.out) (fun q W => by go_simp)
          (fun q hq w' h => (HIH.out k' HKK.out q vf w' (HSUB.out q hq).1 (HSUB.out q hq).2.1 (HSUB.out q hq).2.2 (h.base HW3.out HE.out.bb.2) (h.blk HJ3.out.1 HF3.out) h.1).mono fun e w'' hh => ⟨hh.1, h.trans hh.2⟩)).mono ?_
        rintro e w4 ⟨rfl, hj4⟩
        have HJ4 : Hid (CJ I R wl bm E w4) := HJ3.out.trans hj4
        obtain ⟨an, han⟩ : ∃ an, sl.any (canP I R wl) = an := ⟨_, rfl⟩
        have HCS2 : Hid (canN I R wl p (j + 1) = an) := by rw [Hid, HCS.out, HCJ.out, han]; rfl
        rw [han]
        clear han hj4 HCS HCJ HO3 HSUB HJ3 HF3 HW3
        go_wp2_with fail
        go_roundw
        case rel => exact ⟨j + 1, by omega, by go_num, by rw [HCS2.out], HJ4.out⟩
        case measure => simp [intOf]; omega
      · have HFIN : Hid (cn = cj) := by
          rw [Hid, HSUC.out, HLI.out]
          by_cases hlt : j < ni
          · have : cj = true := by cases cj; exact absurd ⟨hlt, rfl⟩ hgo; rfl
            rw [this]
            exact canN_top (n := j) (by rw [HCJ.out, this]) ni (by omega)
          · rw [show ni = j by omega]; exact HCJ.out
        by_cases hlt : j < ni
        · have hcj : cj = true := by cases cj; exact absurd ⟨hlt, rfl⟩ hgo; rfl
          have d2 : decide ((j : Int) + 1 ≤ (ni : Int)) = true := by simp; omega
          have d2' : decide (j + 1 ≤ ni) = true := by simp; omega
          have d2'' : decide (j < ni) = true := by simp; omega
          subst hcj
          clear hgo
          go_upto_region 12 with (fail)
          clear s0 hsl d2 d2' d2''
          refine wp_region_ord 6 [0, 1, 2, 3, 4, 5] [] [0, 1, 2, 3, 4, 5] [6] (fun w' => Below wr.heap.size wr w') (by kernel_rfl) (by kernel_rfl) ?_
          rintro Z hZ
          have HSZ : Hid (Below wr.heap.size wr Z) := by rw [hZ]; exact (Below.refl _ _).drew
          clear hZ
          refine ⟨HSZ.out, ?_⟩
          have HS := Lib.hid (fun (w' : World) (h : Below wr.heap.size wr w') => And.intro (HFR.out.below h).cells (HPR.out.below h).cells)
          iterate 6 (refine wpHead_cons (v := ?_) rfl rfl (fun w' hS => ?_) ?_; rotate_left; (focus ((try obtain ⟨⟨_, t0, t1, t2⟩, u0, u1, u2, u3, u4, u5, u6, u7⟩ := HS.out _ (hS rfl)); clear hS; go_simp; try with_reducible rfl; done)); (try simp only [Act.put, List.setIfInBounds_toArray, List.set_cons_zero, List.set_cons_succ]))
          refine wpHead_nil ?_
          refine wpTail_rest 6 rfl ?_
          simp only [List.drop_succ_cons, List.drop_zero]
          have HJZ : Hid (CJ I R wl bm E Z) := HJ.out.below HSZ.out
          obtain ⟨kz, hkz, hkzo⟩ := HJZ.out.1
          have HKZ := Lib.hid hkz
          have HKZO := Lib.hid hkzo
          have HMEM : Hid (p ∈ allPl) := mem_allPl HPO.out
          clear hkz hkzo HS
          go_wp2_with (at_mapUpdate; refine wpList_putM (S := KP) rfl (.tmp 63) (.tmp 64) (.tmp 65) (.inl rfl) bm allPl kz p true rfl rfl rfl HKZ.out HPO.out trivial HMEM.out allPl_small ?_; intro w7 hm7 hg7; have HM7 := Lib.hid hm7; have HG7 := Lib.hid hg7; clear hm7 hg7)
          refine NoPanic.normal ?_
          have HKF : Hid (KnM I R wl bm w7) := KnM.put (x := true) (by rw [HCN.out]; exact HFIN.out.symm) HM7.out HKZO.out
          have HJF : Hid (CJ I R wl bm w w7) := CJ.of_below HBE.out ⟨HKF.out, grown_tr HJZ.out.2 HG7.out⟩
          go_wp2_with fail
          go_ret
          exact ⟨by rw [(HFIN).out]; rfl, (HJF).out⟩
        · have d2 : decide ((j : Int) + 1 ≤ (ni : Int)) = false := by simp; omega
          have d2' : decide (j + 1 ≤ ni) = false := by simp; omega
          have d2'' : decide (j < ni) = false := by simp; omega
          clear hgo
          go_upto_region 12 with (fail)
          clear s0 hsl d2 d2' d2''
          refine wp_region_ord 6 [0, 1, 2, 3, 4, 5] [] [0, 1, 2, 3, 4, 5] [6] (fun w' => Below wr.heap.size wr w') (by kernel_rfl) (by kernel_rfl) ?_
          rintro Z hZ
          have HSZ : Hid (Below wr.heap.size wr Z) := by rw [hZ]; exact (Below.refl _ _).drew
          clear hZ
          refine ⟨HSZ.out, ?_⟩
          have HS := Lib.hid (fun (w' : World) (h : Below wr.heap.size wr w') => And.intro (HFR.out.below h).cells (HPR.out.below h).cells)
          iterate 6 (refine wpHead_cons (v := ?_) rfl rfl (fun w' hS => ?_) ?_; rotate_left; (focus ((try obtain ⟨⟨_, t0, t1, t2⟩, u0, u1, u2, u3, u4, u5, u6, u7⟩ := HS.out _ (hS rfl)); clear hS; go_simp; try with_reducible rfl; done)); (try simp only [Act.put, List.setIfInBounds_toArray, List.set_cons_zero, List.set_cons_succ]))
          refine wpHead_nil ?_
          refine wpTail_rest 6 rfl ?_
          simp only [List.drop_succ_cons, List.drop_zero]
          have HJZ : Hid (CJ I R wl bm E Z) := HJ.out.below HSZ.out
          obtain ⟨kz, hkz, hkzo⟩ := HJZ.out.1
          have HKZ := Lib.hid hkz
          have HKZO := Lib.hid hkzo
          have HMEM : Hid (p ∈ allPl) := mem_allPl HPO.out
          clear hkz hkzo HS
          go_wp2_with (at_mapUpdate; refine wpList_putM (S := KP) rfl (.tmp 63) (.tmp 64) (.tmp 65) (.inl rfl) bm allPl kz p cj rfl rfl rfl HKZ.out HPO.out trivial HMEM.out allPl_small ?_; intro w7 hm7 hg7; have HM7 := Lib.hid hm7; have HG7 := Lib.hid hg7; clear hm7 hg7)
          refine NoPanic.normal ?_
          have HKF : Hid (KnM I R wl bm w7) := KnM.put (x := cj) (by rw [HCN.out]; exact HFIN.out.symm) HM7.out HKZO.out
          have HJF : Hid (CJ I R wl bm w w7) := CJ.of_below HBE.out ⟨HKF.out, grown_tr HJZ.out.2 HG7.out⟩
          go_wp2_with fail
          go_ret
          exact ⟨by rw [(HFIN).out]; rfl, (HJF).out⟩
theorem can_any (HE : Hid (FE w₀ I R wl m beg fin Aw nw cw B bm)) : ∀ k, CanC w₀ I R wl m beg fin Aw nw cw B bm k
  | 0 => can_step HE 0 (fun k' h => by omega)
  | k + 1 => can_step HE (k + 1) (fun k' h => by
      have h : k = k' := by omega
      rw [← h]
      exact can_any HE k)
end
end Go.Proofs.Ytdijlakeonionaa
