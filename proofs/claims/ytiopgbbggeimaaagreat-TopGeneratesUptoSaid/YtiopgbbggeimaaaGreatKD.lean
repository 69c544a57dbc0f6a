/-
  analyze: fits.
-/
import Derived.Test.YtiopgbbggeimaaaGreatKB
namespace Go.Proofs.YtiopgbbggeimaaaGreat
open Go.ChangeShapes Go.WideShapes Go.ChangeAt Go.RowKit
theorem grown_of_below {w w' : World} {row : Option Nat} (hb : Below w.heap.size w w') : w.grownBy w' row := ⟨hb.os, hb.tape, hb.output, hb.size, fun k hk _ => hb.block k hk⟩
theorem grown_tr {a b c : World} {row : Option Nat} (h : a.grownBy b row) (k : b.grownBy c row) : a.grownBy c row :=
  ⟨k.os.trans h.os, k.tape.trans h.tape, k.output.trans h.output, Nat.le_trans h.size k.size, fun i hi hne => (k.block i (Nat.lt_of_lt_of_le hi h.size) hne).trans (h.block i hi hne)⟩
/-- fits: what it keeps (the map alone changes) -/
def FJ (G : PLang) (wl : List Int) (bm : Nat) (w w' : World) : Prop := TrM G wl bm w' ∧ w.grownBy w' (some bm)
theorem FJ.of_below {G : PLang} {wl : List Int} {bm : Nat} {w w1 w2 : World} (hb : Below w.heap.size w w1) (h : FJ G wl bm w1 w2) : FJ G wl bm w w2 := ⟨h.1, grown_tr (grown_of_below hb) h.2⟩
theorem lastF_len (I : List PPh) (Rs : List PRule) (l : List Int) : (lastF I Rs l).length ≤ l.length := lastK_len I Rs l _
set_option maxHeartbeats 8000000 in
set_option maxRecDepth 100000 in
theorem sfits_any (w0 : World) (s : Sch) (G : PLang) (wl : List Int) (B : Nat) (v : Value) (base : List Int) (w : World) (hE : SE w0 s G wl) (h0 : Below w0.heap.size w0 w) (hB : SrBlk w B s) (hT : TrM G wl s.bm w) (hv : RdI w v base) (hm : base ∈ basesL G.lex 4) (hs : ∀ y ∈ base, isB G.inv y = true) (hl : base.length ≤ 24) :
    Calls Tryz.prog 115 #[.pointer (some ⟨B, 0, none⟩), v] w fun e w' => e = .returned (.bool (fitsF G wl base)) ∧ FJ G wl s.bm w w' := by
  obtain ⟨r, hr⟩ : ∃ r, fitsF G wl base = r := ⟨_, rfl⟩
  rw [hr]
  have HR := Lib.hid hr
  have HE := Lib.hid hE
  have HB := Lib.hid hB
  have HB0 := Lib.hid h0
  have HS := Lib.hid hs
  have HL := Lib.hid hl
  have HV := Lib.hid hv
  obtain ⟨f, hf, hfo⟩ := hT
  have HF := Lib.hid hf
  have HFO := Lib.hid hfo
  have HMK : Hid (bsL base ∈ keysL G) := List.mem_map.2 ⟨base, hm, rfl⟩
  have HWF : Hid ((bsL base).length ≤ maxLen) := by rw [Hid, bsL, List.length_map]; refine Nat.le_trans hl (by simp [maxLen])
  obtain ⟨A, n, c, rfl, _, _, _, _⟩ := hv.op
  clear hr hE h0 hB hf hfo hv hm hs hl
  go_enter Tryz.func115, Tryz.ntmps115
  go_wp2_with fail
  refine (key_any _ base _ HV.out (fun x hx => HE.out.ok.byte (HS.out x hx)) (Nat.le_trans HL.out (by decide))).mono ?_
  rintro e w1 ⟨rfl, hb1⟩
  have HB1 := Lib.hid hb1
  have HSR := Lib.hid (HB.out.below hb1)
  have HF1 := Lib.hid (HF.out.below hb1)
  clear hb1
  have hlk : (Instr.lookup 161 (.map (some s.bm)) (.string (bs base)) true).run Tryz.prog w1 = .ok (.tuple #[.bool ((f (bsL base)).getD false), .bool (f (bsL base)).isSome]) w1 := HF1.out.look_ok (bsL base) HWF.out
  obtain ⟨ks, hks⟩ : ∃ ks, bs base = ks := ⟨_, rfl⟩
  have HKS := Lib.hid hks
  rw [hks] at hlk ⊢
  clear hks
  cases hfb : f (bsL base) with
  | some x =>
    have HX : Hid (r = x) := by rw [Hid, ← HR.out]; exact (HFO.out base x HS.out hfb).symm
    rw [hfb, Option.getD_some, Option.isSome_some] at hlk
    clear hfb
    obtain ⟨z0, z4, z6, z8, z9, z10, z11, z12, z13, zl⟩ := HSR.out.facts
    go_wp2_with fail
    go_ret
    exact ⟨by rw [HX.out]; rfl, ⟨f, HF1.out, HFO.out⟩, grown_of_below HB1.out⟩
  | none =>
    rw [hfb, Option.getD_none, Option.isSome_none] at hlk
    clear hfb
    obtain ⟨z0, z4, z6, z8, z9, z10, z11, z12, z13, zl⟩ := HSR.out.facts
    go_upto_region 5 with (fail)
    clear hlk z0 z4 z6 z8 z9 z10 z11 z12 z13 zl
    refine wp_region_ord 11 [0, 1, 2, 3, 4, 5, 6, 7, 8, 9, 10] [] [0, 1, 2, 3, 4, 5, 6, 7, 8, 9, 10] [11, 12] (fun w' => Below w1.heap.size w1 w') (by kernel_rfl) (by kernel_rfl) ?_
    rintro Z hZ
    have HSZ : Hid (Below w1.heap.size w1 Z) := by rw [hZ]; exact (Below.refl _ _).drew
    clear hZ
    refine ⟨HSZ.out, ?_⟩
    have HSH : Hid (∀ w' : World, Below w1.heap.size w1 w' → w'.cell? ⟨B, 0, none⟩ = some (.slice s.g.i.A s.g.i.n s.g.i.c) ∧ w'.cell? ⟨B, 4, none⟩ = some (.slice s.g.r.A s.g.r.n s.g.r.c) ∧ B < w'.heap.size) :=
      fun w' h => ⟨(HSR.out.below h).facts.1, (HSR.out.below h).facts.2.1, (HSR.out.below h).lt⟩
    iterate 11 (refine wpHead_cons (v := ?_) rfl rfl (fun w' hS => ?_) ?_; rotate_left; (focus ((try obtain ⟨s0, s1, s2⟩ := HSH.out _ (hS rfl)); clear hS; go_simp; try with_reducible rfl; done)); (try simp only [Act.put, List.setIfInBounds_toArray, List.set_cons_zero, List.set_cons_succ]))
    refine wpHead_nil ?_
    refine wpTail_cons rfl rfl (fun K hK => ?_)
    go_simp
    have HGZ := Lib.hid (HE.out.g.below (bchain HB0.out (bchain HB1.out HSZ.out)))
    refine (plast_any _ _ _ G.inv G.rules base _ HGZ.out.inv HGZ.out.r (HV.out.below (bchain HB1.out HSZ.out)) HE.out.ok.rs (Nat.le_trans HL.out (by decide)) (fun x hx => isB_nz (HS.out x hx))).mono ?_
    rintro e w2 ⟨⟨vl, rfl, hvl⟩, hb2⟩
    have HB2 := Lib.hid (bchain HSZ.out hb2)
    have HVL := Lib.hid hvl
    obtain ⟨Al, nl, cl, rfl, _, _, HNL, _⟩ := hvl.op
    refine hK.out _ _ (fun _ => HB2.out) ?_
    clear hK K hb2 HSH hvl HGZ
    (try simp only [Act.put, List.setIfInBounds_toArray, List.set_cons_zero, List.set_cons_succ])
    refine wpTail_rest 12 rfl ?_
    simp only [List.drop_succ_cons, List.drop_zero]
    have HSR2 := Lib.hid (HSR.out.below HB2.out)
    have HF2 := Lib.hid (HF1.out.below HB2.out)
    have HB02 := Lib.hid (bchain HB0.out (bchain HB1.out HB2.out))
    go_wp2_with fail
    refine NoPanic.normal ?_
    go_upto_region 6 with (fail)
    obtain ⟨z0, z4, z6, z8, z9, z10, z11, z12, z13, zl⟩ := HSR2.out.facts
    go_cut [9] (fun s9 wx => s9 = .bool r ∧ Hid (Below w2.heap.size w2 wx))
    case first =>
      by_cases hnl : nl = 0
      · have HRF : Hid (r = false) := by rw [Hid, ← HR.out, fitsF, decide_eq_false (by rw [HNL.out, hnl]; decide), Bool.false_and]
        subst hnl
        go_wp2_with fail
        go_meet
        exact ⟨by rw [HRF.out], Below.refl _ _⟩
      · have d0 : decide ((0 : Int) < (nl : Int)) = true := by simp; omega
        have d0' : decide (0 < nl) = true := by simp; omega
        have HRF : Hid (sameB (lastF G.inv G.rules base) wl = r) := by rw [Hid, ← HR.out, fitsF, decide_eq_true (by rw [HNL.out]; omega), Bool.true_and]
        clear hnl
        go_wp2_with fail
        refine (aequal_any _ _ (lastF G.inv G.rules base) wl _ HVL.out (HE.out.ws.below HB02.out)).mono ?_
        rintro e w3 ⟨rfl, hb3⟩
        rw [HRF.out]
        have HB3 := Lib.hid hb3
        clear hb3
        go_wp2_with fail
        go_meet
        exact ⟨rfl, HB3.out⟩
    case rest =>
      obtain ⟨rfl, HB3⟩ := hcut
      have HSR3 := Lib.hid (HSR2.out.below HB3.out)
      have HF3 := Lib.hid (HF2.out.below HB3.out)
      clear z0 z4 z6 z8 z9 z10 z11 z12 z13 zl
      obtain ⟨z0, z4, z6, z8, z9, z10, z11, z12, z13, zl⟩ := HSR3.out.facts
      have HKLN : Hid ((keysL G).length < maxLen) := keysL_len HE.out.ok
      have HKE : Hid (Value.string ks = SK.mkK (bsL base)) := by rw [Hid, ← HKS.out]; rfl
      go_wp2_with (at_mapUpdate; refine wpList_putM (S := SK) rfl (.tmp 49) (.tmp 50) (.tmp 51) (.inl rfl) s.bm (keysL G) f (bsL base) r rfl HKE.out rfl HF3.out HWF.out trivial HMK.out HKLN.out ?_; intro w7 hm7 hg7; have HM7 := Lib.hid hm7; have HG7 := Lib.hid hg7; clear hm7 hg7)
      go_ret
      exact ⟨rfl, ⟨_, HM7.out, TrOk.put HE.out.ok HFO.out HS.out HR.out.symm⟩, grown_tr (grown_of_below (bchain HB1.out (bchain HB2.out HB3.out))) HG7.out⟩
end Go.Proofs.YtiopgbbggeimaaaGreat
