/-
  Outputs of fst.
-/
import Derived.Test.YtmejihlplbeekaaG8
import Derived.Test.YtmejihlplbeekaaL1
namespace Go.Proofs.Ytmejihlplbeekaa
open Go.ChangeShapes Go.WideShapes Go.ChangeAt Go.RowKit
theorem walk_any (w₀ : World) (B S g bl : Nat) (va vf vin : Value) (M : Nat) (F : PFst) (xs : List Int) (lf : Plc → Option Int) (he : Env w₀ B S g va vf vin F xs) (hlf : MOk F xs (boxP S xs.length).length lf) (hM : M ≤ 900000) (k : Nat) :
    WalkC w₀ B S g bl va vf vin (M : Int) M F xs lf k := by
  induction k with
  | zero => exact walk_step w₀ B S g bl va vf vin M F xs lf he hlf hM 0 (fun k' h => by cases h)
  | succ k ih => exact walk_step w₀ B S g bl va vf vin M F xs lf he hlf hM (k + 1) (fun k' h => by cases h; exact ih)
def startS : Plc → Bool := fun c => decide (c = ⟨0, 0⟩)
/-- the outputs of at most n elements, in order -/
noncomputable def allW (F : PFst) (xs : List Int) (n : Nat) : List (List Int) := enumW (symsX F.arcs) n (AccS F xs startS)
noncomputable def outF (F : PFst) (xs : List Int) (n m : Int) : List (List Int) × Bool :=
  if n < 0 ∨ 24 < n ∨ m < 0 then ([], false) else if plainB xs = false then ([], true) else if (allW F xs n.toNat).length ≤ m.toNat then (allW F xs n.toNat, true) else ([], false)
theorem startS_box {F : PFst} {xs : List Int} (hR : Right F) : BoxP F xs startS := fun c hc => by
  have h : c = ⟨0, 0⟩ := by simpa [startS] using hc
  subst h
  have := hR.1
  exact ⟨by simp, by simp; omega, by simp, by simp⟩
theorem startS_put : put (fun _ => none : Plc → Option Bool) ⟨0, 0⟩ true = setF startS := by
  rw [setF_none, put_setF]
  congr 1
  funext d
  simp [addS, startS]
structure FinOk (F : PFst) : Prop where
  right : Right F
  good : GoodA F
  ord : F.final.Pairwise (· < ·)
  st : F.states ≤ 4096
  al : F.arcs.length ≤ 262144
  outB : ∀ a, a ∈ F.arcs → a.out ≤ 1099511627776
theorem rdL_nil (w : World) : RdL w (.slice none 0 0) [] := ⟨[], ⟨none, 0, rfl, by simp, by decide, rfl, fun h => absurd h (Nat.lt_irrefl 0)⟩, rfl, fun i u l h => by simp at h⟩
set_option maxHeartbeats 4000000 in
set_option maxRecDepth 100000 in
theorem foutputs_any (v vin : Value) (F : PFst) (xs : List Int) (n m : Int) (w : World) (hv : RdF w v F) (hx : RdI w vin xs) (hF : FinOk F) (hX : xs.length ≤ 1000) (hm : m ≤ 900000) :
    Calls Try.prog 19 #[v, vin, .int .i64 n, .int .i64 m] w fun e w' => (∃ vl, e = .returned (.tuple #[vl, .bool (outF F xs n m).2]) ∧ RdL w' vl (outF F xs n m).1) ∧ Below w.heap.size w w' := by
  have HV := Lib.hid hv
  obtain ⟨va, vf, rfl, ha, hf⟩ := hv
  obtain ⟨A, na, c, rfl, h1, h2, hn, hr⟩ := ha.op
  obtain ⟨A', n', c', rfl, h1', h2', hn', hr'⟩ := hf.op
  obtain ⟨Ax, nx, cx, rfl, h1x, h2x, hnx, hrx⟩ := hx.op
  obtain rfl := hnx.out
  have HA := Lib.hid ha
  have HFI := Lib.hid hf
  have HX := Lib.hid hx
  have HF := Lib.hid hF
  clear hf ha hx hr hr' hrx hnx
  by_cases hbad : n < 0 ∨ 24 < n ∨ m < 0
  · have HO : Hid (outF F xs n m = ([], false)) := by rw [Hid, outF, if_pos hbad]
    rw [HO.out]
    by_cases c1 : n < 0
    · have d1 : decide (n < 0) = true := by simpa using c1
      clear c1 hbad
      go_enter Try.func19, Try.ntmps19
      go_wp2_with fail
      go_ret2
      exact ⟨⟨_, rfl, rdL_nil _⟩, by repeat (first | assumption | exact Below.refl _ _ | refine Below.alloc ?_ (by first | omega | (simp; done) | (simp; omega)) _ | refine Below.drew ?_ | refine below_drewN ?_ _ | refine Below.setCell ?_ (by first | omega | (simp; done) | (simp; omega)) _)⟩
    have d1 : decide (n < 0) = false := by simpa using c1
    by_cases c2 : 24 < n
    · have d2 : decide (24 < n) = true := by simpa using c2
      clear c1 c2 hbad
      go_enter Try.func19, Try.ntmps19
      go_wp2_with fail
      go_ret2
      exact ⟨⟨_, rfl, rdL_nil _⟩, by repeat (first | assumption | exact Below.refl _ _ | refine Below.alloc ?_ (by first | omega | (simp; done) | (simp; omega)) _ | refine Below.drew ?_ | refine below_drewN ?_ _ | refine Below.setCell ?_ (by first | omega | (simp; done) | (simp; omega)) _)⟩
    have d2 : decide (24 < n) = false := by simpa using c2
    have d3 : decide (m < 0) = true := by simp; omega
    clear c1 c2 hbad
    go_enter Try.func19, Try.ntmps19
    go_wp2_with fail
    go_ret2
    exact ⟨⟨_, rfl, rdL_nil _⟩, by repeat (first | assumption | exact Below.refl _ _ | refine Below.alloc ?_ (by first | omega | (simp; done) | (simp; omega)) _ | refine Below.drew ?_ | refine below_drewN ?_ _ | refine Below.setCell ?_ (by first | omega | (simp; done) | (simp; omega)) _)⟩
  obtain ⟨k, rfl⟩ : ∃ k : Nat, n = (k : Int) := ⟨n.toNat, by omega⟩
  obtain ⟨M, rfl⟩ : ∃ M : Nat, m = (M : Int) := ⟨m.toNat, by omega⟩
  have hk : k ≤ 24 := by omega
  have d1 : decide ((k : Int) < 0) = false := by simp
  have d2 : decide (24 < (k : Int)) = false := by simp; omega
  have d3 : decide ((M : Int) < 0) = false := by simp
  have HOUT : Hid (outF F xs k M = if plainB xs = false then ([], true) else if (allW F xs k).length ≤ M then (allW F xs k, true) else ([], false)) := by
    rw [Hid, outF, if_neg hbad]
    simp only [Int.toNat_natCast]
  obtain ⟨o, ho⟩ : ∃ o, outF F xs k M = o := ⟨_, rfl⟩
  rw [ho] at HOUT ⊢
  clear hbad ho
  cases hpx : plainB xs
  · have HO1 : Hid (o = ([], true)) := by rw [Hid, HOUT.out, if_pos hpx]
    go_enter Try.func19, Try.ntmps19
    go_wp2_with fail
    refine (positive_any _ xs _ (Rd.alloc HX.out _)).mono ?_
    rintro e w1 ⟨rfl, rfl⟩
    rw [hpx]
    go_wp2_with fail
    go_ret2
    rw [HO1.out]
    exact ⟨⟨_, rfl, rdL_nil _⟩, by repeat (first | assumption | exact Below.refl _ _ | refine Below.alloc ?_ (by first | omega | (simp; done) | (simp; omega)) _ | refine Below.drew ?_ | refine below_drewN ?_ _ | refine Below.setCell ?_ (by first | omega | (simp; done) | (simp; omega)) _)⟩
  have HOUT2 : Hid (o = if (allW F xs k).length ≤ M then (allW F xs k, true) else ([], false)) := by rw [Hid, HOUT.out, if_neg (by rw [hpx]; simp)]
  clear HOUT
  have HOUT := HOUT2
  clear HOUT2
  have hmm := @run_makeMap Try.prog
  go_enter Try.func19, Try.ntmps19
  go_wp2_with fail
  refine (positive_any _ xs _ (Rd.alloc HX.out _)).mono ?_
  rintro e w1 ⟨rfl, rfl⟩
  rw [hpx]
  clear hpx
  go_wp2_with fail
  generalize hW : World.alloc w _ = W
  have HP : Hid (FBlk W w.heap.size (.int .i64 F.states) (.slice A na c) (.slice A' n' c')) := by rw [← hW]; exact heap_alloc_new w _
  have HBW : Hid (Below w.heap.size w W) := by rw [← hW]; repeat (first | assumption | exact Below.refl _ _ | refine Below.alloc ?_ (by first | omega | (simp; done) | (simp; omega)) _ | refine Below.drew ?_ | refine below_drewN ?_ _ | refine Below.setCell ?_ (by first | omega | (simp; done) | (simp; omega)) _)
  clear hW
  refine wp_region_ord 5 [0, 1, 2, 3, 4] [] [0, 1, 3, 4] [2, 5, 6, 7] (fun w' => Below W.heap.size W w') (by kernel_rfl) (by kernel_rfl) ?_
  rintro D hD
  have HSD : Hid (Below W.heap.size W D) := by rw [hD]; exact (Below.refl _ _).drew
  clear hD
  refine ⟨HSD.out, ?_⟩
  have HS : Hid (∀ w' : World, Below W.heap.size W w' → w'.cell? ⟨w.heap.size, 0, none⟩ = some (.int .i64 F.states) ∧ w'.cell? ⟨w.heap.size, 1, none⟩ = some (.slice A na c) ∧ w'.cell? ⟨w.heap.size, 2, none⟩ = some (.slice A' n' c')) := by
    intro w' h
    obtain ⟨f0, f1, f2, _⟩ := (HP.out.below h).facts
    exact ⟨f0, f1, f2⟩
  iterate 4 (refine wpHead_cons (v := ?_) rfl rfl (fun w' hS => ?_) ?_; rotate_left; (focus ((try obtain ⟨s0, s1, s2⟩ := HS.out _ (hS rfl)); clear hS; go_simp; try with_reducible rfl; done)); (try simp only [Act.put, List.setIfInBounds_toArray, List.set_cons_zero, List.set_cons_succ]))
  refine wpHead_nil ?_
  refine wpTail_cons rfl rfl (fun K hK => ?_)
  go_simp
  refine (outgoing_any _ F _ ((HV.out.below HBW.out).below HSD.out) HF.out.right HF.out.st HF.out.al).mono ?_
  rintro e w2 ⟨⟨g, S, rfl, hSN, hT⟩, hb⟩
  refine hK.out _ _ (fun _ => bchain HSD.out hb) ?_
  clear hK K
  (try simp only [Act.put, List.setIfInBounds_toArray, List.set_cons_zero, List.set_cons_succ])
  have HB2 : Hid (Below w.heap.size w w2) := bchain HBW.out (bchain HSD.out hb)
  have HT := Lib.hid hT
  have HSN := Lib.hid hSN
  clear hb hT HS HSD HBW HP
  refine wpTail_rest 5 rfl ?_
  simp only [List.drop_succ_cons, List.drop_zero]
  go_wp2_with fail
  refine NoPanic.normal ?_
  generalize hX0 : World.alloc w2 _ = X
  obtain ⟨B, hB0⟩ : ∃ B, w2.heap.size = B := ⟨_, rfl⟩
  have HB0 := Lib.hid hB0
  have HK : Hid (FinB X B S (.slice A na c) (.slice A' n' c') g (.slice Ax xs.length cx) (.map none) M (.slice none 0 0)) := by
    rw [← hX0, ← hB0, Hid, FinB, ← hSN]
    exact heap_alloc_new w2 _
  have HBX : Hid (Below B w2 X) := by rw [← hX0, ← hB0]; exact (Below.refl _ _).alloc (Nat.le_refl _) _
  have HENV : Hid (Env w2 B S g (.slice A na c) (.slice A' n' c') (.slice Ax xs.length cx) F xs) := ⟨hB0, HFI.out.below HB2.out, HX.out.below HB2.out, HT.out, HF.out.good, HF.out.right.2.2, hSN, by have := HF.out.st; omega, hX, HF.out.al, HF.out.outB⟩
  have HA2 := Lib.hid (HA.out.below HB2.out)
  rw [hB0]
  clear hX0 hB0 hSN
  go_wp2_with fail
  refine (measure_any w2 _ B S g _ _ _ M F xs HENV.out.sz HBX.out HA2.out HENV.out.fin HENV.out.inp HENV.out.good HENV.out.finB HENV.out.st HENV.out.s2 hX HK.out).mono ?_
  rintro e w3 ⟨rfl, lf, bl, hlf, hml, hk3, hbl, hb3⟩
  have HLF := Lib.hid hlf
  have HML := Lib.hid hml
  have HK3 := Lib.hid hk3
  have HBL := Lib.hid hbl
  have HB3 : Hid (Below B w2 w3) := HBX.out.trans hb3
  clear hlf hml hk3 hbl hb3 HK HBX
  obtain ⟨bN, hbN⟩ : ∃ bN, w3.heap.size = bN := ⟨_, rfl⟩
  have HBN : Hid (B < bN ∧ bl < bN) := by have := HML.out.lt; have := HBL.out; unfold Hid; omega
  have HM0 : Hid (OwnM MB (w3.alloc (.map #[] 0)) bN (boxP S xs.length) (fun _ => none)) := OwnM.made MB w3 _ bN hbN
  have hbox0 : PBox F xs ⟨0, 0⟩ := startS_box (xs := xs) HF.out.right _ (by simp [startS])
  have HBOX0 := Lib.hid hbox0
  have HLEN : Hid ((boxP S xs.length).length < maxLen) := by
    have h := boxP_len S xs.length
    have h2 : S * (xs.length + 1) ≤ 4096 * 1001 := Nat.mul_le_mul HENV.out.s2 (by omega)
    simp only [Hid, maxLen]
    omega
  have HBN0 := Lib.hid hbN
  clear hbox0
  go_wp2_with (first | (refine wpList_putM (S := MB) rfl (.tmp 34) (.tmp 35) (.const (.bool true)) (.inr rfl) bN (boxP S xs.length) (fun _ => none) ⟨0, 0⟩ true rfl rfl rfl HM0.out ⟨inI0, inI0⟩ trivial (mem_boxP HENV.out.st HBOX0.out) HLEN.out ?_; intro w4 hm4 hg4) | fail)
  rw [startS_put] at hm4
  have HM4 := Lib.hid hm4
  have HB34 : Hid (Below w3.heap.size w3 w4) := ((Below.refl _ _).alloc (Nat.le_refl _) _).grown hg4 (by simp) (fun j hj => by cases hj; have := HBN0.out; omega)
  have HK4 := Lib.hid (HK3.out.below HB34.out)
  have HML4 := Lib.hid (HML.out.below HB34.out)
  have HB4 : Hid (Below B w2 w4) := HB3.out.trans (HB34.out.mono (by have := HBN.out; have := HBN0.out; omega))
  clear hm4 hg4 HM0 hmm
  refine (walk_any w2 B S g bl _ _ _ M F xs lf HENV.out HLF.out (by omega) k w4 bN (.slice none 0 0) (.slice none 0 0) [] [] startS HB4.out HK4.out HML4.out HBL.out (by have := HBN.out; omega) HM4.out (startS_box HF.out.right) HBN.out.1 (World.ownsRow_nil _ _ _ _) (by simp; omega) (OwnL.nil _ _) (Nat.zero_le _)).mono ?_
  rintro e w5 ⟨hpost, hfr⟩
  have HB5 : Hid (Below w.heap.size w w5) := bchain HB2.out (by rw [HB0.out]; exact HB4.out.trans (hfr.below (by have := HK4.out.lt; omega) (fun j hj he => by have := HBN.out; omega)))
  clear hfr
  have hE : (enumW (symsX F.arcs) k (AccS F xs startS)).map (([] : List Int) ++ ·) = allW F xs k := by simp [allW]
  rw [hE] at hpost
  clear hE
  simp only [WPost, List.length_nil, Nat.zero_add, List.nil_append] at hpost
  rcases hpost with ⟨hle, rfl, fv, hk5, hl5⟩ | ⟨hlt, rfl⟩
  · have HLE := Lib.hid hle
    have HL5 := Lib.hid hl5.rd
    obtain ⟨_, _, _, rfl, _, _, _, _⟩ := hl5.rd.op
    obtain ⟨k0, k1, k2, k3, k4, k5, k6, k7⟩ := hk5.cells
    have hbl5 := hk5.lt
    clear hle hl5 hk5
    go_wp2_with fail
    go_ret2
    rw [show o = (allW F xs k, true) from by rw [HOUT.out, if_pos HLE.out]]
    exact ⟨⟨_, rfl, HL5.out⟩, HB5.out⟩
  · have HLT : Hid (¬ (allW F xs k).length ≤ M) := by unfold Hid; omega
    clear hlt
    go_wp2_with fail
    go_ret2
    rw [show o = ([], false) from by rw [HOUT.out, if_neg HLT.out]]
    exact ⟨⟨_, rfl, rdL_nil _⟩, HB5.out⟩
end Go.Proofs.Ytmejihlplbeekaa
