/-
  The finder of fst: measure.
-/
import Derived.Test.YtmejihlplbeekaaGP2
namespace Go.Proofs.Ytmejihlplbeekaa
open Go.ChangeShapes Go.WideShapes Go.ChangeAt Go.RowKit
theorem wp_putM {P : Program} {α β : Type} [DecidableEq α] {S : MS P α β} {w : World} {o : Oper} {a : Act} {K : Act → World → Prop} {Q : Exit → Act → World → Prop} (m x v : Operand)
    (hop : o.op = Op.mapUpdate S.mt m x v) (b : Nat) (L : List α) (f : α → Option β) (c : α) (y : β) (hm : a.eval m = .map (some b)) (hx : a.eval x = S.mkK c) (hv : a.eval v = S.mkV y)
    (h : OwnM S w b L f) (hc : S.wf c) (hy : S.wfV y) (hL : c ∈ L) (hn : L.length < maxLen) (hK : ∀ w', OwnM S w' b L (put f c y) → w.grownBy w' (some b) → K (a.put o.dst undef) w') : o.wp P a w K Q := by
  obtain ⟨w', hrun, r1, r2⟩ := h.put c hc y hy hL hn
  unfold Oper.wp
  simp [execOp, hop, hm, hx, hv, hrun, Result.andThen]
  exact hK w' r1 r2
def FinB (w : World) (B S : Nat) (va vf : Value) (g : Nat) (vin lv : Value) (m : Int) (fv : Value) : Prop :=
  w.heap[B]? = some (.cells #[.int .i64 (S : Int), va, vf, .slice (some ⟨g, 0, none⟩) S S, vin, lv, .int .i64 m, fv] 61 (0, 0))
section
variable {w w' : World} {B S g : Nat} {va vf vin lv fv : Value} {m : Int}
theorem FinB.lt (h : FinB w B S va vf g vin lv m fv) : B < w.heap.size := (Array.getElem?_eq_some_iff.1 h).1
theorem FinB.same (h : FinB w B S va vf g vin lv m fv) (hb : w'.heap[B]? = w.heap[B]?) : FinB w' B S va vf g vin lv m fv := hb.trans h
theorem FinB.below (h : FinB w B S va vf g vin lv m fv) (hb : Below w.heap.size w w') : FinB w' B S va vf g vin lv m fv := (hb.block B h.lt).trans h
theorem FinB.cells (h : FinB w B S va vf g vin lv m fv) : w.cell? ⟨B, 0, none⟩ = some (.int .i64 (S : Int)) ∧ w.cell? ⟨B, 1, none⟩ = some va ∧ w.cell? ⟨B, 2, none⟩ = some vf ∧ w.cell? ⟨B, 3, none⟩ = some (.slice (some ⟨g, 0, none⟩) S S) ∧
    w.cell? ⟨B, 4, none⟩ = some vin ∧ w.cell? ⟨B, 5, none⟩ = some lv ∧ w.cell? ⟨B, 6, none⟩ = some (.int .i64 m) ∧ w.cell? ⟨B, 7, none⟩ = some fv := by
  refine ⟨?_, ?_, ?_, ?_, ?_, ?_, ?_, ?_⟩ <;> rw [cell_of_row w B _ _ _ (0, 0) h] <;> rfl
theorem FinB.free (h : FinB w B S va vf g vin lv m fv) (j : Nat) : w.frozen? ⟨B, j, none⟩ = false := by
  unfold FinB at h
  simp [World.frozen?, h]
theorem FinB.set5 (h : FinB w B S va vf g vin lv m fv) (u : Value) : FinB (w.setCell ⟨B, 5, none⟩ u) B S va vf g vin u m fv := by
  unfold FinB at h ⊢
  simp [World.setCell, Array.getElem?_modify, h]
theorem FinB.set7 (h : FinB w B S va vf g vin lv m fv) (u : Value) : FinB (w.setCell ⟨B, 7, none⟩ u) B S va vf g vin lv m u := by
  unfold FinB at h ⊢
  simp [World.setCell, Array.getElem?_modify, h]
end
theorem OwnM.ne {P : Program} {α β : Type} {S : MS P α β} {w : World} {b : Nat} {L : List α} {f : α → Option β} (h : OwnM S w b L f) {k : Nat} {cs : Array Value} {t : TypeId} {mm : Nat × Nat} (hk : w.heap[k]? = some (.cells cs t mm)) : k ≠ b := by
  obtain ⟨es, cl, hm⟩ := h.block
  rintro rfl
  rw [hk] at hm
  cases hm
theorem lfin_zero (n : Nat) : lfin n [] = fun _ => none := by funext c; simp [lfin]
theorem at_of_drop {α : Type} {l r : List α} {x : α} {j : Nat} (h : l.drop j = x :: r) : l[j]? = some x := by
  have := congrArg (fun t => t[0]?) h
  simpa using this
theorem take_of_drop {α : Type} {l r : List α} {x : α} {j : Nat} (h : l.drop j = x :: r) : l.take (j + 1) = l.take j ++ [x] := by
  rw [List.take_add_one, at_of_drop h]; rfl
set_option maxHeartbeats 4000000 in
set_option maxRecDepth 100000 in
theorem measure_any (w₀ w : World) (B S g : Nat) (va vf vin : Value) (m : Int) (F : PFst) (xs : List Int) (h0 : w₀.heap.size = B) (hB : Below B w₀ w) (ha : RdA w₀ va F.arcs) (hf : RdI w₀ vf F.final) (hx : RdI w₀ vin xs)
    (hF : GoodA F) (hfin : ∀ q, q ∈ F.final → 0 ≤ q ∧ q < F.states) (hS : F.states = (S : Int)) (hS2 : S ≤ 4096) (hX : xs.length ≤ 1000) (hk : FinB w B S va vf g vin (.map none) m (.slice none 0 0)) :
    Calls Try.prog 40 #[.pointer (some ⟨B, 0, none⟩)] w fun e w' => e = .returned (.tuple #[]) ∧ ∃ lf bl, MOk F xs (boxP S xs.length).length lf ∧ OwnM MI w' bl (boxP S xs.length) lf ∧ FinB w' B S va vf g vin (.map (some bl)) m (.slice none 0 0) ∧ B < bl ∧ Below B w w' := by
  obtain ⟨A, n, c, rfl, h1, h2, hn, hr⟩ := ha.op
  obtain ⟨A', n', c', rfl, h1', h2', hn', hr'⟩ := hf.op
  obtain ⟨Ax, nx, cx, rfl, h1x, h2x, hnx, hrx⟩ := hx.op
  have HB0 := Lib.hid hB
  have H0 := Lib.hid h0
  have HX := Lib.hid hx
  have HF := Lib.hid hF
  have HFI := Lib.hid hfin
  have HS := Lib.hid hS
  have HK := Lib.hid hk
  obtain rfl := hnx.out
  clear hnx
  have hBl := hk.lt
  obtain ⟨k0, k1, k2, k3, k4, k5, k6, k7⟩ := hk.cells
  have f5 := hk.free 5
  clear hB h0 ha hf hx hF hfin hS hk
  have HBX : Hid ((boxP S xs.length).length < maxLen) := by
    have h := boxP_len S xs.length
    have h2 : S * (xs.length + 1) ≤ 4096 * 1001 := Nat.mul_le_mul (by omega) (by omega)
    simp only [Hid, maxLen]
    omega
  have HBX4 : Hid ((boxP S xs.length).length ≤ 4100096) := by
    have h := boxP_len S xs.length
    have h2 : S * (xs.length + 1) ≤ 4096 * 1001 := Nat.mul_le_mul (by omega) (by omega)
    simp only [Hid]
    omega
  have hmm := @run_makeMap Try.prog
  have HSn := HS
  clear HS
  go_enter Try.func40, Try.ntmps40
  go_upto_region 1 with (fail)
  clear hmm
  generalize hM : w.heap.size = bl
  have hBbl : B < bl := by omega
  generalize hW : World.alloc _ _ = W
  have HKW : Hid (FinB W B S (.slice A n c) (.slice A' n' c') g (.slice Ax xs.length cx) (.map (some bl)) m (.slice none 0 0)) := by
    rw [← hW]; exact (HK.out.set5 _).below ((Below.refl _ _).alloc (Nat.le_refl _) _)
  have HOW : Hid (OwnM MI W bl (boxP S xs.length) (lfin xs.length [])) := by
    rw [← hW, lfin_zero]
    exact OwnM.made MI _ _ bl (by simpa using hM)
  have HBW : Hid (Below B w W) := by rw [← hW]; exact ((Below.refl _ _).setCell (p := ⟨B, 5, none⟩) (Nat.le_refl _) _).alloc (by simp; omega) _
  clear hW k0 k1 k2 k3 k4 k5 k6 k7 f5 HK hM
  have HBL := Lib.hid hBbl
  clear hBbl
  obtain ⟨k0, k1, k2, k3, k4, k5, k6, k7⟩ := HKW.out.cells
  go_wp2_with fail
  clear k0 k1 k2 k3 k4 k5 k6 k7
  go_loopw [25] (fun i wr => ∃ k : Nat, k ≤ n' ∧ i = .int .i64 k ∧ Hid (FinB wr B S (.slice A n c) (.slice A' n' c') g (.slice Ax xs.length cx) (.map (some bl)) m (.slice none 0 0)) ∧ Hid (OwnM MI wr bl (boxP S xs.length) (lfin xs.length (F.final.take k))) ∧ Hid (Below B w wr)) (fun i _ => n' - (intOf i).toNat)
  case atStart => exact ⟨0, Nat.zero_le _, rfl, HKW.out, HOW.out, HBW.out⟩
  case round =>
    obtain ⟨k, hk, rfl, HKR, HOR, HBR⟩ := hrel
    by_cases hlt : k < n'
    · obtain ⟨b, off, x, rfl, hbl, hd, e0⟩ := (hr'.out k hlt).below (by rw [H0.out]; exact HB0.out.trans HBR.out)
      go_wp2_with fail
      clear e0
      obtain ⟨x0, x1⟩ := HFI.out x (List.mem_of_mem_drop (by rw [hd.out]; exact List.mem_cons_self))
      have HPB : Hid (PBox F xs ⟨x, xs.length⟩) := ⟨x0, x1, by simp, by simp⟩
      have HTK : Hid (F.final.take (k + 1) = F.final.take k ++ [x]) := take_of_drop hd.out
      clear x0 x1
      refine wp_region_ord 11 [0, 1, 2, 3, 4, 5, 6, 7, 8, 9, 10] [] [0, 1, 2, 3, 4, 5, 6, 7, 8, 9, 10] [11] (fun w' => w'.heap[B]? = wr.heap[B]?) (by kernel_rfl) (by kernel_rfl) ?_
      rintro D hD
      have HKD : Hid (FinB D B S (.slice A n c) (.slice (some ⟨b, off, none⟩) n' c') g (.slice Ax xs.length cx) (.map (some bl)) m (.slice none 0 0)) := by rw [hD]; exact HKR.out.same rfl
      have HOD : Hid (OwnM MI D bl (boxP S xs.length) (lfin xs.length (F.final.take k))) := by rw [hD]; exact HOR.out.same rfl
      have HBD : Hid (Below B w D) := by rw [hD]; exact HBR.out.drew
      have HDS : Hid (D.heap[B]? = wr.heap[B]?) := by rw [hD]; rfl
      clear hD
      refine ⟨HDS.out, ?_⟩
      have HSS : Hid (∀ w' : World, w'.heap[B]? = wr.heap[B]? → w'.cell? ⟨B, 4, none⟩ = some (.slice Ax xs.length cx) ∧ w'.cell? ⟨B, 5, none⟩ = some (.map (some bl))) := by
        intro w' h
        obtain ⟨_, _, _, _, h4, h5, _, _⟩ := (HKR.out.same h).cells
        exact ⟨h4, h5⟩
      have HS2 := HSS
      clear HSS
      have HS := HS2
      iterate 11 (refine wpHead_cons (v := ?_) rfl rfl (fun w' hS => ?_) ?_; rotate_left; (focus ((try obtain ⟨s4, s5⟩ := HS.out _ (hS rfl)); clear hS; go_simp; try with_reducible rfl; done)); (try simp only [Act.put, List.setIfInBounds_toArray, List.set_cons_zero, List.set_cons_succ]))
      refine wpHead_nil ?_
      refine wpTail_cons rfl rfl (fun K hK => ?_)
      refine wp_putM (S := MI) (.tmp 32) (.tmp 39) (.const (.int .i64 0)) rfl bl (boxP S xs.length) (lfin xs.length (F.final.take k)) ⟨x, xs.length⟩ 0 rfl rfl rfl HOD.out (HPB.out.wf (by rw [HSn.out]; omega) (by omega)) inI0 (mem_boxP HSn.out HPB.out) HBX.out ?_
      intro w4 hm4 hg4
      have HB4 : Hid (w4.heap[B]? = D.heap[B]?) := hg4.block B HKD.out.lt (by have := HBL.out; simp; omega)
      refine hK.out _ _ (fun _ => HB4.out.trans HDS.out) ?_
      clear hK K
      have HM4 : Hid (OwnM MI w4 bl (boxP S xs.length) (lfin xs.length (F.final.take (k + 1)))) := by rw [HTK.out, ← lfin_snoc]; exact hm4
      have HW4 : Hid (Below B w w4) := HBD.out.grown hg4 (by have := HBD.out.size; omega) (fun j hj => by cases hj; have := HBL.out; omega)
      clear hm4 hg4
      refine wpTail_nil ?_
      refine NoPanic.normal ?_
      go_wp2_with fail
      go_roundw
      case rel => exact ⟨k + 1, by omega, by go_num, HKD.out.same HB4.out, HM4.out, HW4.out⟩
      case measure => simp [intOf]; omega
    · have HFIN : Hid (OwnM MI wr bl (boxP S xs.length) (lfin xs.length F.final)) := by
        have h := HOR.out
        rwa [List.take_of_length_le (by rw [hn'.out]; omega)] at h
      have HMI : Hid (MInv F xs (boxP S xs.length) (lfin xs.length F.final)) := MInv.start (fun c hc => mem_boxP HSn.out hc) HFI.out
      obtain ⟨wo, rfl⟩ : ∃ wo : World, wo = wr := ⟨_, rfl⟩
      have HKO := HKR
      have HBO := HBR
      clear HOR HKR HBR
      go_wp2_with fail
      go_loopg [4] (mw (lfin xs.length F.final) (boxP S xs.length) + 1) (fun gk v4 wr => ∃ (more : Bool) (lf : Plc → Option Int), v4 = .bool more ∧ gk = (if more then mw lf (boxP S xs.length) + 1 else 0) ∧ Hid (FinB wr B S (.slice A n c) (.slice A' n' c') g (.slice Ax xs.length cx) (.map (some bl)) m (.slice none 0 0)) ∧ Hid (OwnM MI wr bl (boxP S xs.length) lf) ∧
        Hid (MInv F xs (boxP S xs.length) lf) ∧ Hid (more = false → ∀ a c, a ∈ F.arcs → PBox F xs c → c.q = a.fr → RelaxedAt xs lf a c) ∧ Hid (Below B w wr))
      case atStart => exact ⟨true, _, rfl, rfl, HKO.out, HFIN.out, HMI.out, (fun h => by cases h), HBO.out⟩
      case round =>
        obtain ⟨more, lf0, rfl, hgk, HKR, HOR, HMI, HRX, HBR⟩ := hrel
        have HGK := Lib.hid hgk
        clear hgk
        cases more
        · go_wp2_with fail
          go_end0
          exact ⟨rfl, lf0, HMI.out.done HF.out (HRX.out (by simp)), bl, HOR.out, HKR.out, HBL.out, HBR.out⟩
        · obtain ⟨k0, k1, k2, k3, k4, k5, k6, k7⟩ := HKR.out.cells
          go_wp2_with fail
          clear k0 k1 k2 k3 k4 k5 k6 k7
          obtain ⟨wo2, rfl⟩ : ∃ wo : World, wo = wr := ⟨_, rfl⟩
          have HKO2 := HKR
          have HBO2 := HBR
          have HMI0 := HMI
          have HOR0 := HOR
          clear HKR HBR HMI HOR HRX
          go_loopg [48, 4] n (fun g2 v48 v4 wz => ∃ (j : Nat) (more : Bool) (lf : Plc → Option Int), j ≤ n ∧ g2 = n - j ∧ v48 = .int .i64 j ∧ v4 = .bool more ∧ Hid (FinB wz B S (.slice A n c) (.slice A' n' c') g (.slice Ax xs.length cx) (.map (some bl)) m (.slice none 0 0)) ∧ Hid (OwnM MI wz bl (boxP S xs.length) lf) ∧
            Hid (PassM F xs (boxP S xs.length) lf0 (fun a c => PBox F xs c ∧ c.q = a.fr ∧ a ∈ F.arcs.take j) lf more) ∧ Hid (Below B w wz))
          case atStart => exact ⟨0, false, lf0, Nat.zero_le _, rfl, rfl, rfl, HKO2.out, HOR0.out, (PassM.start HMI0.out).weaken (fun a c h => by simp at h), HBO2.out⟩
          case round =>
            obtain ⟨j, more, lf, hj, hg2, rfl, rfl, HKR, HOR, HPM, HBR⟩ := hrel
            have HG2 := Lib.hid hg2
            clear hg2
            by_cases hlt2 : j < n
            · obtain ⟨b, off, x0, x1, x2, x3, rfl, hbl, hd, e0, e1, e2, e3⟩ := (hr.out j hlt2).below (by rw [H0.out]; exact HB0.out.trans HBR.out)
              have HAM : Hid ((⟨x0, x1, x2, x3⟩ : PArc) ∈ F.arcs) := List.mem_of_mem_drop (by rw [hd.out]; exact List.mem_cons_self)
              have HTK : Hid (F.arcs.take (j + 1) = F.arcs.take j ++ [⟨x0, x1, x2, x3⟩]) := take_of_drop hd.out
              have hout : 0 ≤ x2 := (HF.out.tgt _ HAM.out).2.2.2.2
              obtain ⟨cost, hcost⟩ : ∃ cost, costA ⟨x0, x1, x2, x3⟩ = cost := ⟨_, rfl⟩
              have hmin : min x2 1 = cost := by rw [← hcost]; unfold costA; simp only; split <;> omega
              have HCO := Lib.hid hcost
              have hc0 : 0 ≤ cost ∧ cost ≤ 1 := by rw [← hcost]; unfold costA; split <;> omega
              have HC0 := Lib.hid hc0
              clear hcost hout hc0
              obtain ⟨k0, k1, k2, k3, k4, k5, k6, k7⟩ := HKR.out.cells
              go_upto_region 12 with (fail)
              generalize hY : World.alloc wr _ = Y
              obtain ⟨ga, hga⟩ : ∃ ga, wr.heap.size = ga := ⟨_, rfl⟩
              have HYB : Hid (Below wr.heap.size wr Y) := by rw [← hY]; exact (Below.refl _ _).alloc (Nat.le_refl _) _
              have HYA : Hid (ABlk Y ga x0 x1 x2 x3) := by rw [← hY, ← hga]; exact heap_alloc_new wr _
              have HKY := Lib.hid (HKR.out.below HYB.out)
              have HOY := Lib.hid (HOR.out.below HYB.out)
              have HGB : Hid (B < ga ∧ ga ≠ bl) := ⟨by have := HKR.out.lt; omega, by have := HOR.out.lt; omega⟩
              have HBY : Hid (Below B w Y) := HBR.out.trans (HYB.out.mono (by have := HKR.out.lt; omega))
              rw [hga]
              clear hY hga e0 e1 e2 e3 k0 k1 k2 k3 k4 k5 k6 k7
              obtain ⟨t0, t1, t2, t3⟩ := HYA.out.cells
              have hgal := (Array.getElem?_eq_some_iff.1 HYA.out).1
              obtain ⟨k0, k1, k2, k3, k4, k5, k6, k7⟩ := HKY.out.cells
              go_wp2_with fail
              · skip
                obtain rfl : cost = 1 := by have := HC0.out; simp only [Int.min_def] at hmin; split at hmin <;> omega
                clear hmin
                clear t0 t1 t2 t3 hgal k0 k1 k2 k3 k4 k5 k6 k7
                have HCQ : Hid (0 ≤ (1 : Int) ∧ (1 : Int) ≤ 1) := HC0.out
                clear HC0
                obtain ⟨wo3, rfl⟩ : ∃ wo : World, wo = Y := ⟨_, rfl⟩
                go_loopg [8, 4] (xs.length + 1) (fun g3 v8 v4 wy => ∃ (k : Nat) (z : Int) (more : Bool) (lf1 : Plc → Option Int), k ≤ xs.length + 1 ∧ g3 = k ∧ z = (k : Int) - 1 ∧ v8 = .int .i64 z ∧ v4 = .bool more ∧ Hid (FinB wy B S (.slice (some ⟨b, off, none⟩) n c) (.slice A' n' c') g (.slice Ax xs.length cx) (.map (some bl)) m (.slice none 0 0)) ∧ Hid (OwnM MI wy bl (boxP S xs.length) lf1) ∧
                  Hid (PassM F xs (boxP S xs.length) lf0 (fun a c => PBox F xs c ∧ c.q = a.fr ∧ (a ∈ F.arcs.take j ∨ (a = ⟨x0, x1, x2, x3⟩ ∧ (k : Int) ≤ c.i))) lf1 more) ∧ Hid (ABlk wy ga x0 x1 x2 x3) ∧ Hid (Below B w wy))
                case atStart => exact ⟨xs.length + 1, xs.length, more, lf, Nat.le_refl _, rfl, by omega, rfl, rfl, HKY.out, HOY.out, HPM.out.weaken (fun a c h => ⟨h.1, h.2.1, h.2.2.resolve_right (fun h2 => by have := h2.2; have := h.1.i1; omega)⟩), HYA.out, HBY.out⟩
                case round =>
                  obtain ⟨k, z, more1, lf1, hk1, hg3, hz, rfl, rfl, HK1, HO1, HP1, HA1, HB1⟩ := hrel
                  have HG3 := Lib.hid hg3
                  clear hg3
                  cases k with
                  | zero =>
                    obtain rfl : z = -1 := by omega
                    clear hz
                    go_wp2_with fail
                    go_roundg (n - (j + 1))
                    case measure => rw [HG2.out]; omega
                    case rel => exact ⟨j + 1, more1, lf1, by omega, rfl, by go_num, rfl, HK1.out, HO1.out, HP1.out.weaken (fun a c h => ⟨h.1, h.2.1, by
                        have h3 := h.2.2
                        rw [HTK.out] at h3
                        rcases List.mem_append.1 h3 with h4 | h4
                        · exact .inl h4
                        · exact .inr ⟨by simpa using h4, by have := h.1.i0; simpa using this⟩⟩), HB1.out⟩
                  | succ i =>
                    obtain rfl : z = (i : Int) := by omega
                    clear hz
                    have hi : i ≤ xs.length := by omega
                    have HPB : Hid (∀ q, 0 ≤ q ∧ q < F.states → PBox F xs ⟨q, i⟩) := fun q h => ⟨h.1, h.2, by simp, by simp; omega⟩
                    have HI := Lib.hid hi
                    obtain ⟨t0, t1, t2, t3⟩ := HA1.out.cells
                    obtain ⟨k0, k1, k2, k3, k4, k5, k6, k7⟩ := HK1.out.cells
                    have HXY := Lib.hid (HX.out.below (by rw [H0.out]; exact HB0.out.trans HB1.out))
                    clear hi
                    go_wp2_with fail
                    go_quiet (first | (go_at_call 37; exact Calls.quiet_of (eat_any _ xs i x1 _ HXY.out HI.out (by omega))))
                    obtain ⟨ti, hti⟩ : ∃ ti : Nat, (i : Int) + (stepD x1 : Int) = (ti : Int) := ⟨i + stepD x1, by simp⟩
                    rw [hti]
                    have HT : Hid ((i : Int) + (stepD x1 : Int) = (ti : Int)) := hti
                    generalize hok : stepOk xs i x1 = ok1
                    have HOK : Hid (stepOk xs i x1 = ok1) := hok
                    have hti2 : ti ≤ xs.length + 1 := by have : stepD x1 ≤ 1 := by { unfold stepD; split <;> omega }; have := HI.out; omega
                    clear hti hok t0 t1 t2 t3 k0 k1 k2 k3 k4 k5 k6 k7
                    generalize hY2 : World.drewN wr _ = Y2
                    have HB2 : Hid (Below B w Y2) := by rw [← hY2]; exact below_drewN HB1.out _
                    have HO2 : Hid (OwnM MI Y2 bl (boxP S xs.length) lf1) := by rw [← hY2]; exact HO1.out.same rfl
                    have HK2 : Hid (FinB Y2 B S (.slice (some ⟨b, off, none⟩) n c) (.slice A' n' c') g (.slice Ax xs.length cx) (.map (some bl)) m (.slice none 0 0)) := by rw [← hY2]; exact HK1.out.same rfl
                    have HA2 : Hid (ABlk Y2 ga x0 x1 x2 x3) := by rw [← hY2]; exact HA1.out
                    clear hY2
                    obtain ⟨t0, t1, t2, t3⟩ := HA2.out.cells
                    obtain ⟨k0, k1, k2, k3, k4, k5, k6, k7⟩ := HK2.out.cells
                    have hax := HF.out.tgt _ HAM.out
                    simp only at hax
                    have HAX := Lib.hid hax
                    clear hax
                    have hlk : ∀ (d : Plc) (k : Nat), d.Wf → (Instr.lookup 59 (.map (some bl)) (.agg #[.int .i64 d.q, .int .i64 d.i]) true).run Try.prog (Y2.drewN k) = .ok (.tuple #[.int .i64 ((lf1 d).getD 0), .bool (lf1 d).isSome]) (Y2.drewN k) := fun d k hd => (HO2.out.same (w' := Y2.drewN k) rfl).look_ok d hd
                    have hw1 : Plc.Wf ⟨x3, (ti : Int)⟩ := ⟨by have := HAX.out; have := HSn.out; unfold InI; simp only; omega, by unfold InI; simp only; omega⟩
                    have hw2 : Plc.Wf ⟨x0, (i : Int)⟩ := ⟨by have := HAX.out; have := HSn.out; unfold InI; simp only; omega, by have := HI.out; unfold InI; simp only; omega⟩
                    have hl1 := fun k => hlk ⟨x3, ti⟩ k hw1
                    have hl2 := fun k => hlk ⟨x0, i⟩ k hw2
                    have HW2 := Lib.hid hw2
                    clear hlk hw1 hw2 hti2
                    have HNX : Hid (Go.Proofs.Ytmejihlplbeekaa.nxP ⟨x0, x1, x2, x3⟩ ⟨x0, (i : Int)⟩ = ⟨x3, (ti : Int)⟩) := by simp only [Hid, nxP]; rw [← HT.out]
                    obtain ⟨o1, ho1⟩ : ∃ o, lf1 ⟨x3, (ti : Int)⟩ = o := ⟨_, rfl⟩
                    obtain ⟨o2, ho2⟩ : ∃ o, lf1 ⟨x0, (i : Int)⟩ = o := ⟨_, rfl⟩
                    have HO1' := Lib.hid ho1
                    have HO2' := Lib.hid ho2
                    simp only [ho1] at hl1
                    simp only [ho2] at hl2
                    clear ho1 ho2
                    cases ok1
                    · skip
                      have HRL : Hid (RelaxedAt xs lf1 ⟨x0, x1, x2, x3⟩ ⟨x0, (i : Int)⟩) := fun hk => by
                        rw [show okP xs ⟨x0, x1, x2, x3⟩ ⟨x0, (i : Int)⟩ = false from HOK.out] at hk
                        cases hk
                      go_wp2_with fail
                      go_quiet (fail)
                      go_wp2_with fail
                      go_quiet (fail)
                      go_wp2_with fail
                      go_roundg i
                      case measure => rw [HG3.out]; omega
                      case rel => exact ⟨i, _, more1, lf1, by omega, rfl, rfl, by go_num, rfl, HK2.out.same rfl, HO2.out.same rfl, HP1.out.keep (a := ⟨x0, x1, x2, x3⟩) (c := ⟨x0, (i : Int)⟩) HRL.out (fun a' c' h => by
                          obtain ⟨p1, p2, p3⟩ := h
                          rcases p3 with p3 | ⟨rfl, p3⟩
                          · exact .inl ⟨p1, p2, .inl p3⟩
                          · by_cases e : c'.i = (i : Int)
                            · refine .inr ⟨rfl, ?_⟩
                              cases c'
                              simp only at e p2 ⊢
                              rw [e, p2]
                            · exact .inl ⟨p1, p2, .inr ⟨rfl, by omega⟩⟩), HA2.out, by repeat (first | exact HB2.out | refine below_drewN ?_ _ | refine Below.drew ?_)⟩
                    · cases o1 with
                      | none =>
                        simp only [Option.getD_none, Option.isSome_none] at hl1
                        have HRL : Hid (RelaxedAt xs lf1 ⟨x0, x1, x2, x3⟩ ⟨x0, (i : Int)⟩) := fun _ v hv => by
                          rw [HNX.out, HO1'.out] at hv
                          cases hv
                        go_wp2_with fail
                        go_quiet (fail)
                        go_wp2_with fail
                        go_quiet (fail)
                        go_wp2_with fail
                        go_roundg i
                        case measure => rw [HG3.out]; omega
                        case rel => exact ⟨i, _, more1, lf1, by omega, rfl, rfl, by go_num, rfl, HK2.out.same rfl, HO2.out.same rfl, HP1.out.keep (a := ⟨x0, x1, x2, x3⟩) (c := ⟨x0, (i : Int)⟩) HRL.out (fun a' c' h => by
                            obtain ⟨p1, p2, p3⟩ := h
                            rcases p3 with p3 | ⟨rfl, p3⟩
                            · exact .inl ⟨p1, p2, .inl p3⟩
                            · by_cases e : c'.i = (i : Int)
                              · refine .inr ⟨rfl, ?_⟩
                                cases c'
                                simp only at e p2 ⊢
                                rw [e, p2]
                              · exact .inl ⟨p1, p2, .inr ⟨rfl, by omega⟩⟩), HA2.out, by repeat (first | exact HB2.out | refine below_drewN ?_ _ | refine Below.drew ?_)⟩
                      | some v1 =>
                        simp only [Option.getD_some, Option.isSome_some] at hl1
                        have hvv := (HP1.out.1.val _ v1 HO1'.out).2
                        have hkn := keysN_le lf1 (boxP S xs.length)
                        have hbx := HBX4.out
                        have hcq := HCQ.out
                        have hw1 : IntKind.i64.wrap (v1 + 1) = v1 + 1 := IntWalk.i64_in _ (by omega)
                        have HIN : Hid (InI (v1 + 1)) := by unfold Hid InI; omega
                        clear hvv hkn hbx hcq
                        cases o2 with
                        | none =>
                          simp only [Option.getD_none, Option.isSome_none] at hl2
                          have HOO : Hid (lf1 ⟨x0, (i : Int)⟩ = none ∨ ∃ old, lf1 ⟨x0, (i : Int)⟩ = some old ∧ v1 + costA ⟨x0, x1, x2, x3⟩ < old) := .inl HO2'.out
                          go_wp2_with fail
                          go_quiet (fail)
                          go_wp2_with fail
                          go_quiet (fail)
                          go_upto_region 20 with (fail)
                          clear hl1 hl2 t0 t1 t2 t3 k0 k1 k2 k3 k4 k5 k6 k7
                          refine wp_region_ord 11 [0, 1, 2, 3, 4, 5, 6, 7, 8, 9, 10] [] [0, 1, 2, 3, 4, 5, 6, 7, 8, 9, 10] [11] (fun w' => w'.heap[B]? = Y2.heap[B]? ∧ w'.heap[ga]? = Y2.heap[ga]?) (by kernel_rfl) (by kernel_rfl) ?_
                          rintro D hD
                          have HKD : Hid (FinB D B S (.slice (some ⟨b, off, none⟩) n c) (.slice A' n' c') g (.slice Ax xs.length cx) (.map (some bl)) m (.slice none 0 0)) := by rw [hD]; exact HK2.out.same rfl
                          have HOD : Hid (OwnM MI D bl (boxP S xs.length) lf1) := by rw [hD]; exact HO2.out.same rfl
                          have HBD : Hid (Below B w D) := by rw [hD]; repeat (first | exact HB2.out | refine below_drewN ?_ _ | refine Below.drew ?_)
                          have HAD : Hid (ABlk D ga x0 x1 x2 x3) := by rw [hD]; exact HA2.out
                          have HDS : Hid (D.heap[B]? = Y2.heap[B]? ∧ D.heap[ga]? = Y2.heap[ga]?) := by rw [hD]; exact ⟨rfl, rfl⟩
                          clear hD
                          refine ⟨HDS.out, ?_⟩
                          have HS : Hid (∀ w' : World, (w'.heap[B]? = Y2.heap[B]? ∧ w'.heap[ga]? = Y2.heap[ga]?) → w'.cell? ⟨B, 5, none⟩ = some (.map (some bl)) ∧ w'.cell? ⟨ga, 0, none⟩ = some (.int .i64 x0)) := by
                            intro w' h
                            obtain ⟨_, _, _, _, _, h5, _, _⟩ := (HK2.out.same h.1).cells
                            exact ⟨h5, (ABlk.cells (h.2.trans HA2.out)).1⟩
                          iterate 11 (refine wpHead_cons (v := ?_) rfl rfl (fun w' hS => ?_) ?_; rotate_left; (focus ((try obtain ⟨s5, u0⟩ := HS.out _ (hS rfl)); clear hS; go_simp; try with_reducible rfl; done)); (try simp only [Act.put, List.setIfInBounds_toArray, List.set_cons_zero, List.set_cons_succ]))
                          refine wpHead_nil ?_
                          refine wpTail_cons rfl rfl (fun K hK => ?_)
                          have HBC : Hid (PBox F xs ⟨x0, (i : Int)⟩) := HPB.out x0 ⟨HAX.out.1, HAX.out.2.1⟩
                          refine wp_putM (S := MI) (.tmp 117) (.tmp 121) (.tmp 124) rfl bl (boxP S xs.length) lf1 ⟨x0, (i : Int)⟩ (v1 + 1) rfl rfl rfl HOD.out HW2.out HIN.out (mem_boxP HSn.out HBC.out) HBX.out ?_
                          intro w4 hm4 hg4
                          have HM4 := Lib.hid hm4
                          have HB4 : Hid (w4.heap[B]? = D.heap[B]?) := hg4.block B HKD.out.lt (by have := HBL.out; simp; omega)
                          have HA4 : Hid (w4.heap[ga]? = D.heap[ga]?) := hg4.block ga (Array.getElem?_eq_some_iff.1 HAD.out).1 (by have := HGB.out; simp; omega)
                          refine hK.out _ _ (fun _ => ⟨HB4.out.trans HDS.out.1, HA4.out.trans HDS.out.2⟩) ?_
                          clear hK K
                          have HW4 : Hid (Below B w w4) := HBD.out.grown hg4 (by have := HBD.out.size; omega) (fun j hj => by cases hj; have := HBL.out; omega)
                          clear hm4 hg4
                          refine wpTail_nil ?_
                          refine NoPanic.normal ?_
                          go_wp2_with fail
                          go_roundg i
                          case measure => rw [HG3.out]; omega
                          case rel => exact ⟨i, _, true, _, by omega, rfl, rfl, by go_num, rfl, HKD.out.same HB4.out, by rw [← HCO.out] at HM4; exact HM4.out, HP1.out.step (fun c hc => mem_boxP HSn.out hc) HBC.out (a := ⟨x0, x1, x2, x3⟩) (by rw [HNX.out]; exact HO1'.out) HOO.out, HA4.out.trans HAD.out, HW4.out⟩
                        | some v2 =>
                          simp only [Option.getD_some, Option.isSome_some] at hl2
                          by_cases hlt4 : v1 + 1 < v2
                          · have hd4 : decide (v1 + 1 < v2) = true := by simpa using hlt4
                            have HLT := Lib.hid hlt4
                            clear hlt4
                            have HOO : Hid (lf1 ⟨x0, (i : Int)⟩ = none ∨ ∃ old, lf1 ⟨x0, (i : Int)⟩ = some old ∧ v1 + costA ⟨x0, x1, x2, x3⟩ < old) := .inr ⟨v2, HO2'.out, by
                              rw [HCO.out]
                              exact HLT.out⟩
                            go_wp2_with fail
                            go_quiet (fail)
                            go_wp2_with fail
                            go_quiet (fail)
                            go_upto_region 20 with (fail)
                            clear hl1 hl2 t0 t1 t2 t3 k0 k1 k2 k3 k4 k5 k6 k7
                            refine wp_region_ord 11 [0, 1, 2, 3, 4, 5, 6, 7, 8, 9, 10] [] [0, 1, 2, 3, 4, 5, 6, 7, 8, 9, 10] [11] (fun w' => w'.heap[B]? = Y2.heap[B]? ∧ w'.heap[ga]? = Y2.heap[ga]?) (by kernel_rfl) (by kernel_rfl) ?_
                            rintro D hD
                            have HKD : Hid (FinB D B S (.slice (some ⟨b, off, none⟩) n c) (.slice A' n' c') g (.slice Ax xs.length cx) (.map (some bl)) m (.slice none 0 0)) := by rw [hD]; exact HK2.out.same rfl
                            have HOD : Hid (OwnM MI D bl (boxP S xs.length) lf1) := by rw [hD]; exact HO2.out.same rfl
                            have HBD : Hid (Below B w D) := by rw [hD]; repeat (first | exact HB2.out | refine below_drewN ?_ _ | refine Below.drew ?_)
                            have HAD : Hid (ABlk D ga x0 x1 x2 x3) := by rw [hD]; exact HA2.out
                            have HDS : Hid (D.heap[B]? = Y2.heap[B]? ∧ D.heap[ga]? = Y2.heap[ga]?) := by rw [hD]; exact ⟨rfl, rfl⟩
                            clear hD
                            refine ⟨HDS.out, ?_⟩
                            have HS : Hid (∀ w' : World, (w'.heap[B]? = Y2.heap[B]? ∧ w'.heap[ga]? = Y2.heap[ga]?) → w'.cell? ⟨B, 5, none⟩ = some (.map (some bl)) ∧ w'.cell? ⟨ga, 0, none⟩ = some (.int .i64 x0)) := by
                              intro w' h
                              obtain ⟨_, _, _, _, _, h5, _, _⟩ := (HK2.out.same h.1).cells
                              exact ⟨h5, (ABlk.cells (h.2.trans HA2.out)).1⟩
                            iterate 11 (refine wpHead_cons (v := ?_) rfl rfl (fun w' hS => ?_) ?_; rotate_left; (focus ((try obtain ⟨s5, u0⟩ := HS.out _ (hS rfl)); clear hS; go_simp; try with_reducible rfl; done)); (try simp only [Act.put, List.setIfInBounds_toArray, List.set_cons_zero, List.set_cons_succ]))
                            refine wpHead_nil ?_
                            refine wpTail_cons rfl rfl (fun K hK => ?_)
                            have HBC : Hid (PBox F xs ⟨x0, (i : Int)⟩) := HPB.out x0 ⟨HAX.out.1, HAX.out.2.1⟩
                            refine wp_putM (S := MI) (.tmp 117) (.tmp 121) (.tmp 124) rfl bl (boxP S xs.length) lf1 ⟨x0, (i : Int)⟩ (v1 + 1) rfl rfl rfl HOD.out HW2.out HIN.out (mem_boxP HSn.out HBC.out) HBX.out ?_
                            intro w4 hm4 hg4
                            have HM4 := Lib.hid hm4
                            have HB4 : Hid (w4.heap[B]? = D.heap[B]?) := hg4.block B HKD.out.lt (by have := HBL.out; simp; omega)
                            have HA4 : Hid (w4.heap[ga]? = D.heap[ga]?) := hg4.block ga (Array.getElem?_eq_some_iff.1 HAD.out).1 (by have := HGB.out; simp; omega)
                            refine hK.out _ _ (fun _ => ⟨HB4.out.trans HDS.out.1, HA4.out.trans HDS.out.2⟩) ?_
                            clear hK K
                            have HW4 : Hid (Below B w w4) := HBD.out.grown hg4 (by have := HBD.out.size; omega) (fun j hj => by cases hj; have := HBL.out; omega)
                            clear hm4 hg4
                            refine wpTail_nil ?_
                            refine NoPanic.normal ?_
                            go_wp2_with fail
                            go_roundg i
                            case measure => rw [HG3.out]; omega
                            case rel => exact ⟨i, _, true, _, by omega, rfl, rfl, by go_num, rfl, HKD.out.same HB4.out, by rw [← HCO.out] at HM4; exact HM4.out, HP1.out.step (fun c hc => mem_boxP HSn.out hc) HBC.out (a := ⟨x0, x1, x2, x3⟩) (by rw [HNX.out]; exact HO1'.out) HOO.out, HA4.out.trans HAD.out, HW4.out⟩
                          · have hd4 : decide (v1 + 1 < v2) = false := by simpa using hlt4
                            have HLT := Lib.hid hlt4
                            clear hlt4
                            have HRL : Hid (RelaxedAt xs lf1 ⟨x0, x1, x2, x3⟩ ⟨x0, (i : Int)⟩) := fun _ v hv => ⟨v2, HO2'.out, by
                              rw [HNX.out, HO1'.out] at hv
                              cases hv
                              rw [HCO.out]
                              have := HLT.out
                              omega⟩
                            go_wp2_with fail
                            go_quiet (fail)
                            go_wp2_with fail
                            go_quiet (fail)
                            go_wp2_with fail
                            go_roundg i
                            case measure => rw [HG3.out]; omega
                            case rel => exact ⟨i, _, more1, lf1, by omega, rfl, rfl, by go_num, rfl, HK2.out.same rfl, HO2.out.same rfl, HP1.out.keep (a := ⟨x0, x1, x2, x3⟩) (c := ⟨x0, (i : Int)⟩) HRL.out (fun a' c' h => by
                                obtain ⟨p1, p2, p3⟩ := h
                                rcases p3 with p3 | ⟨rfl, p3⟩
                                · exact .inl ⟨p1, p2, .inl p3⟩
                                · by_cases e : c'.i = (i : Int)
                                  · refine .inr ⟨rfl, ?_⟩
                                    cases c'
                                    simp only at e p2 ⊢
                                    rw [e, p2]
                                  · exact .inl ⟨p1, p2, .inr ⟨rfl, by omega⟩⟩), HA2.out, by repeat (first | exact HB2.out | refine below_drewN ?_ _ | refine Below.drew ?_)⟩
              · obtain rfl : cost = x2 := by simp only [Int.min_def] at hmin; split at hmin <;> omega
                clear hmin
                clear t0 t1 t2 t3 hgal k0 k1 k2 k3 k4 k5 k6 k7
                have HCQ : Hid (0 ≤ (cost : Int) ∧ (cost : Int) ≤ 1) := HC0.out
                clear HC0
                obtain ⟨wo3, rfl⟩ : ∃ wo : World, wo = Y := ⟨_, rfl⟩
                go_loopg [8, 4] (xs.length + 1) (fun g3 v8 v4 wy => ∃ (k : Nat) (z : Int) (more : Bool) (lf1 : Plc → Option Int), k ≤ xs.length + 1 ∧ g3 = k ∧ z = (k : Int) - 1 ∧ v8 = .int .i64 z ∧ v4 = .bool more ∧ Hid (FinB wy B S (.slice (some ⟨b, off, none⟩) n c) (.slice A' n' c') g (.slice Ax xs.length cx) (.map (some bl)) m (.slice none 0 0)) ∧ Hid (OwnM MI wy bl (boxP S xs.length) lf1) ∧
                  Hid (PassM F xs (boxP S xs.length) lf0 (fun a c => PBox F xs c ∧ c.q = a.fr ∧ (a ∈ F.arcs.take j ∨ (a = ⟨x0, x1, cost, x3⟩ ∧ (k : Int) ≤ c.i))) lf1 more) ∧ Hid (ABlk wy ga x0 x1 cost x3) ∧ Hid (Below B w wy))
                case atStart => exact ⟨xs.length + 1, xs.length, more, lf, Nat.le_refl _, rfl, by omega, rfl, rfl, HKY.out, HOY.out, HPM.out.weaken (fun a c h => ⟨h.1, h.2.1, h.2.2.resolve_right (fun h2 => by have := h2.2; have := h.1.i1; omega)⟩), HYA.out, HBY.out⟩
                case round =>
                  obtain ⟨k, z, more1, lf1, hk1, hg3, hz, rfl, rfl, HK1, HO1, HP1, HA1, HB1⟩ := hrel
                  have HG3 := Lib.hid hg3
                  clear hg3
                  cases k with
                  | zero =>
                    obtain rfl : z = -1 := by omega
                    clear hz
                    go_wp2_with fail
                    go_roundg (n - (j + 1))
                    case measure => rw [HG2.out]; omega
                    case rel => exact ⟨j + 1, more1, lf1, by omega, rfl, by go_num, rfl, HK1.out, HO1.out, HP1.out.weaken (fun a c h => ⟨h.1, h.2.1, by
                        have h3 := h.2.2
                        rw [HTK.out] at h3
                        rcases List.mem_append.1 h3 with h4 | h4
                        · exact .inl h4
                        · exact .inr ⟨by simpa using h4, by have := h.1.i0; simpa using this⟩⟩), HB1.out⟩
                  | succ i =>
                    obtain rfl : z = (i : Int) := by omega
                    clear hz
                    have hi : i ≤ xs.length := by omega
                    have HPB : Hid (∀ q, 0 ≤ q ∧ q < F.states → PBox F xs ⟨q, i⟩) := fun q h => ⟨h.1, h.2, by simp, by simp; omega⟩
                    have HI := Lib.hid hi
                    obtain ⟨t0, t1, t2, t3⟩ := HA1.out.cells
                    obtain ⟨k0, k1, k2, k3, k4, k5, k6, k7⟩ := HK1.out.cells
                    have HXY := Lib.hid (HX.out.below (by rw [H0.out]; exact HB0.out.trans HB1.out))
                    clear hi
                    go_wp2_with fail
                    go_quiet (first | (go_at_call 37; exact Calls.quiet_of (eat_any _ xs i x1 _ HXY.out HI.out (by omega))))
                    obtain ⟨ti, hti⟩ : ∃ ti : Nat, (i : Int) + (stepD x1 : Int) = (ti : Int) := ⟨i + stepD x1, by simp⟩
                    rw [hti]
                    have HT : Hid ((i : Int) + (stepD x1 : Int) = (ti : Int)) := hti
                    generalize hok : stepOk xs i x1 = ok1
                    have HOK : Hid (stepOk xs i x1 = ok1) := hok
                    have hti2 : ti ≤ xs.length + 1 := by have : stepD x1 ≤ 1 := by { unfold stepD; split <;> omega }; have := HI.out; omega
                    clear hti hok t0 t1 t2 t3 k0 k1 k2 k3 k4 k5 k6 k7
                    generalize hY2 : World.drewN wr _ = Y2
                    have HB2 : Hid (Below B w Y2) := by rw [← hY2]; exact below_drewN HB1.out _
                    have HO2 : Hid (OwnM MI Y2 bl (boxP S xs.length) lf1) := by rw [← hY2]; exact HO1.out.same rfl
                    have HK2 : Hid (FinB Y2 B S (.slice (some ⟨b, off, none⟩) n c) (.slice A' n' c') g (.slice Ax xs.length cx) (.map (some bl)) m (.slice none 0 0)) := by rw [← hY2]; exact HK1.out.same rfl
                    have HA2 : Hid (ABlk Y2 ga x0 x1 cost x3) := by rw [← hY2]; exact HA1.out
                    clear hY2
                    obtain ⟨t0, t1, t2, t3⟩ := HA2.out.cells
                    obtain ⟨k0, k1, k2, k3, k4, k5, k6, k7⟩ := HK2.out.cells
                    have hax := HF.out.tgt _ HAM.out
                    simp only at hax
                    have HAX := Lib.hid hax
                    clear hax
                    have hlk : ∀ (d : Plc) (k : Nat), d.Wf → (Instr.lookup 59 (.map (some bl)) (.agg #[.int .i64 d.q, .int .i64 d.i]) true).run Try.prog (Y2.drewN k) = .ok (.tuple #[.int .i64 ((lf1 d).getD 0), .bool (lf1 d).isSome]) (Y2.drewN k) := fun d k hd => (HO2.out.same (w' := Y2.drewN k) rfl).look_ok d hd
                    have hw1 : Plc.Wf ⟨x3, (ti : Int)⟩ := ⟨by have := HAX.out; have := HSn.out; unfold InI; simp only; omega, by unfold InI; simp only; omega⟩
                    have hw2 : Plc.Wf ⟨x0, (i : Int)⟩ := ⟨by have := HAX.out; have := HSn.out; unfold InI; simp only; omega, by have := HI.out; unfold InI; simp only; omega⟩
                    have hl1 := fun k => hlk ⟨x3, ti⟩ k hw1
                    have hl2 := fun k => hlk ⟨x0, i⟩ k hw2
                    have HW2 := Lib.hid hw2
                    clear hlk hw1 hw2 hti2
                    have HNX : Hid (Go.Proofs.Ytmejihlplbeekaa.nxP ⟨x0, x1, cost, x3⟩ ⟨x0, (i : Int)⟩ = ⟨x3, (ti : Int)⟩) := by simp only [Hid, nxP]; rw [← HT.out]
                    obtain ⟨o1, ho1⟩ : ∃ o, lf1 ⟨x3, (ti : Int)⟩ = o := ⟨_, rfl⟩
                    obtain ⟨o2, ho2⟩ : ∃ o, lf1 ⟨x0, (i : Int)⟩ = o := ⟨_, rfl⟩
                    have HO1' := Lib.hid ho1
                    have HO2' := Lib.hid ho2
                    simp only [ho1] at hl1
                    simp only [ho2] at hl2
                    clear ho1 ho2
                    cases ok1
                    · skip
                      have HRL : Hid (RelaxedAt xs lf1 ⟨x0, x1, cost, x3⟩ ⟨x0, (i : Int)⟩) := fun hk => by
                        rw [show okP xs ⟨x0, x1, cost, x3⟩ ⟨x0, (i : Int)⟩ = false from HOK.out] at hk
                        cases hk
                      go_wp2_with fail
                      go_quiet (fail)
                      go_wp2_with fail
                      go_quiet (fail)
                      go_wp2_with fail
                      go_roundg i
                      case measure => rw [HG3.out]; omega
                      case rel => exact ⟨i, _, more1, lf1, by omega, rfl, rfl, by go_num, rfl, HK2.out.same rfl, HO2.out.same rfl, HP1.out.keep (a := ⟨x0, x1, cost, x3⟩) (c := ⟨x0, (i : Int)⟩) HRL.out (fun a' c' h => by
                          obtain ⟨p1, p2, p3⟩ := h
                          rcases p3 with p3 | ⟨rfl, p3⟩
                          · exact .inl ⟨p1, p2, .inl p3⟩
                          · by_cases e : c'.i = (i : Int)
                            · refine .inr ⟨rfl, ?_⟩
                              cases c'
                              simp only at e p2 ⊢
                              rw [e, p2]
                            · exact .inl ⟨p1, p2, .inr ⟨rfl, by omega⟩⟩), HA2.out, by repeat (first | exact HB2.out | refine below_drewN ?_ _ | refine Below.drew ?_)⟩
                    · cases o1 with
                      | none =>
                        simp only [Option.getD_none, Option.isSome_none] at hl1
                        have HRL : Hid (RelaxedAt xs lf1 ⟨x0, x1, cost, x3⟩ ⟨x0, (i : Int)⟩) := fun _ v hv => by
                          rw [HNX.out, HO1'.out] at hv
                          cases hv
                        go_wp2_with fail
                        go_quiet (fail)
                        go_wp2_with fail
                        go_quiet (fail)
                        go_wp2_with fail
                        go_roundg i
                        case measure => rw [HG3.out]; omega
                        case rel => exact ⟨i, _, more1, lf1, by omega, rfl, rfl, by go_num, rfl, HK2.out.same rfl, HO2.out.same rfl, HP1.out.keep (a := ⟨x0, x1, cost, x3⟩) (c := ⟨x0, (i : Int)⟩) HRL.out (fun a' c' h => by
                            obtain ⟨p1, p2, p3⟩ := h
                            rcases p3 with p3 | ⟨rfl, p3⟩
                            · exact .inl ⟨p1, p2, .inl p3⟩
                            · by_cases e : c'.i = (i : Int)
                              · refine .inr ⟨rfl, ?_⟩
                                cases c'
                                simp only at e p2 ⊢
                                rw [e, p2]
                              · exact .inl ⟨p1, p2, .inr ⟨rfl, by omega⟩⟩), HA2.out, by repeat (first | exact HB2.out | refine below_drewN ?_ _ | refine Below.drew ?_)⟩
                      | some v1 =>
                        simp only [Option.getD_some, Option.isSome_some] at hl1
                        have hvv := (HP1.out.1.val _ v1 HO1'.out).2
                        have hkn := keysN_le lf1 (boxP S xs.length)
                        have hbx := HBX4.out
                        have hcq := HCQ.out
                        have hw1 : IntKind.i64.wrap (v1 + cost) = v1 + cost := IntWalk.i64_in _ (by omega)
                        have HIN : Hid (InI (v1 + cost)) := by unfold Hid InI; omega
                        clear hvv hkn hbx hcq
                        cases o2 with
                        | none =>
                          simp only [Option.getD_none, Option.isSome_none] at hl2
                          have HOO : Hid (lf1 ⟨x0, (i : Int)⟩ = none ∨ ∃ old, lf1 ⟨x0, (i : Int)⟩ = some old ∧ v1 + costA ⟨x0, x1, cost, x3⟩ < old) := .inl HO2'.out
                          go_wp2_with fail
                          go_quiet (fail)
                          go_wp2_with fail
                          go_quiet (fail)
                          go_upto_region 20 with (fail)
                          clear hl1 hl2 t0 t1 t2 t3 k0 k1 k2 k3 k4 k5 k6 k7
                          refine wp_region_ord 11 [0, 1, 2, 3, 4, 5, 6, 7, 8, 9, 10] [] [0, 1, 2, 3, 4, 5, 6, 7, 8, 9, 10] [11] (fun w' => w'.heap[B]? = Y2.heap[B]? ∧ w'.heap[ga]? = Y2.heap[ga]?) (by kernel_rfl) (by kernel_rfl) ?_
                          rintro D hD
                          have HKD : Hid (FinB D B S (.slice (some ⟨b, off, none⟩) n c) (.slice A' n' c') g (.slice Ax xs.length cx) (.map (some bl)) m (.slice none 0 0)) := by rw [hD]; exact HK2.out.same rfl
                          have HOD : Hid (OwnM MI D bl (boxP S xs.length) lf1) := by rw [hD]; exact HO2.out.same rfl
                          have HBD : Hid (Below B w D) := by rw [hD]; repeat (first | exact HB2.out | refine below_drewN ?_ _ | refine Below.drew ?_)
                          have HAD : Hid (ABlk D ga x0 x1 cost x3) := by rw [hD]; exact HA2.out
                          have HDS : Hid (D.heap[B]? = Y2.heap[B]? ∧ D.heap[ga]? = Y2.heap[ga]?) := by rw [hD]; exact ⟨rfl, rfl⟩
                          clear hD
                          refine ⟨HDS.out, ?_⟩
                          have HS : Hid (∀ w' : World, (w'.heap[B]? = Y2.heap[B]? ∧ w'.heap[ga]? = Y2.heap[ga]?) → w'.cell? ⟨B, 5, none⟩ = some (.map (some bl)) ∧ w'.cell? ⟨ga, 0, none⟩ = some (.int .i64 x0)) := by
                            intro w' h
                            obtain ⟨_, _, _, _, _, h5, _, _⟩ := (HK2.out.same h.1).cells
                            exact ⟨h5, (ABlk.cells (h.2.trans HA2.out)).1⟩
                          iterate 11 (refine wpHead_cons (v := ?_) rfl rfl (fun w' hS => ?_) ?_; rotate_left; (focus ((try obtain ⟨s5, u0⟩ := HS.out _ (hS rfl)); clear hS; go_simp; try with_reducible rfl; done)); (try simp only [Act.put, List.setIfInBounds_toArray, List.set_cons_zero, List.set_cons_succ]))
                          refine wpHead_nil ?_
                          refine wpTail_cons rfl rfl (fun K hK => ?_)
                          have HBC : Hid (PBox F xs ⟨x0, (i : Int)⟩) := HPB.out x0 ⟨HAX.out.1, HAX.out.2.1⟩
                          refine wp_putM (S := MI) (.tmp 117) (.tmp 121) (.tmp 124) rfl bl (boxP S xs.length) lf1 ⟨x0, (i : Int)⟩ (v1 + cost) rfl rfl rfl HOD.out HW2.out HIN.out (mem_boxP HSn.out HBC.out) HBX.out ?_
                          intro w4 hm4 hg4
                          have HM4 := Lib.hid hm4
                          have HB4 : Hid (w4.heap[B]? = D.heap[B]?) := hg4.block B HKD.out.lt (by have := HBL.out; simp; omega)
                          have HA4 : Hid (w4.heap[ga]? = D.heap[ga]?) := hg4.block ga (Array.getElem?_eq_some_iff.1 HAD.out).1 (by have := HGB.out; simp; omega)
                          refine hK.out _ _ (fun _ => ⟨HB4.out.trans HDS.out.1, HA4.out.trans HDS.out.2⟩) ?_
                          clear hK K
                          have HW4 : Hid (Below B w w4) := HBD.out.grown hg4 (by have := HBD.out.size; omega) (fun j hj => by cases hj; have := HBL.out; omega)
                          clear hm4 hg4
                          refine wpTail_nil ?_
                          refine NoPanic.normal ?_
                          go_wp2_with fail
                          go_roundg i
                          case measure => rw [HG3.out]; omega
                          case rel => exact ⟨i, _, true, _, by omega, rfl, rfl, by go_num, rfl, HKD.out.same HB4.out, by rw [← HCO.out] at HM4; exact HM4.out, HP1.out.step (fun c hc => mem_boxP HSn.out hc) HBC.out (a := ⟨x0, x1, cost, x3⟩) (by rw [HNX.out]; exact HO1'.out) HOO.out, HA4.out.trans HAD.out, HW4.out⟩
                        | some v2 =>
                          simp only [Option.getD_some, Option.isSome_some] at hl2
                          by_cases hlt4 : v1 + cost < v2
                          · have hd4 : decide (v1 + cost < v2) = true := by simpa using hlt4
                            have HLT := Lib.hid hlt4
                            clear hlt4
                            have HOO : Hid (lf1 ⟨x0, (i : Int)⟩ = none ∨ ∃ old, lf1 ⟨x0, (i : Int)⟩ = some old ∧ v1 + costA ⟨x0, x1, cost, x3⟩ < old) := .inr ⟨v2, HO2'.out, by
                              rw [HCO.out]
                              exact HLT.out⟩
                            go_wp2_with fail
                            go_quiet (fail)
                            go_wp2_with fail
                            go_quiet (fail)
                            go_upto_region 20 with (fail)
                            clear hl1 hl2 t0 t1 t2 t3 k0 k1 k2 k3 k4 k5 k6 k7
                            refine wp_region_ord 11 [0, 1, 2, 3, 4, 5, 6, 7, 8, 9, 10] [] [0, 1, 2, 3, 4, 5, 6, 7, 8, 9, 10] [11] (fun w' => w'.heap[B]? = Y2.heap[B]? ∧ w'.heap[ga]? = Y2.heap[ga]?) (by kernel_rfl) (by kernel_rfl) ?_
                            rintro D hD
                            have HKD : Hid (FinB D B S (.slice (some ⟨b, off, none⟩) n c) (.slice A' n' c') g (.slice Ax xs.length cx) (.map (some bl)) m (.slice none 0 0)) := by rw [hD]; exact HK2.out.same rfl
                            have HOD : Hid (OwnM MI D bl (boxP S xs.length) lf1) := by rw [hD]; exact HO2.out.same rfl
                            have HBD : Hid (Below B w D) := by rw [hD]; repeat (first | exact HB2.out | refine below_drewN ?_ _ | refine Below.drew ?_)
                            have HAD : Hid (ABlk D ga x0 x1 cost x3) := by rw [hD]; exact HA2.out
                            have HDS : Hid (D.heap[B]? = Y2.heap[B]? ∧ D.heap[ga]? = Y2.heap[ga]?) := by rw [hD]; exact ⟨rfl, rfl⟩
                            clear hD
                            refine ⟨HDS.out, ?_⟩
                            have HS : Hid (∀ w' : World, (w'.heap[B]? = Y2.heap[B]? ∧ w'.heap[ga]? = Y2.heap[ga]?) → w'.cell? ⟨B, 5, none⟩ = some (.map (some bl)) ∧ w'.cell? ⟨ga, 0, none⟩ = some (.int .i64 x0)) := by
                              intro w' h
                              obtain ⟨_, _, _, _, _, h5, _, _⟩ := (HK2.out.same h.1).cells
                              exact ⟨h5, (ABlk.cells (h.2.trans HA2.out)).1⟩
                            iterate 11 (refine wpHead_cons (v := ?_) rfl rfl (fun w' hS => ?_) ?_; rotate_left; (focus ((try obtain ⟨s5, u0⟩ := HS.out _ (hS rfl)); clear hS; go_simp; try with_reducible rfl; done)); (try simp only [Act.put, List.setIfInBounds_toArray, List.set_cons_zero, List.set_cons_succ]))
                            refine wpHead_nil ?_
                            refine wpTail_cons rfl rfl (fun K hK => ?_)
                            have HBC : Hid (PBox F xs ⟨x0, (i : Int)⟩) := HPB.out x0 ⟨HAX.out.1, HAX.out.2.1⟩
                            refine wp_putM (S := MI) (.tmp 117) (.tmp 121) (.tmp 124) rfl bl (boxP S xs.length) lf1 ⟨x0, (i : Int)⟩ (v1 + cost) rfl rfl rfl HOD.out HW2.out HIN.out (mem_boxP HSn.out HBC.out) HBX.out ?_
                            intro w4 hm4 hg4
                            have HM4 := Lib.hid hm4
                            have HB4 : Hid (w4.heap[B]? = D.heap[B]?) := hg4.block B HKD.out.lt (by have := HBL.out; simp; omega)
                            have HA4 : Hid (w4.heap[ga]? = D.heap[ga]?) := hg4.block ga (Array.getElem?_eq_some_iff.1 HAD.out).1 (by have := HGB.out; simp; omega)
                            refine hK.out _ _ (fun _ => ⟨HB4.out.trans HDS.out.1, HA4.out.trans HDS.out.2⟩) ?_
                            clear hK K
                            have HW4 : Hid (Below B w w4) := HBD.out.grown hg4 (by have := HBD.out.size; omega) (fun j hj => by cases hj; have := HBL.out; omega)
                            clear hm4 hg4
                            refine wpTail_nil ?_
                            refine NoPanic.normal ?_
                            go_wp2_with fail
                            go_roundg i
                            case measure => rw [HG3.out]; omega
                            case rel => exact ⟨i, _, true, _, by omega, rfl, rfl, by go_num, rfl, HKD.out.same HB4.out, by rw [← HCO.out] at HM4; exact HM4.out, HP1.out.step (fun c hc => mem_boxP HSn.out hc) HBC.out (a := ⟨x0, x1, cost, x3⟩) (by rw [HNX.out]; exact HO1'.out) HOO.out, HA4.out.trans HAD.out, HW4.out⟩
                          · have hd4 : decide (v1 + cost < v2) = false := by simpa using hlt4
                            have HLT := Lib.hid hlt4
                            clear hlt4
                            have HRL : Hid (RelaxedAt xs lf1 ⟨x0, x1, cost, x3⟩ ⟨x0, (i : Int)⟩) := fun _ v hv => ⟨v2, HO2'.out, by
                              rw [HNX.out, HO1'.out] at hv
                              cases hv
                              rw [HCO.out]
                              have := HLT.out
                              omega⟩
                            go_wp2_with fail
                            go_quiet (fail)
                            go_wp2_with fail
                            go_quiet (fail)
                            go_wp2_with fail
                            go_roundg i
                            case measure => rw [HG3.out]; omega
                            case rel => exact ⟨i, _, more1, lf1, by omega, rfl, rfl, by go_num, rfl, HK2.out.same rfl, HO2.out.same rfl, HP1.out.keep (a := ⟨x0, x1, cost, x3⟩) (c := ⟨x0, (i : Int)⟩) HRL.out (fun a' c' h => by
                                obtain ⟨p1, p2, p3⟩ := h
                                rcases p3 with p3 | ⟨rfl, p3⟩
                                · exact .inl ⟨p1, p2, .inl p3⟩
                                · by_cases e : c'.i = (i : Int)
                                  · refine .inr ⟨rfl, ?_⟩
                                    cases c'
                                    simp only at e p2 ⊢
                                    rw [e, p2]
                                  · exact .inl ⟨p1, p2, .inr ⟨rfl, by omega⟩⟩), HA2.out, by repeat (first | exact HB2.out | refine below_drewN ?_ _ | refine Below.drew ?_)⟩
            · obtain ⟨h1', h2', h3', h4'⟩ := HPM.out
              have HN := Lib.hid (And.intro h1' (And.intro h2' (And.intro h3' h4')))
              clear h1' h2' h3' h4'
              go_wp2_with fail
              go_roundg (if more then mw lf (boxP S xs.length) + 1 else 0)
              case measure =>
                have := HGK.out
                simp only [if_true] at this
                rw [this]
                have h := HN.out
                cases more
                · simp
                · have := h.2.2.1 rfl
                  simp only [if_true]
                  omega
              case rel =>
                refine ⟨more, lf, rfl, rfl, HKR.out, HOR.out, HN.out.1, fun hb a c ha hc hq => ?_, HBR.out⟩
                obtain ⟨e, hd⟩ := HN.out.2.2.2 hb
                rw [e]
                exact hd a c ⟨hc, hq, by rw [List.take_of_length_le (by rw [hn.out]; omega)]; exact ha⟩
end Go.Proofs.Ytmejihlplbeekaa
