/-
  In of the program; a context's in; fits.
-/
import Derived.Test.YtdijlakeonionaaQ1
namespace Go.Proofs.Ytdijlakeonionaa
open Go.ChangeShapes Go.WideShapes Go.ChangeAt Go.RowKit
theorem fieldsCl : Try.prog.underlying 66 = some (.struct (Try.prog.fieldsOf 66)) := by kernel_rfl
set_option maxHeartbeats 1000000 in
set_option maxRecDepth 100000 in
theorem eqCls (w : World) (x0 x1 y0 y1 : Int) : (binOp .eql 66 (.agg #[.int .i64 x0, .int .i64 x1]) (.agg #[.int .i64 y0, .int .i64 y1])).run Try.prog w = .ok (.bool (x0 == y0 && x1 == y1)) w := by
  rw [run_eql_struct, run_equalIn_agg w 9999 _ _ _ fieldsCl (by kernel_rfl)]
  have hf : (Try.prog.fieldsOf 66).toList = (match Try.prog.underlying 66 with | some (.struct fs) => fs | _ => #[]).toList := rfl
  rw [hf, Try.underlying66]
  simp only [Op.eqFields]
  by_cases h0 : x0 = y0
  · subst h0
    by_cases h1 : x1 = y1 <;> simp_all [go_sem, Try.underlying3]
  · simp_all [go_sem, Try.underlying3]
set_option maxHeartbeats 2000000 in
set_option maxRecDepth 100000 in
theorem pin_any (v : Value) (I : List PPh) (s : Int) (c : PCls) (w : World) (hv : RdV w v I) :
    Calls Try.prog 83 #[v, .int .i64 s, .agg #[.int .i64 c.mask, .int .i64 c.val]] w fun e w' => e = .returned (.bool (inB I s c)) ∧ Below w.heap.size w w' := by
  have HV := Lib.hid hv
  obtain ⟨u, rfl, hp⟩ := hv
  obtain ⟨A, n, cc, rfl, _, _, HN, HR⟩ := hp.op
  clear hp
  obtain ⟨b, hb⟩ : ∃ b, inB I s c = b := ⟨_, rfl⟩
  rw [hb]
  rw [inB] at hb
  have HIB := Lib.hid hb
  clear hb
  obtain ⟨m, x⟩ := c
  simp only at HIB ⊢
  go_enter Try.func83, Try.ntmps83
  go_upto_region 1 with (fail)
  generalize hW : World.alloc (World.alloc w _) _ = W
  have HBW : Hid (Below w.heap.size w W) := by rw [← hW]; exact bchain (al_below _ _) (al_below _ _)
  have HP : Hid (VBlk W w.heap.size (.slice A n cc)) := by rw [← hW]; exact VBlk.below (heap_alloc_new w _) (al_below _ _)
  have HC : Hid (CBlk W (w.heap.size + 1) ⟨m, x⟩) := by
    have h := heap_alloc_new (w.alloc (.cells #[.slice A n cc] 24)) (.cells #[.int .i64 m, .int .i64 x] 66)
    rw [World.size_alloc] at h
    rw [← hW]; exact h
  clear hW
  refine wp_region_mix 18 [0, 1, 2, 3, 4, 5, 6, 7, 8, 9, 10, 11, 12, 13, 14, 15, 16, 17] [] [(true, 0), (true, 1), (false, 2), (true, 3), (true, 4), (true, 5), (true, 6), (true, 7), (true, 8), (true, 9), (true, 10), (true, 11), (true, 12), (true, 13), (true, 14), (true, 15), (true, 16), (true, 17), (false, 18), (false, 19), (false, 20)] (fun w' => Below W.heap.size W w') (by kernel_rfl) (by kernel_rfl) ?_
  rintro D hD
  have HSD : Hid (Below W.heap.size W D) := by rw [hD]; exact (Below.refl _ _).drew
  clear hD
  refine ⟨HSD.out, ?_⟩
  by_cases h1 : isB I s = true
  · have h2 : 1 ≤ s ∧ s ≤ (n : Int) := by rw [isB, HN.out] at h1; simpa using h1
    obtain ⟨k, hk⟩ : ∃ k : Nat, s = (k : Int) + 1 := ⟨(s - 1).toNat, by omega⟩
    subst hk
    have hkn : k < n := by omega
    obtain ⟨bb, off, p, rfl, hbb, hdr, e0, e1⟩ := (HR.out k hkn).below HBW.out
    have HF : Hid (featB I ((k : Int) + 1) = p.feat) := by
      rw [Hid, featB, show ((k : Int) + 1 - 1).toNat = k by omega, List.getD_eq_getElem?_getD, show I[k]? = some p from by
        rw [← List.head?_drop, hdr.out]; rfl]
      rfl
    have HS : Hid (∀ w' : World, Below W.heap.size W w' → w'.cell? ⟨w.heap.size, 0, none⟩ = some (.slice (some ⟨bb, off, none⟩) n cc) ∧ (w'.cell? ⟨w.heap.size + 1, 0, none⟩ = some (.int .i64 m) ∧ w'.cell? ⟨w.heap.size + 1, 1, none⟩ = some (.int .i64 x)) ∧ w'.cell? ⟨bb, off + k * 2 + 1, none⟩ = some (.int .i64 p.feat)) := by
      intro w' h
      exact ⟨(HP.out.below h).cell, (HC.out.below h).facts, (h.cell hbb).trans e1⟩
    have HIC : Hid ((m == m && x == bits .and .i64 p.feat m) = b) := by
      have h := HIB.out
      rw [h1, HF.out, Bool.true_and] at h
      rw [Hid, ← h, beq_self_eq_true, Bool.true_and, Bool.eq_iff_iff, beq_iff_eq, beq_iff_eq]
      exact eq_comm
    have hwr : IntKind.i64.wrap ((k : Int) + 1 - 1) = (k : Int) := by rw [show (k : Int) + 1 - 1 = (k : Int) by omega]; exact IntWalk.i64_in _ (by omega)
    have hwr2 : IntKind.i64.wrap (k : Int) = (k : Int) := IntWalk.i64_in _ (by omega)
    have hk0 : (0 : Int) ≤ (k : Int) := by omega
    clear e0 e1 h2 HIB
    have HI1 := Lib.hid h1
    clear h1
    iterate 2 (refine wpMix_q (v := ?_) rfl rfl (fun w' hS => ?_) ?_; rotate_left; (focus ((try obtain ⟨s0, ⟨t0, t1⟩, u0⟩ := HS.out _ (hS rfl)); clear hS; go_simp; try with_reducible rfl; done)); (try simp only [Act.put, List.setIfInBounds_toArray, List.set_cons_zero, List.set_cons_succ]))
    refine wpMix_e rfl rfl (fun K hK => ?_)
    go_simp
    refine (seg_any _ I ((k : Int) + 1) _ (HV.out.below (bchain HBW.out HSD.out))).mono ?_
    rintro e Y1 ⟨rfl, hb⟩
    refine hK.out _ _ (fun _ => bchain HSD.out hb) ?_
    clear hK K
    (try simp only [Act.put, List.setIfInBounds_toArray, List.set_cons_zero, List.set_cons_succ])
    have HSY1 := Lib.hid (bchain HSD.out hb)
    clear hb
    rw [HI1.out]
    iterate 15 (refine wpMix_q (v := ?_) rfl rfl (fun w' hS => ?_) ?_; rotate_left; (focus ((try obtain ⟨s0, ⟨t0, t1⟩, u0⟩ := HS.out _ (hS rfl)); clear hS; go_simp; try with_reducible rfl; done)); (try simp only [Act.put, List.setIfInBounds_toArray, List.set_cons_zero, List.set_cons_succ]))
    have heq := fun W => eqCls W m x m (bits .and .i64 p.feat m)
    rw [HIC.out] at heq
    have hgd := fun (W : World) x y xs ys => run_eqGuard_agg (P := Try.prog) W .eql 66 x y xs ys (by kernel_rfl)
    iterate 3 (refine wpMix_e rfl rfl (fun K hK => ?_); go_simp; refine hK.out _ _ (fun h => absurd h (by decide)) ?_; clear hK K; (try simp only [Act.put, List.setIfInBounds_toArray, List.set_cons_zero, List.set_cons_succ]))
    clear heq hgd
    refine wpMix_nil ?_
    refine NoPanic.normal ?_
    go_wp2_with fail
    go_ret
    exact ⟨rfl, bchain HBW.out HSY1.out⟩
  · simp only [Bool.not_eq_true] at h1
    rw [h1, Bool.false_and] at HIB
    have HI1 := Lib.hid h1
    clear h1
    have HS : Hid (∀ w' : World, Below W.heap.size W w' → w'.cell? ⟨w.heap.size, 0, none⟩ = some (.slice A n cc)) := by
      intro w' h
      exact (HP.out.below h).cell
    iterate 2 (refine wpMix_q (v := ?_) rfl rfl (fun w' hS => ?_) ?_; rotate_left; (focus ((try obtain s0 := HS.out _ (hS rfl)); clear hS; go_simp; try with_reducible rfl; done)); (try simp only [Act.put, List.setIfInBounds_toArray, List.set_cons_zero, List.set_cons_succ]))
    refine wpMix_e rfl rfl (fun K hK => ?_)
    go_simp
    refine (seg_any _ I s _ (HV.out.below (bchain HBW.out HSD.out))).mono ?_
    rintro e Y1 ⟨rfl, hb⟩
    refine hK.out _ _ (fun _ => bchain HSD.out hb) ?_
    clear hK K
    (try simp only [Act.put, List.setIfInBounds_toArray, List.set_cons_zero, List.set_cons_succ])
    have HSY1 := Lib.hid (bchain HSD.out hb)
    clear hb
    rw [HI1.out]
    have hib := HIB.out
    subst hib
    iterate 1 (refine wpMix_q (v := ?_) rfl rfl (fun w' hS => ?_) ?_; rotate_left; (focus ((try obtain s0 := HS.out _ (hS rfl)); clear hS; go_simp; try with_reducible rfl; done)); (try simp only [Act.put, List.setIfInBounds_toArray, List.set_cons_zero, List.set_cons_succ]))
    iterate 14 (refine wpMix_qskip rfl rfl ?_; (try simp only [Act.put, List.setIfInBounds_toArray, List.set_cons_zero, List.set_cons_succ]))
    iterate 1 (refine wpMix_eskip rfl rfl (HSY1).out ?_; (try simp only [Act.put, List.setIfInBounds_toArray, List.set_cons_zero, List.set_cons_succ]))
    iterate 2 (refine wpMix_e rfl rfl (fun K hK => ?_); go_simp; refine hK.out _ _ (fun h => absurd h (by decide)) ?_; clear hK K; (try simp only [Act.put, List.setIfInBounds_toArray, List.set_cons_zero, List.set_cons_succ]))
    refine wpMix_nil ?_
    refine NoPanic.normal ?_
    go_wp2_with fail
    go_ret
    exact ⟨rfl, bchain HBW.out HSY1.out⟩
/-- the call of a context's in -/
def XBlk (w : World) (R : Nat) (u l : Value) : Prop := w.heap[R]? = some (.cells #[u, l] 74 (0, 0))
theorem XBlk.lt {w : World} {R : Nat} {u l : Value} (h : XBlk w R u l) : R < w.heap.size := (Array.getElem?_eq_some_iff.1 h).1
theorem XBlk.below {w w' : World} {R : Nat} {u l : Value} (h : XBlk w R u l) (hb : Below w.heap.size w w') : XBlk w' R u l := (hb.block R h.lt).trans h
theorem XBlk.cells {w : World} {R : Nat} {u l : Value} (h : XBlk w R u l) : w.cell? ⟨R, 0, none⟩ = some u ∧ w.cell? ⟨R, 1, none⟩ = some l := by
  refine ⟨?_, ?_⟩ <;> rw [cell_of_row w R _ _ _ (0, 0) h] <;> rfl
set_option maxHeartbeats 2000000 in
set_option maxRecDepth 100000 in
theorem cin_any (u vl : Value) (I : List PPh) (l : List PCls) (k : Nat) (s : Int) (c : PCls) (w : World) (hv : RdPh w u I) (hl : RdC w vl l) (hk : l[k]? = some c) :
    Calls Try.prog 65 #[.agg #[u, vl], .int .i64 (k : Int), .int .i64 s] w fun e w' => e = .returned (.bool (inB I s c)) ∧ Below w.heap.size w w' := by
  obtain ⟨A, n, cc, rfl, _, _, HN, HR⟩ := hl.op
  obtain ⟨A', n', cc', rfl, _, _, _, _⟩ := hv.op
  have HV : Hid (RdV w (.agg #[.slice A' n' cc']) I) := ⟨_, rfl, hv⟩
  clear hv hl
  have hkn : k < n := by have := (List.getElem?_eq_some_iff.1 hk).1; rw [HN.out] at this; exact this
  obtain ⟨bb, off, c', rfl, hbb, hdr, e0, e1⟩ := HR.out k hkn
  have hc : c' = c := by
    have h : l[k]? = some c' := by rw [← List.head?_drop, hdr.out]; rfl
    rw [hk] at h; exact (Option.some.inj h).symm
  subst hc
  have HE : Hid (w.cell? ⟨bb, off + k * 2, none⟩ = some (.int .i64 c'.mask) ∧ w.cell? ⟨bb, off + k * 2 + 1, none⟩ = some (.int .i64 c'.val)) := ⟨e0, e1⟩
  clear e0 e1 hk
  have hk0 : (0 : Int) ≤ (k : Int) := by omega
  go_enter Try.func65, Try.ntmps65
  go_upto_region 1 with (fail)
  generalize hW : World.alloc w _ = W
  have HBW : Hid (Below w.heap.size w W) := by rw [← hW]; exact al_below _ _
  have HP : Hid (XBlk W w.heap.size (.slice A' n' cc') (.slice (some ⟨bb, off, none⟩) n cc)) := by rw [← hW]; exact heap_alloc_new w _
  clear hW
  refine wp_region_ord 8 [0, 1, 2, 3, 4, 5, 6, 7] [] [0, 1, 2, 3, 4, 5, 6, 7] [8, 9] (fun w' => Below W.heap.size W w') (by kernel_rfl) (by kernel_rfl) ?_
  rintro Z hZ
  have HBZ : Hid (Below W.heap.size W Z) := by rw [hZ]; exact (Below.refl _ _).drew
  clear hZ
  refine ⟨HBZ.out, ?_⟩
  have HS : Hid (∀ w' : World, Below W.heap.size W w' → (w'.cell? ⟨w.heap.size, 0, none⟩ = some (.slice A' n' cc') ∧ w'.cell? ⟨w.heap.size, 1, none⟩ = some (.slice (some ⟨bb, off, none⟩) n cc)) ∧ w'.cell? ⟨bb, off + k * 2, none⟩ = some (.int .i64 c'.mask) ∧ w'.cell? ⟨bb, off + k * 2 + 1, none⟩ = some (.int .i64 c'.val)) := by
    intro w' h
    have hb := (bchain HBW.out h).cell (p := ⟨bb, off + k * 2, none⟩) hbb
    have hb1 := (bchain HBW.out h).cell (p := ⟨bb, off + k * 2 + 1, none⟩) hbb
    exact ⟨(HP.out.below h).cells, hb.trans HE.out.1, hb1.trans HE.out.2⟩
  iterate 8 (refine wpHead_cons (v := ?_) rfl rfl (fun w' hS => ?_) ?_; rotate_left; (focus ((try obtain ⟨⟨s0, s1⟩, u0, u1⟩ := HS.out _ (hS rfl)); clear hS; go_simp; try with_reducible rfl; done)); (try simp only [Act.put, List.setIfInBounds_toArray, List.set_cons_zero, List.set_cons_succ]))
  refine wpHead_nil ?_
  refine wpTail_cons rfl rfl (fun K hK => ?_)
  go_simp
  refine (pin_any _ I s c' _ (HV.out.below (bchain HBW.out HBZ.out))).mono ?_
  rintro e w9 ⟨rfl, hb⟩
  refine hK.out _ _ (fun h => absurd h (by decide)) ?_
  clear hK K
  (try simp only [Act.put, List.setIfInBounds_toArray, List.set_cons_zero, List.set_cons_succ])
  have HB9 := Lib.hid (bchain (bchain HBW.out HBZ.out) hb)
  clear hb HS
  refine wpTail_rest 9 rfl ?_
  simp only [List.drop_succ_cons, List.drop_zero]
  go_wp2_with fail
  refine NoPanic.normal ?_
  go_wp2_with fail
  go_ret
  exact ⟨rfl, HB9.out⟩
end Go.Proofs.Ytdijlakeonionaa
