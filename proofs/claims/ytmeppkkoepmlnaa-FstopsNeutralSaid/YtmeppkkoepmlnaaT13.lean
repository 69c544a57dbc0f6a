/-
  Pair of fstops.
-/
import Derived.Test.YtmeppkkoepmlnaaT12
namespace Go.Proofs.Ytmeppkkoepmlnaa
open Go.ChangeShapes Go.WideShapes Go.ChangeAt Go.RowKit
set_option maxHeartbeats 1000000 in
theorem pair_no (v v' : Value) (xs ys : List Int) (w : World) (hv : RdI w v xs) (hv' : RdI w v' ys) (hx : xs.length ≤ 1000) (hy : ys.length ≤ 1000) (he : wrongE 24 [xs, ys] ≠ 0) :
    Calls Try.prog 16 #[v, v'] w fun e w' => e = .returned (.tuple #[.agg #[.int .i64 0, .slice none 0 0, .slice none 0 0], .int .i64 (wrongE 24 [xs, ys])]) ∧ Below w.heap.size w w' := by
  obtain ⟨x, hxe⟩ : ∃ x, wrongE 24 [xs, ys] = x := ⟨_, rfl⟩
  rw [hxe] at he ⊢
  have HX := Lib.hid hxe
  have hn : (x != 0) = true := by simpa using he
  have HV := Lib.hid hv
  have HV' := Lib.hid hv'
  have HL : Hid (total [xs, ys] ≤ 1000000) := by simp [Hid, total]; omega
  obtain ⟨A, n, c, rfl, h1, h2, HN, hr⟩ := hv.op
  obtain ⟨A', n', c', rfl, h1', h2', HN', hr'⟩ := hv'.op
  clear hv hx hxe he hv' hy
  go_enter Try.func16, Try.ntmps16
  go_wp2_with fail
  refine (wrong_any 24 _ [xs, ys] _ ?_ HL.out).mono ?_
  · exact rdL_two (Rd.alloc HV.out _) (Rd.alloc HV'.out _) (by simp)
  rintro e w1 ⟨rfl, hb⟩
  rw [HX.out]
  have HB := Lib.hid hb
  clear hb
  have hR : Hid (FBlk w1 w.heap.size (.int .i64 0) (.slice none 0 0) (.slice none 0 0)) := FBlk.below ((Below.heap_alloc _ _ _ (by simp)).trans (heap_alloc_new w _)) HB.out
  obtain ⟨r0, r1, r2, f0, f1, f2⟩ := hR.out.facts
  have hz := HB.out.size
  simp at hz
  go_wp2_with fail
  exact bodyPost_ret (v := .tuple #[.agg #[.int .i64 0, .slice none 0 0, .slice none 0 0], .int .i64 x]) (by simp [results, Try.results16, go_sem, r0, r1, r2]) rfl ⟨rfl, ((((bchain (Below.refl _ _) (((Below.refl _ _).alloc (Nat.le_refl _) _).alloc (by simp) _)).trans (HB.out.mono (by simp; omega))).setCell (by simp) _).setCell (by simp) _).setCell (by simp) _⟩
set_option maxHeartbeats 4000000 in
theorem pair_yes (v v' : Value) (xs ys : List Int) (w : World) (hv : RdI w v xs) (hv' : RdI w v' ys) (hx : xs.length ≤ 1000) (hy : ys.length ≤ 1000) (he : wrongE 24 [xs, ys] = 0) :
    Calls Try.prog 16 #[v, v'] w fun e w' => (∃ vF, e = .returned (.tuple #[vF, .int .i64 0]) ∧ OwnF w.heap.size w' vF (pairF xs ys)) ∧ Below w.heap.size w w' := by
  have HX := Lib.hid he
  have HV := Lib.hid hv
  have HV' := Lib.hid hv'
  have HL : Hid (total [xs, ys] ≤ 1000000) := by simp [Hid, total]; omega
  obtain ⟨A, n, c, rfl, h1, h2, HN, hr⟩ := hv.op
  obtain ⟨A', n', c', rfl, h1', h2', HN', hr'⟩ := hv'.op
  rw [HN.out] at hx
  rw [HN'.out] at hy
  clear hv he hv'
  go_enter Try.func16, Try.ntmps16
  go_wp2_with fail
  refine (wrong_any 24 _ [xs, ys] _ ?_ HL.out).mono ?_
  · exact rdL_two (Rd.alloc HV.out _) (Rd.alloc HV'.out _) (by simp)
  rintro e w1 ⟨rfl, hb⟩
  rw [HX.out]
  have HB := Lib.hid hb
  clear hb
  have hR : Hid (FBlk w1 w.heap.size (.int .i64 0) (.slice none 0 0) (.slice none 0 0)) := FBlk.below ((Below.heap_alloc _ _ _ (by simp)).trans (heap_alloc_new w _)) HB.out
  have hz := HB.out.size
  simp at hz
  have HB1 : Hid (Below w.heap.size w w1) := (((Below.refl _ _).alloc (Nat.le_refl _) _).alloc (by simp) _).trans (HB.out.mono (by simp; omega))
  clear HB
  by_cases hmax : n < n'
  · have HNN : Hid (pairN xs ys = n') := by rw [Hid, pairN, HN.out, HN'.out]; omega
    go_wp2_with fail
    generalize hW : World.alloc (World.alloc w1 _) _ = W
    have HW : Hid (Bld 29 W w1.heap.size (w1.heap.size + 1) (.slice none 0 0) (.slice (some ⟨w1.heap.size, 0, none⟩) 1 1) ⟨(n' : Int) + 1, [], [(n' : Int)]⟩) := by
      rw [← hW]
      refine ⟨?_, World.ownsRow_nil _ _ _ _, ?_, by decide, by decide, by omega⟩
      · have := heap_alloc_new (w1.alloc (.cells #[.int .i64 (n' : Int)] 3)) (.cells #[.int .i64 ((n' : Int) + 1), .slice none 0 0, .slice (some ⟨w1.heap.size, 0, none⟩) 1 1] 29)
        simpa using this
      · exact World.ownsRow.alloc ⟨rfl, .inr ⟨w1.heap.size, 1, #[.int .i64 (n' : Int)], rfl, Nat.le_refl _, heap_alloc_new w1 _, Nat.le_refl _, by simp [maxLen], rfl, rfl⟩⟩ _
    have HR : Hid (FBlk W w.heap.size (.int .i64 0) (.slice none 0 0) (.slice none 0 0)) := by
      rw [← hW]; exact (Below.heap_alloc _ _ _ (by simp; omega)).trans ((Below.heap_alloc _ _ _ (by omega)).trans hR.out)
    have HB2 : Hid (Below w.heap.size w W) := by rw [← hW]; exact (HB1.out.alloc (by omega) _).alloc (by simp; omega) _
    clear hW hR HB1
    obtain ⟨base, hbase⟩ : ∃ base, base = w1.heap.size := ⟨_, rfl⟩
    rw [← hbase] at HW hz ⊢
    clear hbase
    go_loopw [29] (fun i wr => ∃ k : Nat, k ≤ n' ∧ i = .int .i64 k ∧ Hid (∃ va, Bld 29 wr base (base + 1) va (.slice (some ⟨base, 0, none⟩) 1 1) ⟨(n' : Int) + 1, pairArcs xs ys k, [(n' : Int)]⟩) ∧ Hid (Fr base (base + 1) W wr)) (fun i _ => n' - (intOf i).toNat)
    case atStart => exact ⟨0, Nat.zero_le _, rfl, ⟨_, HW.out⟩, Fr.refl _ _ _⟩
    case round =>
      obtain ⟨k, hk, rfl, HBE, HF⟩ := hrel
      obtain ⟨va, hbb⟩ := HBE.out
      have HB := Lib.hid hbb
      clear hbb HBE
      by_cases hlt : k < n'
      · have hBl := HB.out.lt
        have HBW := Lib.hid (Fr.below HB2.out (by omega) HF.out)
        go_wp2_with fail
        refine wp_region_ord 13 [0, 1, 2, 3, 4, 5, 6, 7, 8, 9, 10, 11, 12] [] [0, 1, 2, 3, 4, 6, 7, 9, 10] [5, 8, 11, 12, 13, 14, 15] (fun w' => w'.heap[base + 1]? = wr.heap[base + 1]?) (by kernel_rfl) (by kernel_rfl) ?_
        rintro D hD
        have HD : Hid (Bld 29 D base (base + 1) va (.slice (some ⟨base, 0, none⟩) 1 1) ⟨(n' : Int) + 1, pairArcs xs ys k, [(n' : Int)]⟩) := by rw [hD]; exact HB.out.drew
        have HDF : Hid (Fr base (base + 1) W D) := by rw [hD]; exact HF.out.drewN 1
        have HDh : Hid (D.heap[base + 1]? = wr.heap[base + 1]?) := by rw [hD]; rfl
        have HDB : Hid (Below w.heap.size w D) := by rw [hD]; exact HBW.out.drew
        have hBD := HD.out.lt
        refine ⟨HDh.out, ?_⟩
        clear hD
        have HS : Hid (∀ w' : World, w'.heap[base + 1]? = wr.heap[base + 1]? → w'.cell? ⟨base + 1, 1, none⟩ = some va) := fun w' h => (World.cell?_of_block (a := ⟨base + 1, 1, none⟩) h).trans HB.out.c1
        have r0 : IntKind.i64.wrap ((k : Int) + 1) = (k : Int) + 1 := IntWalk.i64_in _ (by omega)
        iterate 9 (refine wpHead_cons (v := ?_) rfl rfl (fun w' hS => ?_) ?_; rotate_left; (focus ((try obtain c1 := HS.out _ (hS rfl)); clear hS; go_simp; try with_reducible rfl; done)); (try simp only [Act.put, List.setIfInBounds_toArray, List.set_cons_zero, List.set_cons_succ]))
        clear r0
        refine wpHead_nil ?_
        refine wpTail_cons rfl rfl (fun K hK => ?_)
        go_simp
        refine (at_any _ xs k _ (HV.out.below HDB.out)).mono ?_
        rintro e w' ⟨rfl, rfl⟩
        refine hK.out _ _ (fun _ => HDh.out) ?_
        clear hK K
        (try simp only [Act.put, List.setIfInBounds_toArray, List.set_cons_zero, List.set_cons_succ])
        refine wpTail_cons rfl rfl (fun K hK => ?_)
        go_simp
        refine (at_any _ ys k _ (HV'.out.below HDB.out)).mono ?_
        rintro e w' ⟨rfl, rfl⟩
        refine hK.out _ _ (fun _ => HDh.out) ?_
        clear hK K
        (try simp only [Act.put, List.setIfInBounds_toArray, List.set_cons_zero, List.set_cons_succ])
        refine wpTail_cons rfl rfl (fun K hK => ?_)
        go_simp
        refine hK.out _ _ (fun _ => HDh.out) ?_
        clear hK K
        (try simp only [Act.put, List.setIfInBounds_toArray, List.set_cons_zero, List.set_cons_succ])
        refine wpTail_cons rfl rfl (fun K hK => ?_)
        go_simp
        refine hK.out _ _ (fun _ => (Below.heap_alloc _ _ _ hBD).trans HDh.out) ?_
        clear hK K
        (try simp only [Act.put, List.setIfInBounds_toArray, List.set_cons_zero, List.set_cons_succ])
        refine wpTail_rest 13 rfl ?_
        simp only [List.drop_succ_cons, List.drop_zero]
        refine wpList_app_arc rfl (.tmp 33) (.tmp 44) rfl base va (pairArcs xs ys k) rfl HD.out.oa k (atL xs k) (atL ys k) (k + 1) k (pairArcs_length _ _ _) (by omega) (by omega) rfl ?_
        intro g' cap w3 ho hg hgr
        obtain ⟨k1, k2⟩ := HD.out.mid hgr
        have HO := Lib.hid ho
        clear ho
        (try simp only [Act.put, List.setIfInBounds_toArray, List.set_cons_zero, List.set_cons_succ])
        go_wp2_with fail
        refine NoPanic.normal ?_
        go_wp2_with fail
        go_roundw
        case rel =>
          have hp := HD.out.pushed hgr HO.out
          have h3 := hp.1
          have e1 : pairArcs xs ys k ++ [⟨(k : Int), atL xs k, atL ys k, (k : Int) + 1⟩] = pairArcs xs ys (k + 1) := (pairArcs_succ xs ys k).symm
          simp only [e1] at h3
          exact ⟨k + 1, by omega, by go_num, ⟨_, h3⟩, HDF.out.trans hp.2⟩
        case measure => simp [intOf]; omega
      · have e1 : k = n' := by omega
        have HBF : Hid (Bld 29 wr base (base + 1) va (.slice (some ⟨base, 0, none⟩) 1 1) (pairF xs ys)) := by have := HB.out; rw [e1] at this; rw [Hid, pairF, HNN.out]; exact this
        have hRw := HR.out.fr HF.out (by omega)
        obtain ⟨A3, n3, c3, rfl, q1, q2, _, _⟩ := HB.out.oa.rd.op
        obtain ⟨r0, r1, r2, f0, f1, f2⟩ := hRw.facts
        have d0 := HB.out.c0
        have d1 := HB.out.c1
        have d2 := HB.out.c2
        have HRW := Lib.hid hRw
        clear hRw e1
        go_wp2_with fail
        refine bodyPost_ret (v := .tuple #[.agg #[.int .i64 ((n' : Int) + 1), .slice A3 n3 c3, .slice (some ⟨base, 0, none⟩) 1 1], .int .i64 0]) ?_ rfl ?_
        · simp [results, Try.results16, go_sem, r0, r1, r2]
        refine ⟨⟨_, rfl, ?_⟩, ?_⟩
        · have := OwnF.past (base' := w.heap.size) HBF.out HRW.out (.int .i64 ((n' : Int) + 1)) (.slice A3 n3 c3) (.slice (some ⟨base, 0, none⟩) 1 1) (by omega)
          simp only [pairF, HNN.out] at this ⊢
          exact this
        · exact (((Fr.below HB2.out (by omega) HF.out).setCell (by simp) _).setCell (by simp) _).setCell (by simp) _
  · have HNN : Hid (pairN xs ys = n) := by rw [Hid, pairN, HN.out, HN'.out]; omega
    go_wp2_with fail
    generalize hW : World.alloc (World.alloc w1 _) _ = W
    have HW : Hid (Bld 29 W w1.heap.size (w1.heap.size + 1) (.slice none 0 0) (.slice (some ⟨w1.heap.size, 0, none⟩) 1 1) ⟨(n : Int) + 1, [], [(n : Int)]⟩) := by
      rw [← hW]
      refine ⟨?_, World.ownsRow_nil _ _ _ _, ?_, by decide, by decide, by omega⟩
      · have := heap_alloc_new (w1.alloc (.cells #[.int .i64 (n : Int)] 3)) (.cells #[.int .i64 ((n : Int) + 1), .slice none 0 0, .slice (some ⟨w1.heap.size, 0, none⟩) 1 1] 29)
        simpa using this
      · exact World.ownsRow.alloc ⟨rfl, .inr ⟨w1.heap.size, 1, #[.int .i64 (n : Int)], rfl, Nat.le_refl _, heap_alloc_new w1 _, Nat.le_refl _, by simp [maxLen], rfl, rfl⟩⟩ _
    have HR : Hid (FBlk W w.heap.size (.int .i64 0) (.slice none 0 0) (.slice none 0 0)) := by
      rw [← hW]; exact (Below.heap_alloc _ _ _ (by simp; omega)).trans ((Below.heap_alloc _ _ _ (by omega)).trans hR.out)
    have HB2 : Hid (Below w.heap.size w W) := by rw [← hW]; exact (HB1.out.alloc (by omega) _).alloc (by simp; omega) _
    clear hW hR HB1
    obtain ⟨base, hbase⟩ : ∃ base, base = w1.heap.size := ⟨_, rfl⟩
    rw [← hbase] at HW hz ⊢
    clear hbase
    go_loopw [29] (fun i wr => ∃ k : Nat, k ≤ n ∧ i = .int .i64 k ∧ Hid (∃ va, Bld 29 wr base (base + 1) va (.slice (some ⟨base, 0, none⟩) 1 1) ⟨(n : Int) + 1, pairArcs xs ys k, [(n : Int)]⟩) ∧ Hid (Fr base (base + 1) W wr)) (fun i _ => n - (intOf i).toNat)
    case atStart => exact ⟨0, Nat.zero_le _, rfl, ⟨_, HW.out⟩, Fr.refl _ _ _⟩
    case round =>
      obtain ⟨k, hk, rfl, HBE, HF⟩ := hrel
      obtain ⟨va, hbb⟩ := HBE.out
      have HB := Lib.hid hbb
      clear hbb HBE
      by_cases hlt : k < n
      · have hBl := HB.out.lt
        have HBW := Lib.hid (Fr.below HB2.out (by omega) HF.out)
        go_wp2_with fail
        refine wp_region_ord 13 [0, 1, 2, 3, 4, 5, 6, 7, 8, 9, 10, 11, 12] [] [0, 1, 2, 3, 4, 6, 7, 9, 10] [5, 8, 11, 12, 13, 14, 15] (fun w' => w'.heap[base + 1]? = wr.heap[base + 1]?) (by kernel_rfl) (by kernel_rfl) ?_
        rintro D hD
        have HD : Hid (Bld 29 D base (base + 1) va (.slice (some ⟨base, 0, none⟩) 1 1) ⟨(n : Int) + 1, pairArcs xs ys k, [(n : Int)]⟩) := by rw [hD]; exact HB.out.drew
        have HDF : Hid (Fr base (base + 1) W D) := by rw [hD]; exact HF.out.drewN 1
        have HDh : Hid (D.heap[base + 1]? = wr.heap[base + 1]?) := by rw [hD]; rfl
        have HDB : Hid (Below w.heap.size w D) := by rw [hD]; exact HBW.out.drew
        have hBD := HD.out.lt
        refine ⟨HDh.out, ?_⟩
        clear hD
        have HS : Hid (∀ w' : World, w'.heap[base + 1]? = wr.heap[base + 1]? → w'.cell? ⟨base + 1, 1, none⟩ = some va) := fun w' h => (World.cell?_of_block (a := ⟨base + 1, 1, none⟩) h).trans HB.out.c1
        have r0 : IntKind.i64.wrap ((k : Int) + 1) = (k : Int) + 1 := IntWalk.i64_in _ (by omega)
        iterate 9 (refine wpHead_cons (v := ?_) rfl rfl (fun w' hS => ?_) ?_; rotate_left; (focus ((try obtain c1 := HS.out _ (hS rfl)); clear hS; go_simp; try with_reducible rfl; done)); (try simp only [Act.put, List.setIfInBounds_toArray, List.set_cons_zero, List.set_cons_succ]))
        clear r0
        refine wpHead_nil ?_
        refine wpTail_cons rfl rfl (fun K hK => ?_)
        go_simp
        refine (at_any _ xs k _ (HV.out.below HDB.out)).mono ?_
        rintro e w' ⟨rfl, rfl⟩
        refine hK.out _ _ (fun _ => HDh.out) ?_
        clear hK K
        (try simp only [Act.put, List.setIfInBounds_toArray, List.set_cons_zero, List.set_cons_succ])
        refine wpTail_cons rfl rfl (fun K hK => ?_)
        go_simp
        refine (at_any _ ys k _ (HV'.out.below HDB.out)).mono ?_
        rintro e w' ⟨rfl, rfl⟩
        refine hK.out _ _ (fun _ => HDh.out) ?_
        clear hK K
        (try simp only [Act.put, List.setIfInBounds_toArray, List.set_cons_zero, List.set_cons_succ])
        refine wpTail_cons rfl rfl (fun K hK => ?_)
        go_simp
        refine hK.out _ _ (fun _ => HDh.out) ?_
        clear hK K
        (try simp only [Act.put, List.setIfInBounds_toArray, List.set_cons_zero, List.set_cons_succ])
        refine wpTail_cons rfl rfl (fun K hK => ?_)
        go_simp
        refine hK.out _ _ (fun _ => (Below.heap_alloc _ _ _ hBD).trans HDh.out) ?_
        clear hK K
        (try simp only [Act.put, List.setIfInBounds_toArray, List.set_cons_zero, List.set_cons_succ])
        refine wpTail_rest 13 rfl ?_
        simp only [List.drop_succ_cons, List.drop_zero]
        refine wpList_app_arc rfl (.tmp 33) (.tmp 44) rfl base va (pairArcs xs ys k) rfl HD.out.oa k (atL xs k) (atL ys k) (k + 1) k (pairArcs_length _ _ _) (by omega) (by omega) rfl ?_
        intro g' cap w3 ho hg hgr
        obtain ⟨k1, k2⟩ := HD.out.mid hgr
        have HO := Lib.hid ho
        clear ho
        (try simp only [Act.put, List.setIfInBounds_toArray, List.set_cons_zero, List.set_cons_succ])
        go_wp2_with fail
        refine NoPanic.normal ?_
        go_wp2_with fail
        go_roundw
        case rel =>
          have hp := HD.out.pushed hgr HO.out
          have h3 := hp.1
          have e1 : pairArcs xs ys k ++ [⟨(k : Int), atL xs k, atL ys k, (k : Int) + 1⟩] = pairArcs xs ys (k + 1) := (pairArcs_succ xs ys k).symm
          simp only [e1] at h3
          exact ⟨k + 1, by omega, by go_num, ⟨_, h3⟩, HDF.out.trans hp.2⟩
        case measure => simp [intOf]; omega
      · have e1 : k = n := by omega
        have HBF : Hid (Bld 29 wr base (base + 1) va (.slice (some ⟨base, 0, none⟩) 1 1) (pairF xs ys)) := by have := HB.out; rw [e1] at this; rw [Hid, pairF, HNN.out]; exact this
        have hRw := HR.out.fr HF.out (by omega)
        obtain ⟨A3, n3, c3, rfl, q1, q2, _, _⟩ := HB.out.oa.rd.op
        obtain ⟨r0, r1, r2, f0, f1, f2⟩ := hRw.facts
        have d0 := HB.out.c0
        have d1 := HB.out.c1
        have d2 := HB.out.c2
        have HRW := Lib.hid hRw
        clear hRw e1
        go_wp2_with fail
        refine bodyPost_ret (v := .tuple #[.agg #[.int .i64 ((n : Int) + 1), .slice A3 n3 c3, .slice (some ⟨base, 0, none⟩) 1 1], .int .i64 0]) ?_ rfl ?_
        · simp [results, Try.results16, go_sem, r0, r1, r2]
        refine ⟨⟨_, rfl, ?_⟩, ?_⟩
        · have := OwnF.past (base' := w.heap.size) HBF.out HRW.out (.int .i64 ((n : Int) + 1)) (.slice A3 n3 c3) (.slice (some ⟨base, 0, none⟩) 1 1) (by omega)
          simp only [pairF, HNN.out] at this ⊢
          exact this
        · exact (((Fr.below HB2.out (by omega) HF.out).setCell (by simp) _).setCell (by simp) _).setCell (by simp) _
end Go.Proofs.Ytmeppkkoepmlnaa
