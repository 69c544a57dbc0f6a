/-
  Pair of the reference 21: its error.
-/
import Derived.Test.YtmeppkkoepmlnaaT21
namespace Go.Proofs.Ytmeppkkoepmlnaa
open Go.ChangeShapes Go.WideShapes Go.ChangeAt Go.RowKit
theorem symE_short {most : Int} {xs : List Int} (h : ¬ most < (xs.length : Int)) : symE most xs = if symsB xs then 0 else 1 := by simp [symE, h]
set_option maxHeartbeats 1000000 in
theorem rpair_no (v v' : Value) (xs ys : List Int) (w : World) (hv : RdI w v xs) (hv' : RdI w v' ys) (he : wrongE 24 [xs, ys] ≠ 0) :
    Calls Try.prog 17 #[v, v'] w (PairErr (wrongE 24 [xs, ys]) w) := by
  have HV := Lib.hid hv
  have HV' := Lib.hid hv'
  obtain ⟨A, n, c, rfl, h1, h2, HN, hr⟩ := hv.op
  obtain ⟨A', n', c', rfl, h1', h2', HN', hr'⟩ := hv'.op
  clear hv hv'
  by_cases g1 : 24 < n
  · rw [wrongE_long (.inl (by rw [HN.out]; omega))]
    clear he
    have g1' : decide (24 < (n : Int)) = true := by simp; omega
    go_enter Try.func17, Try.ntmps17
    go_wp2_with fail
    refine bodyPost_ret (v := .tuple #[.agg #[.int .i64 0, .slice none 0 0, .slice none 0 0], .int .i64 5]) ?_ rfl ?_
    · simp [results, Try.results17, go_sem]
    exact ⟨⟨_, _, _, _, _, _, _, rfl⟩, by repeat (first | assumption | exact Below.refl _ _ | refine Below.alloc ?_ (by first | omega | (simp; done) | (simp; omega)) _ | refine Below.drew ?_ | refine below_drewN ?_ _ | refine Below.setCell ?_ (by first | omega | (simp; done) | (simp; omega)) _)⟩
  have g1' : decide (24 < (n : Int)) = false := by simp; omega
  by_cases g2 : 24 < n'
  · rw [wrongE_long (.inr (by rw [HN'.out]; omega))]
    clear he
    have g2' : decide (24 < (n' : Int)) = true := by simp; omega
    go_enter Try.func17, Try.ntmps17
    go_wp2_with fail
    refine bodyPost_ret (v := .tuple #[.agg #[.int .i64 0, .slice none 0 0, .slice none 0 0], .int .i64 5]) ?_ rfl ?_
    · simp [results, Try.results17, go_sem]
    exact ⟨⟨_, _, _, _, _, _, _, rfl⟩, by repeat (first | assumption | exact Below.refl _ _ | refine Below.alloc ?_ (by first | omega | (simp; done) | (simp; omega)) _ | refine Below.drew ?_ | refine below_drewN ?_ _ | refine Below.setCell ?_ (by first | omega | (simp; done) | (simp; omega)) _)⟩
  have g2' : decide (24 < (n' : Int)) = false := by simp; omega
  rw [wrongE_short (by rw [HN.out]; omega) (by rw [HN'.out]; omega)] at he ⊢
  have HE1 : Hid (symE 24 xs = if symsB xs then 0 else 1) := symE_short (by rw [HN.out]; omega)
  have HE2 : Hid (symE 24 ys = if symsB ys then 0 else 1) := symE_short (by rw [HN'.out]; omega)
  cases hs1 : symsB xs
  · rw [hs1] at he HE1
    simp only [Bool.false_and] at he ⊢
    have HE : Hid (symE 24 xs = 1) := HE1.out
    clear he hs1 HE1 HE2
    go_enter Try.func17, Try.ntmps17
    go_wp2_with fail
    refine (symbols_any _ xs 24 _ (Rd.alloc HV.out _)).mono ?_
    rintro e w1 ⟨rfl, rfl⟩
    rw [HE.out]
    go_wp2_with fail
    refine bodyPost_ret (v := .tuple #[.agg #[.int .i64 0, .slice none 0 0, .slice none 0 0], .int .i64 1]) ?_ rfl ?_
    · simp [results, Try.results17, go_sem]
    exact ⟨⟨_, _, _, _, _, _, _, rfl⟩, by repeat (first | assumption | exact Below.refl _ _ | refine Below.alloc ?_ (by first | omega | (simp; done) | (simp; omega)) _ | refine Below.drew ?_ | refine below_drewN ?_ _ | refine Below.setCell ?_ (by first | omega | (simp; done) | (simp; omega)) _)⟩
  · rw [hs1] at he HE1
    have HE : Hid (symE 24 xs = 0) := HE1.out
    cases hs2 : symsB ys
    · rw [hs2] at HE2
      have HEE : Hid (symE 24 ys = 1) := HE2.out
      clear he hs1 hs2 HE1 HE2
      go_enter Try.func17, Try.ntmps17
      go_wp2_with fail
      refine (symbols_any _ xs 24 _ (Rd.alloc HV.out _)).mono ?_
      rintro e w1 ⟨rfl, rfl⟩
      rw [HE.out]
      go_wp2_with fail
      refine (symbols_any _ ys 24 _ (Rd.alloc HV'.out _)).mono ?_
      rintro e w1 ⟨rfl, rfl⟩
      rw [HEE.out]
      go_wp2_with fail
      refine bodyPost_ret (v := .tuple #[.agg #[.int .i64 0, .slice none 0 0, .slice none 0 0], .int .i64 1]) ?_ rfl ?_
      · simp [results, Try.results17, go_sem]
      exact ⟨⟨_, _, _, _, _, _, _, rfl⟩, by repeat (first | assumption | exact Below.refl _ _ | refine Below.alloc ?_ (by first | omega | (simp; done) | (simp; omega)) _ | refine Below.drew ?_ | refine below_drewN ?_ _ | refine Below.setCell ?_ (by first | omega | (simp; done) | (simp; omega)) _)⟩
    · rw [hs2] at he
      exact absurd rfl he
set_option maxHeartbeats 4000000 in
theorem rpair_yes (v v' : Value) (xs ys : List Int) (w : World) (hv : RdI w v xs) (hv' : RdI w v' ys) (he : wrongE 24 [xs, ys] = 0) :
    Calls Try.prog 17 #[v, v'] w (PairErr 0 w) := by
  have HV := Lib.hid hv
  have HV' := Lib.hid hv'
  obtain ⟨A, n, c, rfl, h1, h2, HN, hr⟩ := hv.op
  obtain ⟨A', n', c', rfl, h1', h2', HN', hr'⟩ := hv'.op
  have g1 : n ≤ 24 := by
    apply Classical.byContradiction; intro h
    rw [wrongE_long (.inl (by rw [HN.out]; omega))] at he; cases he
  have g2 : n' ≤ 24 := by
    apply Classical.byContradiction; intro h
    rw [wrongE_long (.inr (by rw [HN'.out]; omega))] at he; cases he
  have g1' : decide (24 < (n : Int)) = false := by simp; omega
  have g2' : decide (24 < (n' : Int)) = false := by simp; omega
  rw [wrongE_short (by rw [HN.out]; omega) (by rw [HN'.out]; omega)] at he
  have hb : (symsB xs && symsB ys) = true := by
    cases h : (symsB xs && symsB ys)
    · rw [h] at he; cases he
    · rfl
  simp only [Bool.and_eq_true] at hb
  have HE : Hid (symE 24 xs = 0) := by rw [Hid, symE_short (by rw [HN.out]; omega), hb.1]; rfl
  have HEE : Hid (symE 24 ys = 0) := by rw [Hid, symE_short (by rw [HN'.out]; omega), hb.2]; rfl
  clear he hv hv' hb
  go_enter Try.func17, Try.ntmps17
  go_wp2_with fail
  refine (symbols_any _ xs 24 _ (Rd.alloc HV.out _)).mono ?_
  rintro e w1 ⟨rfl, rfl⟩
  rw [HE.out]
  go_wp2_with fail
  refine (symbols_any _ ys 24 _ (Rd.alloc HV'.out _)).mono ?_
  rintro e w1 ⟨rfl, rfl⟩
  rw [HEE.out]
  by_cases hmax : n < n'
  · skip
    go_wp2_with fail
    generalize hW : World.alloc (World.alloc (World.alloc w _) _) _ = W
    have HW : Hid (Bld 29 W (w.heap.size + 1) (w.heap.size + 1 + 1) (.slice none 0 0) (.slice (some ⟨w.heap.size + 1, 0, none⟩) 1 1) ⟨(n' : Int) + 1, [], [(n' : Int)]⟩) := by
      rw [← hW]
      refine ⟨?_, World.ownsRow_nil _ _ _ _, ?_, by decide, by decide, by omega⟩
      · have := heap_alloc_new ((w.alloc (.cells #[.int .i64 0, .slice none 0 0, .slice none 0 0] 29)).alloc (.cells #[.int .i64 (n' : Int)] 3)) (.cells #[.int .i64 ((n' : Int) + 1), .slice none 0 0, .slice (some ⟨w.heap.size + 1, 0, none⟩) 1 1] 29)
        simpa using this
      · have := heap_alloc_new (w.alloc (.cells #[.int .i64 0, .slice none 0 0, .slice none 0 0] 29)) (.cells #[.int .i64 (n' : Int)] 3)
        exact World.ownsRow.alloc ⟨rfl, .inr ⟨w.heap.size + 1, 1, #[.int .i64 (n' : Int)], rfl, Nat.le_refl _, by simpa using this, Nat.le_refl _, by simp [maxLen], rfl, rfl⟩⟩ _
    have HR : Hid (FBlk W w.heap.size (.int .i64 0) (.slice none 0 0) (.slice none 0 0)) := by
      rw [← hW]; exact (Below.heap_alloc _ _ _ (by first | omega | (simp; done) | (simp; omega))).trans ((Below.heap_alloc _ _ _ (by first | omega | (simp; done) | (simp; omega))).trans (heap_alloc_new w _))
    have HB2 : Hid (Below w.heap.size w W) := by rw [← hW]; repeat (first | assumption | exact Below.refl _ _ | refine Below.alloc ?_ (by first | omega | (simp; done) | (simp; omega)) _ | refine Below.drew ?_ | refine below_drewN ?_ _ | refine Below.setCell ?_ (by first | omega | (simp; done) | (simp; omega)) _)
    clear hW
    obtain ⟨base, hbase⟩ : ∃ base, base = w.heap.size + 1 := ⟨_, rfl⟩
    rw [← hbase] at HW ⊢
    have hz : w.heap.size < base := by omega
    clear hbase
    go_loopw [8] (fun i wr => ∃ k : Nat, k ≤ n' ∧ i = .int .i64 k ∧ Hid (∃ va, Bld 29 wr base (base + 1) va (.slice (some ⟨base, 0, none⟩) 1 1) ⟨(n' : Int) + 1, pairArcs xs ys k, [(n' : Int)]⟩) ∧ Hid (Fr base (base + 1) W wr)) (fun i _ => n' - (intOf i).toNat)
    case atStart => exact ⟨0, Nat.zero_le _, rfl, ⟨_, HW.out⟩, Fr.refl _ _ _⟩
    case round =>
      obtain ⟨k, hk, rfl, HBE, HF⟩ := hrel
      obtain ⟨va, hbb⟩ := HBE.out
      have HB := Lib.hid hbb
      clear hbb HBE
      by_cases hlt : k < n'
      · have hBl := HB.out.lt
        have HBW := Lib.hid (Fr.below HB2.out (by omega) HF.out)
        go_wp2_with fail
        refine wp_region_ord 13 [0, 1, 2, 3, 4, 5, 6, 7, 8, 9, 10, 11, 12] [] [0, 1, 2, 3, 4, 6, 7, 9, 10] [5, 8, 11, 12, 13, 14, 15] (fun w' => w'.heap[base + 1]? = wr.heap[base + 1]?) (by kernel_rfl) (by kernel_rfl) ?_
        rintro D hD
        have HD : Hid (Bld 29 D base (base + 1) va (.slice (some ⟨base, 0, none⟩) 1 1) ⟨(n' : Int) + 1, pairArcs xs ys k, [(n' : Int)]⟩) := by rw [hD]; exact HB.out.drew
        have HDF : Hid (Fr base (base + 1) W D) := by rw [hD]; exact HF.out.drewN 1
        have HDh : Hid (D.heap[base + 1]? = wr.heap[base + 1]?) := by rw [hD]; rfl
        have HDB : Hid (Below w.heap.size w D) := by rw [hD]; exact HBW.out.drew
        have hBD := HD.out.lt
        refine ⟨HDh.out, ?_⟩
        clear hD
        have HS : Hid (∀ w' : World, w'.heap[base + 1]? = wr.heap[base + 1]? → w'.cell? ⟨base + 1, 1, none⟩ = some va) := fun w' h => (World.cell?_of_block (a := ⟨base + 1, 1, none⟩) h).trans HB.out.c1
        have r0 : IntKind.i64.wrap ((k : Int) + 1) = (k : Int) + 1 := IntWalk.i64_in _ (by omega)
        iterate 9 (refine wpHead_cons (v := ?_) rfl rfl (fun w' hS => ?_) ?_; rotate_left; (focus ((try obtain c1 := HS.out _ (hS rfl)); clear hS; go_simp; try with_reducible rfl; done)); (try simp only [Act.put, List.setIfInBounds_toArray, List.set_cons_zero, List.set_cons_succ]))
        clear r0
        refine wpHead_nil ?_
        refine wpTail_cons rfl rfl (fun K hK => ?_)
        go_simp
        refine (atR_any _ xs k _ (HV.out.below HDB.out)).mono ?_
        rintro e w' ⟨rfl, rfl⟩
        refine hK.out _ _ (fun _ => HDh.out) ?_
        clear hK K
        (try simp only [Act.put, List.setIfInBounds_toArray, List.set_cons_zero, List.set_cons_succ])
        refine wpTail_cons rfl rfl (fun K hK => ?_)
        go_simp
        refine (atR_any _ ys k _ (HV'.out.below HDB.out)).mono ?_
        rintro e w' ⟨rfl, rfl⟩
        refine hK.out _ _ (fun _ => HDh.out) ?_
        clear hK K
        (try simp only [Act.put, List.setIfInBounds_toArray, List.set_cons_zero, List.set_cons_succ])
        refine wpTail_cons rfl rfl (fun K hK => ?_)
        go_simp
        refine hK.out _ _ (fun _ => HDh.out) ?_
        clear hK K
        (try simp only [Act.put, List.setIfInBounds_toArray, List.set_cons_zero, List.set_cons_succ])
        refine wpTail_cons rfl rfl (fun K hK => ?_)
        go_simp
        refine hK.out _ _ (fun _ => (Below.heap_alloc _ _ _ hBD).trans HDh.out) ?_
        clear hK K
        (try simp only [Act.put, List.setIfInBounds_toArray, List.set_cons_zero, List.set_cons_succ])
        refine wpTail_rest 13 rfl ?_
        simp only [List.drop_succ_cons, List.drop_zero]
        refine wpList_app_arc rfl (.tmp 43) (.tmp 54) rfl base va (pairArcs xs ys k) rfl HD.out.oa k (atL xs k) (atL ys k) (k + 1) k (pairArcs_length _ _ _) (by omega) (by omega) rfl ?_
        intro g' cap w3 ho hg hgr
        obtain ⟨k1, k2⟩ := HD.out.mid hgr
        have HO := Lib.hid ho
        clear ho
        (try simp only [Act.put, List.setIfInBounds_toArray, List.set_cons_zero, List.set_cons_succ])
        go_wp2_with fail
        refine NoPanic.normal ?_
        go_wp2_with fail
        go_roundw
        case rel =>
          have hp := HD.out.pushed hgr HO.out
          have h3 := hp.1
          have e1 : pairArcs xs ys k ++ [⟨(k : Int), atL xs k, atL ys k, (k : Int) + 1⟩] = pairArcs xs ys (k + 1) := (pairArcs_succ xs ys k).symm
          simp only [e1] at h3
          exact ⟨k + 1, by omega, by go_num, ⟨_, h3⟩, HDF.out.trans hp.2⟩
        case measure => simp [intOf]; omega
      · have hRw := HR.out.fr HF.out (by omega)
        obtain ⟨A3, n3, c3, rfl, q1, q2, _, _⟩ := HB.out.oa.rd.op
        obtain ⟨r0, r1, r2, f0, f1, f2⟩ := hRw.facts
        have d0 := HB.out.c0
        have d1 := HB.out.c1
        have d2 := HB.out.c2
        clear hRw
        go_wp2_with fail
        refine bodyPost_ret (v := .tuple #[.agg #[.int .i64 ((n' : Int) + 1), .slice A3 n3 c3, .slice (some ⟨base, 0, none⟩) 1 1], .int .i64 0]) ?_ rfl ?_
        · simp [results, Try.results17, go_sem, r0, r1, r2]
        exact ⟨⟨_, _, _, _, _, _, _, rfl⟩, (((Fr.below HB2.out (by omega) HF.out).setCell (by first | omega | (simp; done) | (simp; omega)) _).setCell (by first | omega | (simp; done) | (simp; omega)) _).setCell (by first | omega | (simp; done) | (simp; omega)) _⟩
  · skip
    go_wp2_with fail
    generalize hW : World.alloc (World.alloc (World.alloc w _) _) _ = W
    have HW : Hid (Bld 29 W (w.heap.size + 1) (w.heap.size + 1 + 1) (.slice none 0 0) (.slice (some ⟨w.heap.size + 1, 0, none⟩) 1 1) ⟨(n : Int) + 1, [], [(n : Int)]⟩) := by
      rw [← hW]
      refine ⟨?_, World.ownsRow_nil _ _ _ _, ?_, by decide, by decide, by omega⟩
      · have := heap_alloc_new ((w.alloc (.cells #[.int .i64 0, .slice none 0 0, .slice none 0 0] 29)).alloc (.cells #[.int .i64 (n : Int)] 3)) (.cells #[.int .i64 ((n : Int) + 1), .slice none 0 0, .slice (some ⟨w.heap.size + 1, 0, none⟩) 1 1] 29)
        simpa using this
      · have := heap_alloc_new (w.alloc (.cells #[.int .i64 0, .slice none 0 0, .slice none 0 0] 29)) (.cells #[.int .i64 (n : Int)] 3)
        exact World.ownsRow.alloc ⟨rfl, .inr ⟨w.heap.size + 1, 1, #[.int .i64 (n : Int)], rfl, Nat.le_refl _, by simpa using this, Nat.le_refl _, by simp [maxLen], rfl, rfl⟩⟩ _
    have HR : Hid (FBlk W w.heap.size (.int .i64 0) (.slice none 0 0) (.slice none 0 0)) := by
      rw [← hW]; exact (Below.heap_alloc _ _ _ (by first | omega | (simp; done) | (simp; omega))).trans ((Below.heap_alloc _ _ _ (by first | omega | (simp; done) | (simp; omega))).trans (heap_alloc_new w _))
    have HB2 : Hid (Below w.heap.size w W) := by rw [← hW]; repeat (first | assumption | exact Below.refl _ _ | refine Below.alloc ?_ (by first | omega | (simp; done) | (simp; omega)) _ | refine Below.drew ?_ | refine below_drewN ?_ _ | refine Below.setCell ?_ (by first | omega | (simp; done) | (simp; omega)) _)
    clear hW
    obtain ⟨base, hbase⟩ : ∃ base, base = w.heap.size + 1 := ⟨_, rfl⟩
    rw [← hbase] at HW ⊢
    have hz : w.heap.size < base := by omega
    clear hbase
    go_loopw [8] (fun i wr => ∃ k : Nat, k ≤ n ∧ i = .int .i64 k ∧ Hid (∃ va, Bld 29 wr base (base + 1) va (.slice (some ⟨base, 0, none⟩) 1 1) ⟨(n : Int) + 1, pairArcs xs ys k, [(n : Int)]⟩) ∧ Hid (Fr base (base + 1) W wr)) (fun i _ => n - (intOf i).toNat)
    case atStart => exact ⟨0, Nat.zero_le _, rfl, ⟨_, HW.out⟩, Fr.refl _ _ _⟩
    case round =>
      obtain ⟨k, hk, rfl, HBE, HF⟩ := hrel
      obtain ⟨va, hbb⟩ := HBE.out
      have HB := Lib.hid hbb
      clear hbb HBE
      by_cases hlt : k < n
      · have hBl := HB.out.lt
        have HBW := Lib.hid (Fr.below HB2.out (by omega) HF.out)
        go_wp2_with fail
        refine wp_region_ord 13 [0, 1, 2, 3, 4, 5, 6, 7, 8, 9, 10, 11, 12] [] [0, 1, 2, 3, 4, 6, 7, 9, 10] [5, 8, 11, 12, 13, 14, 15] (fun w' => w'.heap[base + 1]? = wr.heap[base + 1]?) (by kernel_rfl) (by kernel_rfl) ?_
        rintro D hD
        have HD : Hid (Bld 29 D base (base + 1) va (.slice (some ⟨base, 0, none⟩) 1 1) ⟨(n : Int) + 1, pairArcs xs ys k, [(n : Int)]⟩) := by rw [hD]; exact HB.out.drew
        have HDF : Hid (Fr base (base + 1) W D) := by rw [hD]; exact HF.out.drewN 1
        have HDh : Hid (D.heap[base + 1]? = wr.heap[base + 1]?) := by rw [hD]; rfl
        have HDB : Hid (Below w.heap.size w D) := by rw [hD]; exact HBW.out.drew
        have hBD := HD.out.lt
        refine ⟨HDh.out, ?_⟩
        clear hD
        have HS : Hid (∀ w' : World, w'.heap[base + 1]? = wr.heap[base + 1]? → w'.cell? ⟨base + 1, 1, none⟩ = some va) := fun w' h => (World.cell?_of_block (a := ⟨base + 1, 1, none⟩) h).trans HB.out.c1
        have r0 : IntKind.i64.wrap ((k : Int) + 1) = (k : Int) + 1 := IntWalk.i64_in _ (by omega)
        iterate 9 (refine wpHead_cons (v := ?_) rfl rfl (fun w' hS => ?_) ?_; rotate_left; (focus ((try obtain c1 := HS.out _ (hS rfl)); clear hS; go_simp; try with_reducible rfl; done)); (try simp only [Act.put, List.setIfInBounds_toArray, List.set_cons_zero, List.set_cons_succ]))
        clear r0
        refine wpHead_nil ?_
        refine wpTail_cons rfl rfl (fun K hK => ?_)
        go_simp
        refine (atR_any _ xs k _ (HV.out.below HDB.out)).mono ?_
        rintro e w' ⟨rfl, rfl⟩
        refine hK.out _ _ (fun _ => HDh.out) ?_
        clear hK K
        (try simp only [Act.put, List.setIfInBounds_toArray, List.set_cons_zero, List.set_cons_succ])
        refine wpTail_cons rfl rfl (fun K hK => ?_)
        go_simp
        refine (atR_any _ ys k _ (HV'.out.below HDB.out)).mono ?_
        rintro e w' ⟨rfl, rfl⟩
        refine hK.out _ _ (fun _ => HDh.out) ?_
        clear hK K
        (try simp only [Act.put, List.setIfInBounds_toArray, List.set_cons_zero, List.set_cons_succ])
        refine wpTail_cons rfl rfl (fun K hK => ?_)
        go_simp
        refine hK.out _ _ (fun _ => HDh.out) ?_
        clear hK K
        (try simp only [Act.put, List.setIfInBounds_toArray, List.set_cons_zero, List.set_cons_succ])
        refine wpTail_cons rfl rfl (fun K hK => ?_)
        go_simp
        refine hK.out _ _ (fun _ => (Below.heap_alloc _ _ _ hBD).trans HDh.out) ?_
        clear hK K
        (try simp only [Act.put, List.setIfInBounds_toArray, List.set_cons_zero, List.set_cons_succ])
        refine wpTail_rest 13 rfl ?_
        simp only [List.drop_succ_cons, List.drop_zero]
        refine wpList_app_arc rfl (.tmp 43) (.tmp 54) rfl base va (pairArcs xs ys k) rfl HD.out.oa k (atL xs k) (atL ys k) (k + 1) k (pairArcs_length _ _ _) (by omega) (by omega) rfl ?_
        intro g' cap w3 ho hg hgr
        obtain ⟨k1, k2⟩ := HD.out.mid hgr
        have HO := Lib.hid ho
        clear ho
        (try simp only [Act.put, List.setIfInBounds_toArray, List.set_cons_zero, List.set_cons_succ])
        go_wp2_with fail
        refine NoPanic.normal ?_
        go_wp2_with fail
        go_roundw
        case rel =>
          have hp := HD.out.pushed hgr HO.out
          have h3 := hp.1
          have e1 : pairArcs xs ys k ++ [⟨(k : Int), atL xs k, atL ys k, (k : Int) + 1⟩] = pairArcs xs ys (k + 1) := (pairArcs_succ xs ys k).symm
          simp only [e1] at h3
          exact ⟨k + 1, by omega, by go_num, ⟨_, h3⟩, HDF.out.trans hp.2⟩
        case measure => simp [intOf]; omega
      · have hRw := HR.out.fr HF.out (by omega)
        obtain ⟨A3, n3, c3, rfl, q1, q2, _, _⟩ := HB.out.oa.rd.op
        obtain ⟨r0, r1, r2, f0, f1, f2⟩ := hRw.facts
        have d0 := HB.out.c0
        have d1 := HB.out.c1
        have d2 := HB.out.c2
        clear hRw
        go_wp2_with fail
        refine bodyPost_ret (v := .tuple #[.agg #[.int .i64 ((n : Int) + 1), .slice A3 n3 c3, .slice (some ⟨base, 0, none⟩) 1 1], .int .i64 0]) ?_ rfl ?_
        · simp [results, Try.results17, go_sem, r0, r1, r2]
        exact ⟨⟨_, _, _, _, _, _, _, rfl⟩, (((Fr.below HB2.out (by omega) HF.out).setCell (by first | omega | (simp; done) | (simp; omega)) _).setCell (by first | omega | (simp; done) | (simp; omega)) _).setCell (by first | omega | (simp; done) | (simp; omega)) _⟩
theorem rpair_any (v v' : Value) (xs ys : List Int) (w : World) (hv : RdI w v xs) (hv' : RdI w v' ys) : Calls Try.prog 17 #[v, v'] w (PairErr (wrongE 24 [xs, ys]) w) := by
  by_cases he : wrongE 24 [xs, ys] = 0
  · rw [he]; exact rpair_yes v v' xs ys w hv hv' he
  · exact rpair_no v v' xs ys w hv hv' he
end Go.Proofs.Ytmeppkkoepmlnaa
