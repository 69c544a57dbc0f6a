/-
  Pair and Identity of the reference 21: their errors.
-/
import Derived.Test.YtmeppkkoepmlnaaT20
namespace Go.Proofs.Ytmeppkkoepmlnaa
open Go.ChangeShapes Go.WideShapes Go.ChangeAt Go.RowKit
theorem wrongE_long {most : Int} {xs ys : List Int} (h : most < (xs.length : Int) ∨ most < (ys.length : Int)) : wrongE most [xs, ys] = 5 := by
  rcases h with h | h <;> simp [wrongE, longB, h]
theorem wrongE_short {most : Int} {xs ys : List Int} (h1 : ¬ most < (xs.length : Int)) (h2 : ¬ most < (ys.length : Int)) : wrongE most [xs, ys] = if symsB xs && symsB ys then 0 else 1 := by
  simp [wrongE, longB, h1, h2, symsB]
theorem wrongE_one (most : Int) (xs : List Int) : wrongE most [xs] = symE most xs := by
  simp [wrongE, symE, longB]
def PairErr (x : Int) (w : World) (e : Ending) (w' : World) : Prop := (∃ s A n c A' n' c', e = .returned (.tuple #[.agg #[.int .i64 s, .slice A n c, .slice A' n' c'], .int .i64 x])) ∧ Below w.heap.size w w'
theorem rident_no (v : Value) (xs : List Int) (w : World) (hv : RdI w v xs) (he : symE 60 xs ≠ 0) :
    Calls Try.prog 22 #[v] w (PairErr (symE 60 xs) w) := by
  obtain ⟨x, hxe⟩ : ∃ x, symE 60 xs = x := ⟨_, rfl⟩
  rw [hxe] at he ⊢
  have HX := Lib.hid hxe
  have hn : (x != 0) = true := by simpa using he
  have HV := Lib.hid hv
  obtain ⟨A, n, c, rfl, h1, h2, HN, hr⟩ := hv.op
  clear hv hxe he
  go_enter Try.func22, Try.ntmps22
  go_wp2_with fail
  refine (symbols_any _ xs 60 _ (Rd.alloc HV.out _)).mono ?_
  rintro e w1 ⟨rfl, rfl⟩
  rw [HX.out]
  go_wp2_with fail
  refine bodyPost_ret (v := .tuple #[.agg #[.int .i64 0, .slice none 0 0, .slice none 0 0], .int .i64 x]) ?_ rfl ?_
  · simp [results, Try.results22, go_sem]
  exact ⟨⟨_, _, _, _, _, _, _, rfl⟩, by repeat (first | assumption | exact Below.refl _ _ | refine Below.alloc ?_ (by first | omega | (simp; done) | (simp; omega)) _ | refine Below.drew ?_ | refine below_drewN ?_ _ | refine Below.setCell ?_ (by first | omega | (simp; done) | (simp; omega)) _)⟩
set_option maxHeartbeats 2000000 in
theorem rident_yes (v : Value) (xs : List Int) (w : World) (hv : RdI w v xs) (hx : xs.length ≤ 1000) (he : symE 60 xs = 0) :
    Calls Try.prog 22 #[v] w (PairErr 0 w) := by
  have HX := Lib.hid he
  have HV := Lib.hid hv
  obtain ⟨A, n, c, rfl, h1, h2, HN, hr⟩ := hv.op
  have hn : n ≤ 1000 := by rw [← HN.out]; exact hx
  clear hv hx he
  go_enter Try.func22, Try.ntmps22
  go_wp2_with fail
  refine (symbols_any _ xs 60 _ (Rd.alloc HV.out _)).mono ?_
  rintro e w1 ⟨rfl, rfl⟩
  rw [HX.out]
  go_wp2_with fail
  generalize hW : World.alloc (World.alloc (World.alloc w _) _) _ = W
  have HW : Hid (Bld 29 W (w.heap.size + 1) (w.heap.size + 1 + 1) (.slice none 0 0) (.slice (some ⟨w.heap.size + 1, 0, none⟩) 1 1) ⟨1, [], [0]⟩) := by
    rw [← hW]
    refine ⟨?_, World.ownsRow_nil _ _ _ _, ?_, by decide, by decide, by omega⟩
    · have := heap_alloc_new ((w.alloc (.cells #[.int .i64 0, .slice none 0 0, .slice none 0 0] 29)).alloc (.cells #[.int .i64 0] 3)) (.cells #[.int .i64 1, .slice none 0 0, .slice (some ⟨w.heap.size + 1, 0, none⟩) 1 1] 29)
      simpa using this
    · have := heap_alloc_new (w.alloc (.cells #[.int .i64 0, .slice none 0 0, .slice none 0 0] 29)) (.cells #[.int .i64 0] 3)
      exact World.ownsRow.alloc ⟨rfl, .inr ⟨w.heap.size + 1, 1, #[.int .i64 0], rfl, Nat.le_refl _, by simpa using this, Nat.le_refl _, by simp [maxLen], rfl, rfl⟩⟩ _
  have HR : Hid (FBlk W w.heap.size (.int .i64 0) (.slice none 0 0) (.slice none 0 0)) := by
    rw [← hW]; exact (Below.heap_alloc _ _ _ (by first | omega | (simp; done) | (simp; omega))).trans ((Below.heap_alloc _ _ _ (by first | omega | (simp; done) | (simp; omega))).trans (heap_alloc_new w _))
  have HB2 : Hid (Below w.heap.size w W) := by rw [← hW]; repeat (first | assumption | exact Below.refl _ _ | refine Below.alloc ?_ (by first | omega | (simp; done) | (simp; omega)) _ | refine Below.drew ?_ | refine below_drewN ?_ _ | refine Below.setCell ?_ (by first | omega | (simp; done) | (simp; omega)) _)
  clear hW
  obtain ⟨base, hbase⟩ : ∃ base, base = w.heap.size + 1 := ⟨_, rfl⟩
  rw [← hbase] at HW ⊢
  have hz : w.heap.size < base := by omega
  clear hbase
  go_loopw [6] (fun i wr => ∃ k : Nat, k ≤ n ∧ i = .int .i64 k ∧ Hid (∃ va, Bld 29 wr base (base + 1) va (.slice (some ⟨base, 0, none⟩) 1 1) ⟨1, (xs.take k).map idArc, [0]⟩) ∧ Hid (Fr base (base + 1) W wr)) (fun i _ => n - (intOf i).toNat)
  case atStart => exact ⟨0, Nat.zero_le _, rfl, ⟨_, HW.out⟩, Fr.refl _ _ _⟩
  case round =>
    obtain ⟨k, hk, rfl, HBE, HF⟩ := hrel
    obtain ⟨va, hbb⟩ := HBE.out
    have HB := Lib.hid hbb
    clear hbb HBE
    by_cases hlt : k < n
    · obtain ⟨b, off, x, rfl, hbl, hd, hck⟩ := (hr.out k hlt).below (Fr.below HB2.out (by omega) HF.out)
      have hBl := HB.out.lt
      obtain ⟨m, hm⟩ : ∃ m, ((xs.take k).map idArc).length = m := ⟨_, rfl⟩
      have hml : m ≤ 1000000 := by simp at hm; omega
      have HM := Lib.hid hm
      clear hm
      have hk0 : (0 : Int) ≤ (k : Int) := by omega
      have hk1 : (k : Int) < (n : Int) := by omega
      go_wp2_with fail
      refine wp_region_ord 12 [0, 1, 2, 3, 4, 5, 6, 7, 8, 9, 10, 11] [] [0, 1, 2, 3, 4, 5, 6, 7, 8, 9, 10] [11, 12, 13, 14] (fun w' => w'.heap[base + 1]? = wr.heap[base + 1]? ∧ w'.heap[b]? = wr.heap[b]?) (by kernel_rfl) (by kernel_rfl) ?_
      rintro D hD
      have HD : Hid (Bld 29 D base (base + 1) va (.slice (some ⟨base, 0, none⟩) 1 1) ⟨1, (xs.take k).map idArc, [0]⟩) := by rw [hD]; exact HB.out.drew
      have HDF : Hid (Fr base (base + 1) W D) := by rw [hD]; exact HF.out.drewN 1
      have HDh : Hid (D.heap[base + 1]? = wr.heap[base + 1]?) := by rw [hD]; rfl
      have HDb : Hid (D.heap[b]? = wr.heap[b]?) := by rw [hD]; rfl
      have hBD := HD.out.lt
      have hbD : b < D.heap.size := by rw [hD]; exact hbl
      refine ⟨⟨HDh.out, HDb.out⟩, ?_⟩
      clear hD
      have HCK := Lib.hid hck
      clear hck
      have HS : Hid (∀ w' : World, (w'.heap[base + 1]? = wr.heap[base + 1]? ∧ w'.heap[b]? = wr.heap[b]?) → w'.cell? ⟨base + 1, 1, none⟩ = some va ∧ w'.cell? ⟨b, off + k, none⟩ = some (.int .i64 x)) := fun w' h => ⟨(World.cell?_of_block (a := ⟨base + 1, 1, none⟩) h.1).trans HB.out.c1, (World.cell?_of_block (a := ⟨b, off + k, none⟩) h.2).trans HCK.out⟩
      iterate 11 (refine wpHead_cons (v := ?_) rfl rfl (fun w' hS => ?_) ?_; rotate_left; (focus ((try obtain ⟨c1, c2⟩ := HS.out _ (hS rfl)); clear hS; go_simp; try with_reducible rfl; done)); (try simp only [Act.put, List.setIfInBounds_toArray, List.set_cons_zero, List.set_cons_succ]))
      refine wpHead_nil ?_
      refine wpTail_cons rfl rfl (fun K hK => ?_)
      go_simp
      refine hK.out _ _ (fun _ => ⟨(Below.heap_alloc _ _ _ hBD).trans HDh.out, (Below.heap_alloc _ _ _ hbD).trans HDb.out⟩) ?_
      clear hK K
      (try simp only [Act.put, List.setIfInBounds_toArray, List.set_cons_zero, List.set_cons_succ])
      refine wpTail_rest 12 rfl ?_
      simp only [List.drop_succ_cons, List.drop_zero]
      refine wpList_app_arc rfl (.tmp 22) (.tmp 32) rfl base va ((xs.take k).map idArc) rfl HD.out.oa 0 x x 0 m HM hml (by omega) rfl ?_
      intro g' cap w3 ho hg hgr
      obtain ⟨k1, k2⟩ := HD.out.mid hgr
      have HO := Lib.hid ho
      clear ho
      (try simp only [Act.put, List.setIfInBounds_toArray, List.set_cons_zero, List.set_cons_succ])
      go_wp2_with fail
      refine NoPanic.normal ?_
      go_wp2_with fail
      go_roundw
      case rel =>
        have hp := HD.out.pushed hgr HO.out
        have h3 := hp.1
        have e1 : (xs.take k).map idArc ++ [⟨0, x, x, 0⟩] = (xs.take (k + 1)).map idArc := by rw [take_of_drop hd.out]; simp [idArc]
        simp only [e1] at h3
        exact ⟨k + 1, by omega, by go_num, ⟨_, h3⟩, HDF.out.trans hp.2⟩
      case measure => simp [intOf]; omega
    · have hRw := HR.out.fr HF.out (by omega)
      obtain ⟨A', n', c', rfl, q1, q2, _, _⟩ := HB.out.oa.rd.op
      obtain ⟨r0, r1, r2, f0, f1, f2⟩ := hRw.facts
      have d0 := HB.out.c0
      have d1 := HB.out.c1
      have d2 := HB.out.c2
      clear hRw
      go_wp2_with fail
      refine bodyPost_ret (v := .tuple #[.agg #[.int .i64 1, .slice A' n' c', .slice (some ⟨base, 0, none⟩) 1 1], .int .i64 0]) ?_ rfl ?_
      · simp [results, Try.results22, go_sem, r0, r1, r2]
      exact ⟨⟨_, _, _, _, _, _, _, rfl⟩, (((Fr.below HB2.out (by omega) HF.out).setCell (by first | omega | (simp; done) | (simp; omega)) _).setCell (by first | omega | (simp; done) | (simp; omega)) _).setCell (by first | omega | (simp; done) | (simp; omega)) _⟩
theorem rident_any (v : Value) (xs : List Int) (w : World) (hv : RdI w v xs) (hx : xs.length ≤ 1000) : Calls Try.prog 22 #[v] w (PairErr (symE 60 xs) w) := by
  by_cases he : symE 60 xs = 0
  · rw [he]; exact rident_yes v xs w hv hx he
  · exact rident_no v xs w hv he
end Go.Proofs.Ytmeppkkoepmlnaa
