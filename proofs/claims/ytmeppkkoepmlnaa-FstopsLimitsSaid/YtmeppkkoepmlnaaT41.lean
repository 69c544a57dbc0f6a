/-
  FstopsLimits: large.
-/
import Derived.Test.YtmeppkkoepmlnaaT39
namespace Go.Proofs.Ytmeppkkoepmlnaa
open Go.ChangeShapes Go.WideShapes Go.ChangeAt Go.RowKit
def largeArcs (s k : Nat) : List PArc := (List.range k).map fun (i : Nat) => ⟨(i : Int) % (s : Int), 1, 0, 0⟩
def largeF (s n : Nat) : PFst := ⟨s, largeArcs s n, [0]⟩
theorem largeArcs_succ (s k : Nat) : largeArcs s (k + 1) = largeArcs s k ++ [⟨((k : Int) % (s : Int)), 1, 0, 0⟩] := by simp [largeArcs, List.range_succ]
theorem largeArcs_length (s k : Nat) : (largeArcs s k).length = k := by simp [largeArcs]
set_option maxHeartbeats 4000000 in
theorem large_any (s n : Nat) (w : World) (h1 : 1 ≤ s) (h2 : s ≤ 1100) (h3 : n ≤ 10100) :
    Calls Try.prog 37 #[.int .i64 (s : Int), .int .i64 (n : Int)] w fun e w' => (∃ vF, e = .returned vF ∧ OwnF w.heap.size w' vF (largeF s n)) ∧ Below w.heap.size w w' := by
  go_enter Try.func37, Try.ntmps37
  go_wp2_with fail
  generalize hw1 : World.alloc w _ = w1
  have hR : Hid (FBlk w1 w.heap.size (.int .i64 0) (.slice none 0 0) (.slice none 0 0)) := by rw [← hw1]; exact heap_alloc_new w _
  have HB1 : Hid (Below w.heap.size w w1) := by rw [← hw1]; repeat (first | assumption | exact Below.refl _ _ | refine Below.alloc ?_ (by first | omega | (simp; done) | (simp; omega)) _ | refine Below.drew ?_ | refine below_drewN ?_ _ | refine Below.setCell ?_ (by first | omega | (simp; done) | (simp; omega)) _)
  have hz : w.heap.size + 1 = w1.heap.size := by rw [← hw1]; simp
  simp only [hz]
  clear hw1
  generalize hW : World.alloc (World.alloc w1 _) _ = W
  have HW : Hid (Bld 29 W w1.heap.size (w1.heap.size + 1) (.slice none 0 0) (.slice (some ⟨w1.heap.size, 0, none⟩) 1 1) ⟨s, [], [0]⟩) := by
    rw [← hW]
    refine ⟨?_, World.ownsRow_nil _ _ _ _, ?_, by decide, by decide, by omega⟩
    · have := heap_alloc_new (w1.alloc (.cells #[.int .i64 0] 3)) (.cells #[.int .i64 s, .slice none 0 0, .slice (some ⟨w1.heap.size, 0, none⟩) 1 1] 29)
      simpa using this
    · exact World.ownsRow.alloc ⟨rfl, .inr ⟨w1.heap.size, 1, #[.int .i64 0], rfl, Nat.le_refl _, heap_alloc_new w1 _, Nat.le_refl _, by simp [maxLen], rfl, rfl⟩⟩ _
  have HR : Hid (FBlk W w.heap.size (.int .i64 0) (.slice none 0 0) (.slice none 0 0)) := by
    rw [← hW]; exact (Below.heap_alloc _ _ _ (by simp; omega)).trans ((Below.heap_alloc _ _ _ (by omega)).trans hR.out)
  have HB2 : Hid (Below w.heap.size w W) := by rw [← hW]; exact (HB1.out.alloc (by omega) _).alloc (by simp; omega) _
  clear hW hR HB1
  obtain ⟨base, hbase⟩ : ∃ base, base = w1.heap.size := ⟨_, rfl⟩
  rw [← hbase] at HW hz ⊢
  clear hbase
  have hbs : w.heap.size < base := by omega
  clear hz
  go_loopw [6] (fun i wr => ∃ k : Nat, k ≤ n ∧ i = .int .i64 k ∧ Hid (∃ va, Bld 29 wr base (base + 1) va (.slice (some ⟨base, 0, none⟩) 1 1) ⟨s, largeArcs s k, [0]⟩) ∧ Hid (Fr base (base + 1) W wr)) (fun i _ => n - (intOf i).toNat)
  case atStart => exact ⟨0, Nat.zero_le _, rfl, ⟨_, HW.out⟩, Fr.refl _ _ _⟩
  case round =>
    obtain ⟨k, hk, rfl, HBE, HF⟩ := hrel
    obtain ⟨va, hbb⟩ := HBE.out
    have HB := Lib.hid hbb
    clear hbb HBE
    by_cases hlt : k < n
    · have hBl := HB.out.lt
      go_wp2_with fail
      refine wp_region_ord 7 [0, 1, 2, 3, 4, 5, 6] [] [0, 1, 2, 3, 4, 5] [6, 7, 8, 9] (fun w' => w'.heap[base + 1]? = wr.heap[base + 1]?) (by kernel_rfl) (by kernel_rfl) ?_
      rintro D hD
      have HD : Hid (Bld 29 D base (base + 1) va (.slice (some ⟨base, 0, none⟩) 1 1) ⟨s, largeArcs s k, [0]⟩) := by rw [hD]; exact HB.out.drew
      have HDF : Hid (Fr base (base + 1) W D) := by rw [hD]; exact HF.out.drewN 1
      have HDh : Hid (D.heap[base + 1]? = wr.heap[base + 1]?) := by rw [hD]; rfl
      have hBD := HD.out.lt
      refine ⟨HDh.out, ?_⟩
      clear hD
      have HS : Hid (∀ w' : World, w'.heap[base + 1]? = wr.heap[base + 1]? → w'.cell? ⟨base + 1, 1, none⟩ = some va) := fun w' h => (World.cell?_of_block (a := ⟨base + 1, 1, none⟩) h).trans HB.out.c1
      have r1 : ¬ s = 0 := by omega
      iterate 6 (refine wpHead_cons (v := ?_) rfl rfl (fun w' hS => ?_) ?_; rotate_left; (focus ((try obtain c1 := HS.out _ (hS rfl)); clear hS; go_simp; try with_reducible rfl; done)); (try simp only [Act.put, List.setIfInBounds_toArray, List.set_cons_zero, List.set_cons_succ]))
      clear r1
      refine wpHead_nil ?_
      refine wpTail_cons rfl rfl (fun K hK => ?_)
      go_simp
      refine hK.out _ _ (fun _ => (Below.heap_alloc _ _ _ hBD).trans HDh.out) ?_
      clear hK K
      (try simp only [Act.put, List.setIfInBounds_toArray, List.set_cons_zero, List.set_cons_succ])
      refine wpTail_rest 7 rfl ?_
      simp only [List.drop_succ_cons, List.drop_zero]
      refine wpList_app_arc rfl (.tmp 16) (.tmp 21) rfl base va (largeArcs s k) rfl HD.out.oa ((k : Int) % (s : Int)) 1 0 0 k (largeArcs_length _ _) (by omega) (by omega) rfl ?_
      intro g' cap w3 ho hg hgr
      obtain ⟨k1, k2⟩ := HD.out.mid hgr
      have HO := Lib.hid ho
      clear ho
      (try simp only [Act.put, List.setIfInBounds_toArray, List.set_cons_zero, List.set_cons_succ])
      go_wp2_with fail
      refine NoPanic.normal ?_
      go_wp2_with fail
      go_roundw
      case rel =>
        have hp := HD.out.pushed hgr HO.out
        have h3 := hp.1
        have e1 := (largeArcs_succ s k).symm
        simp only [e1] at h3
        exact ⟨k + 1, by omega, by go_num, ⟨_, h3⟩, HDF.out.trans hp.2⟩
      case measure => simp [intOf]; omega
    · have e1 : k = n := by omega
      have HBF : Hid (Bld 29 wr base (base + 1) va (.slice (some ⟨base, 0, none⟩) 1 1) (largeF s n)) := by have := HB.out; rw [e1] at this; exact this
      have hRw := HR.out.fr HF.out (by omega)
      obtain ⟨A', n', c', rfl, q1, q2, _, _⟩ := HB.out.oa.rd.op
      obtain ⟨r0, r1, r2, f0, f1, f2⟩ := hRw.facts
      have d0 := HB.out.c0
      have d1 := HB.out.c1
      have d2 := HB.out.c2
      have HRW := Lib.hid hRw
      clear hRw e1
      go_wp2_with fail
      refine bodyPost_ret (v := .agg #[.int .i64 s, .slice A' n' c', .slice (some ⟨base, 0, none⟩) 1 1]) ?_ rfl ?_
      · simp [results, Try.results37, go_sem, r0, r1, r2]
      refine ⟨⟨_, rfl, ?_⟩, ?_⟩
      · exact OwnF.past HBF.out HRW.out _ _ _ (by omega)
      · exact (((Fr.below HB2.out (by omega) HF.out).setCell (by simp) _).setCell (by simp) _).setCell (by simp) _
end Go.Proofs.Ytmeppkkoepmlnaa
