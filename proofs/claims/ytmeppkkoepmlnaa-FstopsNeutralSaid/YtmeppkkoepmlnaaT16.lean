/-
  Concat and Union of fstops.
-/
import Derived.Test.YtmeppkkoepmlnaaT15
namespace Go.Proofs.Ytmeppkkoepmlnaa
open Go.ChangeShapes Go.WideShapes Go.ChangeAt Go.RowKit
set_option maxHeartbeats 1000000 in
theorem concat_full (v u : Value) (a b : PFst) (w : World) (hv : RdF w v a) (hu : RdF w u b) (hs : Sane a) (ht : Sane b) (he : fullB [a, b] = true) :
    Calls Try.prog 34 #[v, u] w fun e w' => e = .returned (.tuple #[.agg #[.int .i64 0, .slice none 0 0, .slice none 0 0], .int .i64 11]) ∧ Below w.heap.size w w' := by
  have HE := Lib.hid he
  have HS := Lib.hid hs
  have HT := Lib.hid ht
  have HV := Lib.hid hv
  have HU := Lib.hid hu
  obtain ⟨va, vf, rfl, ha, hf⟩ := hv
  obtain ⟨A, n, c, rfl, h1, h2, HN, hr⟩ := ha.op
  obtain ⟨A', n', c', rfl, h1', h2', HN', hr'⟩ := hf.op
  obtain ⟨ua, uf, rfl, ka, kf⟩ := hu
  obtain ⟨D, m, d, rfl, g1, g2, HM, kr⟩ := ka.op
  obtain ⟨D', m', d', rfl, g1', g2', HM', kr'⟩ := kf.op
  have HA := Lib.hid ha
  have HF := Lib.hid hf
  have KA := Lib.hid ka
  have KF := Lib.hid kf
  clear ha hf he hs ka kf ht
  go_enter Try.func34, Try.ntmps34
  go_wp2_with fail
  refine (full_any _ [a, b] _ ?_ (by simp) (by simp; exact ⟨HS.out.small, HT.out.small⟩)).mono ?_
  · exact rdFs_two (Rd.alloc (Rd.alloc (Rd.alloc HA.out _) _) _) (Rd.alloc (Rd.alloc (Rd.alloc HF.out _) _) _) (Rd.alloc (Rd.alloc (Rd.alloc KA.out _) _) _) (Rd.alloc (Rd.alloc (Rd.alloc KF.out _) _) _) (by simp)
  rintro e w1 ⟨rfl, hb⟩
  rw [HE.out]
  have HB := Lib.hid hb
  clear hb
  have HR : Hid (FBlk w1 (w.heap.size + 1 + 1) (.int .i64 0) (.slice none 0 0) (.slice none 0 0)) := FBlk.below ((Below.heap_alloc _ _ _ (by simp)).trans (by have := heap_alloc_new ((w.alloc (.cells #[.int .i64 a.states, .slice A n c, .slice A' n' c'] 29)).alloc (.cells #[.int .i64 b.states, .slice D m d, .slice D' m' d'] 29)) (.cells #[.int .i64 0, .slice none 0 0, .slice none 0 0] 29); simpa using this)) HB.out
  have HP : Hid (FBlk w1 w.heap.size (.int .i64 a.states) (.slice A n c) (.slice A' n' c')) := FBlk.below ((Below.heap_alloc _ _ _ (by first | omega | (simp; done) | (simp; omega))).trans ((Below.heap_alloc _ _ _ (by first | omega | (simp; done) | (simp; omega))).trans ((Below.heap_alloc _ _ _ (by first | omega | (simp; done) | (simp; omega))).trans (heap_alloc_new w _)))) HB.out
  have HP' : Hid (FBlk w1 (w.heap.size + 1) (.int .i64 b.states) (.slice D m d) (.slice D' m' d')) := FBlk.below ((Below.heap_alloc _ _ _ (by first | omega | (simp; done) | (simp; omega))).trans ((Below.heap_alloc _ _ _ (by first | omega | (simp; done) | (simp; omega))).trans (by have := heap_alloc_new (w.alloc (.cells #[.int .i64 a.states, .slice A n c, .slice A' n' c'] 29)) (.cells #[.int .i64 b.states, .slice D m d, .slice D' m' d'] 29); simpa using this))) HB.out
  have hz := HB.out.size
  simp at hz
  have HB1 : Hid (Below w.heap.size w w1) := (((((Below.refl _ _).alloc (Nat.le_refl _) _).alloc (by simp) _).alloc (by simp; omega) _).alloc (by simp; omega) _).trans (HB.out.mono (by simp; omega))
  clear HB HA HF KA KF
  obtain ⟨r0, r1, r2, f0, f1, f2⟩ := HR.out.facts
  go_wp2_with fail
  refine bodyPost_ret (v := .tuple #[.agg #[.int .i64 0, .slice none 0 0, .slice none 0 0], .int .i64 11]) ?_ rfl ?_
  · simp [results, Try.results34, go_sem, r0, r1, r2]
  exact ⟨rfl, ((HB1.out.setCell (by first | omega | (simp; done) | (simp; omega)) _).setCell (by first | omega | (simp; done) | (simp; omega)) _).setCell (by first | omega | (simp; done) | (simp; omega)) _⟩
set_option maxHeartbeats 1000000 in
theorem union_full (v u : Value) (a b : PFst) (w : World) (hv : RdF w v a) (hu : RdF w u b) (hs : Sane a) (ht : Sane b) (he : fullB [a, b] = true) :
    Calls Try.prog 33 #[v, u] w fun e w' => e = .returned (.tuple #[.agg #[.int .i64 0, .slice none 0 0, .slice none 0 0], .int .i64 11]) ∧ Below w.heap.size w w' := by
  have HE := Lib.hid he
  have HS := Lib.hid hs
  have HT := Lib.hid ht
  have HV := Lib.hid hv
  have HU := Lib.hid hu
  obtain ⟨va, vf, rfl, ha, hf⟩ := hv
  obtain ⟨A, n, c, rfl, h1, h2, HN, hr⟩ := ha.op
  obtain ⟨A', n', c', rfl, h1', h2', HN', hr'⟩ := hf.op
  obtain ⟨ua, uf, rfl, ka, kf⟩ := hu
  obtain ⟨D, m, d, rfl, g1, g2, HM, kr⟩ := ka.op
  obtain ⟨D', m', d', rfl, g1', g2', HM', kr'⟩ := kf.op
  have HA := Lib.hid ha
  have HF := Lib.hid hf
  have KA := Lib.hid ka
  have KF := Lib.hid kf
  clear ha hf he hs ka kf ht
  go_enter Try.func33, Try.ntmps33
  go_wp2_with fail
  refine (full_any _ [a, b] _ ?_ (by simp) (by simp; exact ⟨HS.out.small, HT.out.small⟩)).mono ?_
  · exact rdFs_two (Rd.alloc (Rd.alloc (Rd.alloc HA.out _) _) _) (Rd.alloc (Rd.alloc (Rd.alloc HF.out _) _) _) (Rd.alloc (Rd.alloc (Rd.alloc KA.out _) _) _) (Rd.alloc (Rd.alloc (Rd.alloc KF.out _) _) _) (by simp)
  rintro e w1 ⟨rfl, hb⟩
  rw [HE.out]
  have HB := Lib.hid hb
  clear hb
  have HR : Hid (FBlk w1 (w.heap.size + 1 + 1) (.int .i64 0) (.slice none 0 0) (.slice none 0 0)) := FBlk.below ((Below.heap_alloc _ _ _ (by simp)).trans (by have := heap_alloc_new ((w.alloc (.cells #[.int .i64 a.states, .slice A n c, .slice A' n' c'] 29)).alloc (.cells #[.int .i64 b.states, .slice D m d, .slice D' m' d'] 29)) (.cells #[.int .i64 0, .slice none 0 0, .slice none 0 0] 29); simpa using this)) HB.out
  have HP : Hid (FBlk w1 w.heap.size (.int .i64 a.states) (.slice A n c) (.slice A' n' c')) := FBlk.below ((Below.heap_alloc _ _ _ (by first | omega | (simp; done) | (simp; omega))).trans ((Below.heap_alloc _ _ _ (by first | omega | (simp; done) | (simp; omega))).trans ((Below.heap_alloc _ _ _ (by first | omega | (simp; done) | (simp; omega))).trans (heap_alloc_new w _)))) HB.out
  have HP' : Hid (FBlk w1 (w.heap.size + 1) (.int .i64 b.states) (.slice D m d) (.slice D' m' d')) := FBlk.below ((Below.heap_alloc _ _ _ (by first | omega | (simp; done) | (simp; omega))).trans ((Below.heap_alloc _ _ _ (by first | omega | (simp; done) | (simp; omega))).trans (by have := heap_alloc_new (w.alloc (.cells #[.int .i64 a.states, .slice A n c, .slice A' n' c'] 29)) (.cells #[.int .i64 b.states, .slice D m d, .slice D' m' d'] 29); simpa using this))) HB.out
  have hz := HB.out.size
  simp at hz
  have HB1 : Hid (Below w.heap.size w w1) := (((((Below.refl _ _).alloc (Nat.le_refl _) _).alloc (by simp) _).alloc (by simp; omega) _).alloc (by simp; omega) _).trans (HB.out.mono (by simp; omega))
  clear HB HA HF KA KF
  obtain ⟨r0, r1, r2, f0, f1, f2⟩ := HR.out.facts
  go_wp2_with fail
  refine bodyPost_ret (v := .tuple #[.agg #[.int .i64 0, .slice none 0 0, .slice none 0 0], .int .i64 11]) ?_ rfl ?_
  · simp [results, Try.results33, go_sem, r0, r1, r2]
  exact ⟨rfl, ((HB1.out.setCell (by first | omega | (simp; done) | (simp; omega)) _).setCell (by first | omega | (simp; done) | (simp; omega)) _).setCell (by first | omega | (simp; done) | (simp; omega)) _⟩
set_option maxHeartbeats 2000000 in
theorem concatF_any (v u : Value) (a b : PFst) (w : World) (hv : RdF w v a) (hu : RdF w u b) (hs : Sane a) (ht : Sane b) (he : fullB [a, b] = false) :
    Calls Try.prog 34 #[v, u] w fun e w' => (∃ vF, e = .returned (.tuple #[vF, .int .i64 0]) ∧ OwnF w.heap.size w' vF (concatF a b)) ∧ Below w.heap.size w w' := by
  have HE := Lib.hid he
  have HS := Lib.hid hs
  have HT := Lib.hid ht
  have HV := Lib.hid hv
  have HU := Lib.hid hu
  obtain ⟨va, vf, rfl, ha, hf⟩ := hv
  obtain ⟨A, n, c, rfl, h1, h2, HN, hr⟩ := ha.op
  obtain ⟨A', n', c', rfl, h1', h2', HN', hr'⟩ := hf.op
  obtain ⟨ua, uf, rfl, ka, kf⟩ := hu
  obtain ⟨D, m, d, rfl, g1, g2, HM, kr⟩ := ka.op
  obtain ⟨D', m', d', rfl, g1', g2', HM', kr'⟩ := kf.op
  have HA := Lib.hid ha
  have HF := Lib.hid hf
  have KA := Lib.hid ka
  have KF := Lib.hid kf
  clear ha hf he hs ka kf ht
  go_enter Try.func34, Try.ntmps34
  go_wp2_with fail
  refine (full_any _ [a, b] _ ?_ (by simp) (by simp; exact ⟨HS.out.small, HT.out.small⟩)).mono ?_
  · exact rdFs_two (Rd.alloc (Rd.alloc (Rd.alloc HA.out _) _) _) (Rd.alloc (Rd.alloc (Rd.alloc HF.out _) _) _) (Rd.alloc (Rd.alloc (Rd.alloc KA.out _) _) _) (Rd.alloc (Rd.alloc (Rd.alloc KF.out _) _) _) (by simp)
  rintro e w1 ⟨rfl, hb⟩
  rw [HE.out]
  have HB := Lib.hid hb
  clear hb
  have HR : Hid (FBlk w1 (w.heap.size + 1 + 1) (.int .i64 0) (.slice none 0 0) (.slice none 0 0)) := FBlk.below ((Below.heap_alloc _ _ _ (by simp)).trans (by have := heap_alloc_new ((w.alloc (.cells #[.int .i64 a.states, .slice A n c, .slice A' n' c'] 29)).alloc (.cells #[.int .i64 b.states, .slice D m d, .slice D' m' d'] 29)) (.cells #[.int .i64 0, .slice none 0 0, .slice none 0 0] 29); simpa using this)) HB.out
  have HP : Hid (FBlk w1 w.heap.size (.int .i64 a.states) (.slice A n c) (.slice A' n' c')) := FBlk.below ((Below.heap_alloc _ _ _ (by first | omega | (simp; done) | (simp; omega))).trans ((Below.heap_alloc _ _ _ (by first | omega | (simp; done) | (simp; omega))).trans ((Below.heap_alloc _ _ _ (by first | omega | (simp; done) | (simp; omega))).trans (heap_alloc_new w _)))) HB.out
  have HP' : Hid (FBlk w1 (w.heap.size + 1) (.int .i64 b.states) (.slice D m d) (.slice D' m' d')) := FBlk.below ((Below.heap_alloc _ _ _ (by first | omega | (simp; done) | (simp; omega))).trans ((Below.heap_alloc _ _ _ (by first | omega | (simp; done) | (simp; omega))).trans (by have := heap_alloc_new (w.alloc (.cells #[.int .i64 a.states, .slice A n c, .slice A' n' c'] 29)) (.cells #[.int .i64 b.states, .slice D m d, .slice D' m' d'] 29); simpa using this))) HB.out
  have hz := HB.out.size
  simp at hz
  have HB1 : Hid (Below w.heap.size w w1) := (((((Below.refl _ _).alloc (Nat.le_refl _) _).alloc (by simp) _).alloc (by simp; omega) _).alloc (by simp; omega) _).trans (HB.out.mono (by simp; omega))
  clear HB HA HF KA KF
  obtain ⟨p0, p1, p2, _, _, _⟩ := HP.out.facts
  have hle : w.heap.size < w1.heap.size := by omega
  go_wp2_with fail
  generalize hW : World.alloc w1 _ = W
  have HW : Hid (Bld 62 W w1.heap.size w1.heap.size (.slice none 0 0) (.slice none 0 0) ⟨0, [], []⟩) := by
    rw [← hW]
    exact ⟨heap_alloc_new w1 _, World.ownsRow_nil _ _ _ _, World.ownsRow_nil _ _ _ _, by decide, by decide, by omega⟩
  have HR1 : Hid (FBlk W (w.heap.size + 1 + 1) (.int .i64 0) (.slice none 0 0) (.slice none 0 0)) := by rw [← hW]; exact (Below.heap_alloc _ _ _ (by omega)).trans HR.out
  have HP1 : Hid (FBlk W w.heap.size (.int .i64 a.states) (.slice A n c) (.slice A' n' c')) := by rw [← hW]; exact (Below.heap_alloc _ _ _ (by omega)).trans HP.out
  have HP2 : Hid (FBlk W (w.heap.size + 1) (.int .i64 b.states) (.slice D m d) (.slice D' m' d')) := by rw [← hW]; exact (Below.heap_alloc _ _ _ (by omega)).trans HP'.out
  have HB2 : Hid (Below w.heap.size w W) := by rw [← hW]; exact HB1.out.alloc (by omega) _
  clear hW HR HP HP' HB1 p0 p1 p2
  obtain ⟨base, hbase⟩ : ∃ base, base = w1.heap.size := ⟨_, rfl⟩
  rw [← hbase] at HW hz hle ⊢
  clear hbase
  refine (add_any w base base _ _ _ ⟨0, [], []⟩ a _ HB2.out (by omega) HV.out HW.out (by have := HS.out.small.2.2.1; simp; omega) (by decide) (by decide) HS.out.small.1 HS.out.small.2.1 HS.out.arcs).mono ?_
  rintro e w2 ⟨rfl, ⟨va2, hb2⟩, hf2⟩
  have HBB := Lib.hid hb2
  have HF2 := Lib.hid hf2
  have hQ := HP2.out.fr HF2.out (by omega)
  obtain ⟨p0, p1, p2, _, _, _⟩ := hQ.facts
  clear hb2 hf2 hQ
  go_wp2_with fail
  refine (add_any w base base _ _ _ ⟨0 + a.states, [] ++ a.arcs.map (shArc 0), []⟩ b _ (Fr.below HB2.out (by omega) HF2.out) (by omega) HU.out HBB.out (by have := HS.out.small.2.2.1; have := HT.out.small.2.2.1; simp; omega) (by have := HS.out.small.1; simp; omega) (by have := HS.out.small.2.1; simp; omega) HT.out.small.1 HT.out.small.2.1 HT.out.arcs).mono ?_
  rintro e w3 ⟨rfl, ⟨va3, hb3⟩, hf3⟩
  simp only [Int.zero_add, List.nil_append] at hb3 ⊢
  have HB3 := Lib.hid hb3
  have HF3 := Lib.hid (HF2.out.trans hf3)
  clear hb3 hf3 HBB HF2 p0 p1 p2
  have hP3 := HP1.out.fr HF3.out (by omega)
  obtain ⟨p0, p1, p2, _, _, _⟩ := hP3.facts
  clear hP3
  have hl3 := HB3.out.lt
  go_wp2_with fail
  go_loopw [27] (fun i wr => ∃ k : Nat, k ≤ n' ∧ i = .int .i64 k ∧ Hid (∃ va, Bld 62 wr base base va (.slice none 0 0) ⟨a.states + b.states, a.arcs.map (shArc 0) ++ b.arcs.map (shArc a.states) ++ (a.final.take k).map (fun s => jumpArc s a.states), []⟩) ∧ Hid (Fr base base W wr)) (fun i _ => n' - (intOf i).toNat)
  case atStart => exact ⟨0, Nat.zero_le _, rfl, ⟨va3, by simpa using HB3.out⟩, HF3.out⟩
  case round =>
    obtain ⟨k, hk, rfl, HBE, HF⟩ := hrel
    obtain ⟨va4, hbb⟩ := HBE.out
    have HB := Lib.hid hbb
    clear hbb HBE
    by_cases hlt : k < n'
    · obtain ⟨bb, off, x, rfl, hbl, hd, hck⟩ := (hr'.out k hlt).below (Fr.below HB2.out (by omega) HF.out)
      obtain ⟨hx0, hx1⟩ := HS.out.final x (List.mem_of_mem_drop (by rw [hd.out]; exact List.mem_cons_self))
      go_wp2_with fail
      refine (jump_any base base _ _ _ x a.states _ HB.out ?_).mono ?_
      · have := HS.out.small.2.2.1; have := HT.out.small.2.2.1; have := HS.out.small.2.2.2; have h5 := List.length_take_le k a.final; simp; omega
      rintro e w5 ⟨rfl, ⟨va5, hb5⟩, hf5⟩
      have HB5 := Lib.hid hb5
      have HF5 := Lib.hid (HF.out.trans hf5)
      clear hb5 hf5
      go_wp2_with fail
      go_roundw
      case rel =>
        have h3 := HB5.out
        have e1 : (a.final.take k).map (fun s => jumpArc s a.states) ++ [jumpArc x a.states] = (a.final.take (k + 1)).map (fun s => jumpArc s a.states) := by rw [take_of_drop hd.out]; simp
        simp only [List.append_assoc, e1] at h3
        simp only [List.append_assoc]
        exact ⟨k + 1, by omega, by go_num, ⟨_, h3⟩, HF5.out⟩
      case measure => simp [intOf]; omega
    · have e1 : a.final.take k = a.final := List.take_of_length_le (by rw [HN'.out]; omega)
      have HB6 : Hid (Bld 62 wr base base va4 (.slice none 0 0) ⟨a.states + b.states, a.arcs.map (shArc 0) ++ b.arcs.map (shArc a.states) ++ a.final.map (fun s => jumpArc s a.states), []⟩) := by have := HB.out; rw [e1] at this; exact this
      have hQ := HP2.out.fr HF.out (by omega)
      obtain ⟨p0, p1, p2, _, _, _⟩ := hQ.facts
      clear hQ e1
      go_wp2_with fail
      refine (end_any w base base _ _ _ ⟨a.states + b.states, a.arcs.map (shArc 0) ++ b.arcs.map (shArc a.states) ++ a.final.map (fun s => jumpArc s a.states), []⟩ a.states b.final _ (Fr.below HB2.out (by omega) HF.out) (by omega) (by obtain ⟨_, _, he, _, hi⟩ := HU.out; cases he; exact hi) HB6.out (by have := HT.out.small.2.2.2; simp; omega) HS.out.small.1 HS.out.small.2.1 HT.out.final).mono ?_
      rintro e w7 ⟨rfl, ⟨vf7, hb7⟩, hf7⟩
      have HB7 : Hid (Bld 62 w7 base base va4 vf7 (concatF a b)) := hb7
      have HF7 := Lib.hid (HF.out.trans hf7)
      clear hb7 hf7 p0 p1 p2 HB HB6
      have hRw := HR1.out.fr HF7.out (by omega)
      obtain ⟨A3, n3, c3, rfl, q1, q2, _, _⟩ := HB7.out.oa.rd.op
      obtain ⟨A4, n4, c4, rfl, q3, q4, _, _⟩ := HB7.out.oi.rd.op
      obtain ⟨r0, r1, r2, f0, f1, f2⟩ := hRw.facts
      have d0 := HB7.out.c0
      have d1 := HB7.out.c1
      have d2 := HB7.out.c2
      have HRW := Lib.hid hRw
      clear hRw
      go_wp2_with fail
      refine bodyPost_ret (v := .tuple #[.agg #[.int .i64 (concatF a b).states, .slice A3 n3 c3, .slice A4 n4 c4], .int .i64 0]) ?_ rfl ?_
      · simp [results, Try.results34, go_sem, r0, r1, r2]
      refine ⟨⟨_, rfl, ?_⟩, ?_⟩
      · exact OwnF.past HB7.out HRW.out _ _ _ (by omega)
      · exact (((Fr.below HB2.out (by omega) HF7.out).setCell (by first | omega | (simp; done) | (simp; omega)) _).setCell (by first | omega | (simp; done) | (simp; omega)) _).setCell (by first | omega | (simp; done) | (simp; omega)) _
end Go.Proofs.Ytmeppkkoepmlnaa
