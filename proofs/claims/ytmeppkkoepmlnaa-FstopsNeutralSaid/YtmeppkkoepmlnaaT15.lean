/-
  Star of fstops.
-/
import Derived.Test.YtmeppkkoepmlnaaT14
import Derived.Test.YtmeppkkoepmlnaaPl2
namespace Go.Proofs.Ytmeppkkoepmlnaa
open Go.ChangeShapes Go.WideShapes Go.ChangeAt Go.RowKit
/-- a transducer whose numbers are small -/
structure Sane (F : PFst) : Prop where
  small : Small F
  arcs : ∀ x, x ∈ F.arcs → (0 ≤ x.fr ∧ x.fr ≤ 1000000) ∧ 0 ≤ x.tgt ∧ x.tgt ≤ 1000000
  final : ∀ q, q ∈ F.final → 0 ≤ q ∧ q ≤ 1000000
theorem final_len {l : List Int} {n : Int} (h : l.Pairwise (· < ·)) (hb : ∀ q, q ∈ l → 0 ≤ q ∧ q < n) : (l.length : Int) ≤ max n 0 := by
  have key : ∀ (l : List Int) (a : Int), l.Pairwise (· < ·) → (∀ q, q ∈ l → a ≤ q ∧ q < n) → (l.length : Int) ≤ max (n - a) 0 := by
    intro l
    induction l with
    | nil => intro a _ _; simp; omega
    | cons x l ih =>
      intro a hp hq
      have h1 := hq x (by simp)
      have h2 := ih (x + 1) (List.pairwise_cons.1 hp).2 (fun q hq' => by have := (List.pairwise_cons.1 hp).1 q hq'; have := hq q (by simp [hq']); omega)
      simp only [List.length_cons]; omega
  have := key l 0 h hb
  simpa using this
theorem Good.sane {F : PFst} (h : Good F) : Sane F := by
  have h1 := h.s1
  have h2 := h.s2
  have h3 := h.len
  have h4 := final_len h.ord h.fin
  refine ⟨⟨by omega, by omega, by omega, by omega⟩, fun x hx => ?_, fun q hq => ?_⟩
  · have := h.arc x hx; unfold ArcOk at this; omega
  · have := h.fin q hq; omega
set_option maxHeartbeats 1000000 in
theorem star_full (v : Value) (a : PFst) (w : World) (hv : RdF w v a) (hs : Sane a) (he : fullB [a] = true) :
    Calls Try.prog 25 #[v] w fun e w' => e = .returned (.tuple #[.agg #[.int .i64 0, .slice none 0 0, .slice none 0 0], .int .i64 11]) ∧ Below w.heap.size w w' := by
  have HE := Lib.hid he
  have HS := Lib.hid hs
  obtain ⟨va, vf, rfl, ha, hf⟩ := hv
  obtain ⟨A, n, c, rfl, h1, h2, HN, hr⟩ := ha.op
  obtain ⟨A', n', c', rfl, h1', h2', HN', hr'⟩ := hf.op
  have HA := Lib.hid ha
  have HF := Lib.hid hf
  clear ha hf he hs
  go_enter Try.func25, Try.ntmps25
  go_wp2_with fail
  refine (full_any _ [a] _ ?_ (by simp) (by simp; exact HS.out.small)).mono ?_
  · exact rdFs_one (Rd.alloc (Rd.alloc HA.out _) _) (Rd.alloc (Rd.alloc HF.out _) _) (by simp)
  rintro e w1 ⟨rfl, hb⟩
  rw [HE.out]
  have HB := Lib.hid hb
  clear hb
  have HR : Hid (FBlk w1 (w.heap.size + 1) (.int .i64 0) (.slice none 0 0) (.slice none 0 0)) := FBlk.below ((Below.heap_alloc _ _ _ (by simp)).trans (by have := heap_alloc_new (w.alloc (.cells #[.int .i64 a.states, .slice A n c, .slice A' n' c'] 29)) (.cells #[.int .i64 0, .slice none 0 0, .slice none 0 0] 29); simpa using this)) HB.out
  have hz := HB.out.size
  simp at hz
  have HB1 : Hid (Below w.heap.size w w1) := ((((Below.refl _ _).alloc (Nat.le_refl _) _).alloc (by simp) _).alloc (by simp; omega) _).trans (HB.out.mono (by simp; omega))
  obtain ⟨r0, r1, r2, f0, f1, f2⟩ := HR.out.facts
  go_wp2_with fail
  refine bodyPost_ret (v := .tuple #[.agg #[.int .i64 0, .slice none 0 0, .slice none 0 0], .int .i64 11]) ?_ rfl ?_
  · simp [results, Try.results25, go_sem, r0, r1, r2]
  exact ⟨rfl, ((HB1.out.setCell (by first | omega | (simp; done) | (simp; omega)) _).setCell (by first | omega | (simp; done) | (simp; omega)) _).setCell (by first | omega | (simp; done) | (simp; omega)) _⟩
set_option maxHeartbeats 2000000 in
theorem star_yes (v : Value) (a : PFst) (w : World) (hv : RdF w v a) (hs : Sane a) (he : fullB [a] = false) :
    Calls Try.prog 25 #[v] w fun e w' => (∃ vF, e = .returned (.tuple #[vF, .int .i64 0]) ∧ OwnF w.heap.size w' vF (starF a)) ∧ Below w.heap.size w w' := by
  have HE := Lib.hid he
  have HS := Lib.hid hs
  have HV := Lib.hid hv
  obtain ⟨va, vf, rfl, ha, hf⟩ := hv
  obtain ⟨A, n, c, rfl, h1, h2, HN, hr⟩ := ha.op
  obtain ⟨A', n', c', rfl, h1', h2', HN', hr'⟩ := hf.op
  have HA := Lib.hid ha
  have HF := Lib.hid hf
  clear ha hf he hs
  go_enter Try.func25, Try.ntmps25
  go_wp2_with fail
  refine (full_any _ [a] _ ?_ (by simp) (by simp; exact HS.out.small)).mono ?_
  · exact rdFs_one (Rd.alloc (Rd.alloc HA.out _) _) (Rd.alloc (Rd.alloc HF.out _) _) (by simp)
  rintro e w1 ⟨rfl, hb⟩
  rw [HE.out]
  have HB := Lib.hid hb
  clear hb
  have HR : Hid (FBlk w1 (w.heap.size + 1) (.int .i64 0) (.slice none 0 0) (.slice none 0 0)) := FBlk.below ((Below.heap_alloc _ _ _ (by simp)).trans (by have := heap_alloc_new (w.alloc (.cells #[.int .i64 a.states, .slice A n c, .slice A' n' c'] 29)) (.cells #[.int .i64 0, .slice none 0 0, .slice none 0 0] 29); simpa using this)) HB.out
  have HP : Hid (FBlk w1 w.heap.size (.int .i64 a.states) (.slice A n c) (.slice A' n' c')) := FBlk.below ((Below.heap_alloc _ _ _ (by simp; omega)).trans ((Below.heap_alloc _ _ _ (by simp)).trans (heap_alloc_new w _))) HB.out
  have hz := HB.out.size
  simp at hz
  have HB1 : Hid (Below w.heap.size w w1) := ((((Below.refl _ _).alloc (Nat.le_refl _) _).alloc (by simp) _).alloc (by simp; omega) _).trans (HB.out.mono (by simp; omega))
  clear HB
  obtain ⟨p0, p1, p2, _, _, _⟩ := HP.out.facts
  have hle : w.heap.size < w1.heap.size := by omega
  go_wp2_with fail
  generalize hW : World.alloc (World.alloc w1 _) _ = W
  have HW : Hid (Bld 62 W w1.heap.size (w1.heap.size + 1) (.slice none 0 0) (.slice (some ⟨w1.heap.size, 0, none⟩) 1 1) ⟨1, [], [0]⟩) := by
    rw [← hW]
    refine ⟨?_, World.ownsRow_nil _ _ _ _, ?_, by decide, by decide, by omega⟩
    · have := heap_alloc_new (w1.alloc (.cells #[.int .i64 0] 3)) (.cells #[.int .i64 1, .slice none 0 0, .slice (some ⟨w1.heap.size, 0, none⟩) 1 1] 62)
      simpa using this
    · exact World.ownsRow.alloc ⟨rfl, .inr ⟨w1.heap.size, 1, #[.int .i64 0], rfl, Nat.le_refl _, heap_alloc_new w1 _, Nat.le_refl _, by simp [maxLen], rfl, rfl⟩⟩ _
  have HR1 : Hid (FBlk W (w.heap.size + 1) (.int .i64 0) (.slice none 0 0) (.slice none 0 0)) := by
    rw [← hW]; exact (Below.heap_alloc _ _ _ (by simp; omega)).trans ((Below.heap_alloc _ _ _ (by omega)).trans HR.out)
  have HP1 : Hid (FBlk W w.heap.size (.int .i64 a.states) (.slice A n c) (.slice A' n' c')) := by
    rw [← hW]; exact (Below.heap_alloc _ _ _ (by simp; omega)).trans ((Below.heap_alloc _ _ _ (by omega)).trans HP.out)
  have HB2 : Hid (Below w.heap.size w W) := by rw [← hW]; exact (HB1.out.alloc (by omega) _).alloc (by simp; omega) _
  clear hW HR HP HB1 p0 p1 p2 HA HF
  obtain ⟨base, hbase⟩ : ∃ base, base = w1.heap.size := ⟨_, rfl⟩
  rw [← hbase] at HW hz hle ⊢
  clear hbase
  refine (add_any w base (base + 1) _ _ _ ⟨1, [], [0]⟩ a _ HB2.out (by omega) HV.out HW.out (by have := HS.out.small.2.2.1; simp; omega) (by decide) (by decide) HS.out.small.1 HS.out.small.2.1 HS.out.arcs).mono ?_
  rintro e w2 ⟨rfl, ⟨va2, hb2⟩, hf2⟩
  have HBB := Lib.hid hb2
  have HF2 := Lib.hid hf2
  clear hb2 hf2
  go_wp2_with fail
  refine (jump_any base (base + 1) _ _ _ 0 1 _ HBB.out (by have := HS.out.small.2.2.1; simp; omega)).mono ?_
  rintro e w3 ⟨rfl, ⟨va3, hb3⟩, hf3⟩
  have HB3 := Lib.hid hb3
  have HF3 := Lib.hid (HF2.out.trans hf3)
  have hP3 := HP1.out.fr HF3.out (by omega)
  obtain ⟨p0, p1, p2, _, _, _⟩ := hP3.facts
  clear hb3 hf3 HBB HF2 hP3
  have hl3 := HB3.out.lt
  go_wp2_with fail
  go_loopw [25] (fun i wr => ∃ k : Nat, k ≤ n' ∧ i = .int .i64 k ∧ Hid (∃ va, Bld 62 wr base (base + 1) va (.slice (some ⟨base, 0, none⟩) 1 1) ⟨1 + a.states, a.arcs.map (shArc 1) ++ [jumpArc 0 1] ++ (a.final.take k).map (fun s => jumpArc (1 + s) 0), [0]⟩) ∧ Hid (Fr base (base + 1) W wr)) (fun i _ => n' - (intOf i).toNat)
  case atStart => exact ⟨0, Nat.zero_le _, rfl, ⟨va3, by simpa using HB3.out⟩, HF3.out⟩
  case round =>
    obtain ⟨k, hk, rfl, HBE, HF⟩ := hrel
    obtain ⟨va4, hbb⟩ := HBE.out
    have HB := Lib.hid hbb
    clear hbb HBE
    by_cases hlt : k < n'
    · obtain ⟨b, off, x, rfl, hbl, hd, hck⟩ := (hr'.out k hlt).below (Fr.below HB2.out (by omega) HF.out)
      obtain ⟨hx0, hx1⟩ := HS.out.final x (List.mem_of_mem_drop (by rw [hd.out]; exact List.mem_cons_self))
      go_wp2_with fail
      refine (jump_any base (base + 1) _ _ _ (1 + x) 0 _ HB.out ?_).mono ?_
      · have := HS.out.small.2.2.1; have := HS.out.small.2.2.2; have h5 := List.length_take_le k a.final; simp; omega
      rintro e w5 ⟨rfl, ⟨va5, hb5⟩, hf5⟩
      have HB5 := Lib.hid hb5
      have HF5 := Lib.hid (HF.out.trans hf5)
      clear hb5 hf5
      go_wp2_with fail
      go_roundw
      case rel =>
        have h3 := HB5.out
        have e1 : (a.final.take k).map (fun s => jumpArc (1 + s) 0) ++ [jumpArc (1 + x) 0] = (a.final.take (k + 1)).map (fun s => jumpArc (1 + s) 0) := by rw [take_of_drop hd.out]; simp
        simp only [List.append_assoc, e1] at h3
        simp only [List.append_assoc]
        exact ⟨k + 1, by omega, by go_num, ⟨_, h3⟩, HF5.out⟩
      case measure => simp [intOf]; omega
    · have e1 : a.final.take k = a.final := List.take_of_length_le (by rw [HN'.out]; omega)
      have HBF : Hid (Bld 62 wr base (base + 1) va4 (.slice (some ⟨base, 0, none⟩) 1 1) (starF a)) := by have := HB.out; rw [e1] at this; exact this
      have hRw := HR1.out.fr HF.out (by omega)
      obtain ⟨A3, n3, c3, rfl, q1, q2, _, _⟩ := HB.out.oa.rd.op
      obtain ⟨r0, r1, r2, f0, f1, f2⟩ := hRw.facts
      have d0 := HB.out.c0
      have d1 := HB.out.c1
      have d2 := HB.out.c2
      have HRW := Lib.hid hRw
      clear hRw e1
      go_wp2_with fail
      refine bodyPost_ret (v := .tuple #[.agg #[.int .i64 (1 + a.states), .slice A3 n3 c3, .slice (some ⟨base, 0, none⟩) 1 1], .int .i64 0]) ?_ rfl ?_
      · simp [results, Try.results25, go_sem, r0, r1, r2]
      refine ⟨⟨_, rfl, ?_⟩, ?_⟩
      · exact OwnF.past HBF.out HRW.out _ _ _ (by omega)
      · exact (((Fr.below HB2.out (by omega) HF.out).setCell (by simp) _).setCell (by simp) _).setCell (by simp) _
end Go.Proofs.Ytmeppkkoepmlnaa
