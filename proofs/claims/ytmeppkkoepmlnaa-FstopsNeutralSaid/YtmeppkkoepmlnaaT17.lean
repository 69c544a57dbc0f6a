/-
  Union of fstops.
-/
import Derived.Test.YtmeppkkoepmlnaaT16
namespace Go.Proofs.Ytmeppkkoepmlnaa
open Go.ChangeShapes Go.WideShapes Go.ChangeAt Go.RowKit
def uStep (F G : PFst) : PFst := ⟨F.states + G.states, F.arcs ++ G.arcs.map (shArc F.states) ++ [jumpArc 0 F.states], F.final ++ G.final.map (· + F.states)⟩
def uFold (a b : PFst) (k : Nat) : PFst := ([a, b].take k).foldl uStep ⟨1, [], []⟩
theorem uFold_two (a b : PFst) : uFold a b 2 = unionF a b := by simp [uFold, uStep, unionF]
/-- what the round for G needs and leaves -/
def UAt (w W : World) (G : Nat) (a b : PFst) (k : Nat) : Prop :=
  ∃ F va vf, uFold a b (k + 1) = uStep (uFold a b k) F ∧ Sane F ∧ RdF w (.agg #[.int .i64 F.states, va, vf]) F ∧ W.cell? ⟨G, k * 3, none⟩ = some (.int .i64 F.states) ∧ W.cell? ⟨G, k * 3 + 1, none⟩ = some va ∧ W.cell? ⟨G, k * 3 + 2, none⟩ = some vf
theorem uFold_bd {a b : PFst} (ha : Sane a) (hb : Sane b) (k : Nat) : 0 ≤ (uFold a b k).states ∧ (uFold a b k).states ≤ 1000000 + 1000000 + 1 ∧ (uFold a b k).arcs.length ≤ 600002 ∧ (uFold a b k).final.length ≤ 600000 := by
  obtain ⟨⟨a1, a2, a3, a4⟩, _, _⟩ := ha
  obtain ⟨⟨b1, b2, b3, b4⟩, _, _⟩ := hb
  match k with
  | 0 => simp [uFold]
  | 1 => simp [uFold, uStep]; omega
  | k + 2 => simp [uFold, uStep]; omega
set_option maxHeartbeats 2000000 in
theorem unionF_any (v u : Value) (a b : PFst) (w : World) (hv : RdF w v a) (hu : RdF w u b) (hs : Sane a) (ht : Sane b) (he : fullB [a, b] = false) (h3 : a.states ≤ 900000) :
    Calls Try.prog 33 #[v, u] w fun e w' => (∃ vF, e = .returned (.tuple #[vF, .int .i64 0]) ∧ OwnF w.heap.size w' vF (unionF a b)) ∧ Below w.heap.size w w' := by
  have H3 := Lib.hid h3
  clear h3
  have HE := Lib.hid he
  have HS := Lib.hid hs
  have HT := Lib.hid ht
  have HV := Lib.hid hv
  have HU := Lib.hid hu
  obtain ⟨va, vf, rfl, ha, hf⟩ := hv
  obtain ⟨A, n, c, rfl, h1, h2, HN, hr⟩ := ha.op
  obtain ⟨A', n', c', rfl, h1', h2', HN', hr'⟩ := hf.op
  obtain ⟨ua, uf, rfl, ka, kf⟩ := hu
  obtain ⟨D, m, d, rfl, g1, g2, HM, kr⟩ := ka.op
  obtain ⟨D', m', d', rfl, g1', g2', HM', kr'⟩ := kf.op
  have HA := Lib.hid ha
  have HF := Lib.hid hf
  have KA := Lib.hid ka
  have KF := Lib.hid kf
  clear ha hf he hs ka kf ht
  go_enter Try.func33, Try.ntmps33
  go_wp2_with fail
  refine (full_any _ [a, b] _ ?_ (by simp) (by simp; exact ⟨HS.out.small, HT.out.small⟩)).mono ?_
  · exact rdFs_two (Rd.alloc (Rd.alloc (Rd.alloc HA.out _) _) _) (Rd.alloc (Rd.alloc (Rd.alloc HF.out _) _) _) (Rd.alloc (Rd.alloc (Rd.alloc KA.out _) _) _) (Rd.alloc (Rd.alloc (Rd.alloc KF.out _) _) _) (by simp)
  rintro e w1 ⟨rfl, hb⟩
  rw [HE.out]
  have HB := Lib.hid hb
  clear hb
  have HR : Hid (FBlk w1 (w.heap.size + 1 + 1) (.int .i64 0) (.slice none 0 0) (.slice none 0 0)) := FBlk.below ((Below.heap_alloc _ _ _ (by simp)).trans (by have := heap_alloc_new ((w.alloc (.cells #[.int .i64 a.states, .slice A n c, .slice A' n' c'] 29)).alloc (.cells #[.int .i64 b.states, .slice D m d, .slice D' m' d'] 29)) (.cells #[.int .i64 0, .slice none 0 0, .slice none 0 0] 29); simpa using this)) HB.out
  have HP : Hid (FBlk w1 w.heap.size (.int .i64 a.states) (.slice A n c) (.slice A' n' c')) := FBlk.below ((Below.heap_alloc _ _ _ (by first | omega | (simp; done) | (simp; omega))).trans ((Below.heap_alloc _ _ _ (by first | omega | (simp; done) | (simp; omega))).trans ((Below.heap_alloc _ _ _ (by first | omega | (simp; done) | (simp; omega))).trans (heap_alloc_new w _)))) HB.out
  have HP' : Hid (FBlk w1 (w.heap.size + 1) (.int .i64 b.states) (.slice D m d) (.slice D' m' d')) := FBlk.below ((Below.heap_alloc _ _ _ (by first | omega | (simp; done) | (simp; omega))).trans ((Below.heap_alloc _ _ _ (by first | omega | (simp; done) | (simp; omega))).trans (by have := heap_alloc_new (w.alloc (.cells #[.int .i64 a.states, .slice A n c, .slice A' n' c'] 29)) (.cells #[.int .i64 b.states, .slice D m d, .slice D' m' d'] 29); simpa using this))) HB.out
  have hz := HB.out.size
  simp at hz
  have HB1 : Hid (Below w.heap.size w w1) := (((((Below.refl _ _).alloc (Nat.le_refl _) _).alloc (by simp) _).alloc (by simp; omega) _).alloc (by simp; omega) _).trans (HB.out.mono (by simp; omega))
  clear HB HA HF KA KF
  obtain ⟨p0, p1, p2, _, _, _⟩ := HP.out.facts
  obtain ⟨p0', p1', p2', _, _, _⟩ := HP'.out.facts
  have hle : w.heap.size < w1.heap.size := by omega
  have hle2 : w.heap.size + 1 < w1.heap.size := by omega
  go_wp2_with fail
  generalize hW : World.alloc (World.alloc w1 _) _ = W
  have HW : Hid (Bld 62 W w1.heap.size w1.heap.size (.slice none 0 0) (.slice none 0 0) ⟨1, [], []⟩) := by
    rw [← hW]
    exact ⟨(Below.heap_alloc _ _ _ (by simp)).trans (heap_alloc_new w1 _), World.ownsRow_nil _ _ _ _, World.ownsRow_nil _ _ _ _, by decide, by decide, by omega⟩
  have HR1 : Hid (FBlk W (w.heap.size + 1 + 1) (.int .i64 0) (.slice none 0 0) (.slice none 0 0)) := by rw [← hW]; exact (Below.heap_alloc _ _ _ (by simp; omega)).trans ((Below.heap_alloc _ _ _ (by omega)).trans HR.out)
  have HB2 : Hid (Below w.heap.size w W) := by rw [← hW]; exact (HB1.out.alloc (by omega) _).alloc (by simp; omega) _
  have HG : Hid (W.heap[w1.heap.size + 1]? = some (.cells #[.int .i64 a.states, .slice A n c, .slice A' n' c', .int .i64 b.states, .slice D m d, .slice D' m' d'] 29 (0, 0))) := by
    rw [Hid, ← hW]
    have := heap_alloc_new (w1.alloc (.cells #[.int .i64 1, .slice none 0 0, .slice none 0 0] 62)) (.cells #[.int .i64 a.states, .slice A n c, .slice A' n' c', .int .i64 b.states, .slice D m d, .slice D' m' d'] 29)
    simpa using this
  have hGlt : w1.heap.size + 1 < W.heap.size := (Array.getElem?_eq_some_iff.1 HG.out).1
  have HUA : Hid (∀ k, k < 2 → UAt w W (w1.heap.size + 1) a b k) := by
    intro k hk
    match k, hk with
    | 0, _ => exact ⟨a, _, _, rfl, HS.out, HV.out, by rw [cell_of_row W _ _ _ _ (0, 0) HG.out]; rfl, by rw [cell_of_row W _ _ _ _ (0, 0) HG.out]; rfl, by rw [cell_of_row W _ _ _ _ (0, 0) HG.out]; rfl⟩
    | 1, _ => exact ⟨b, _, _, rfl, HT.out, HU.out, by rw [cell_of_row W _ _ _ _ (0, 0) HG.out]; rfl, by rw [cell_of_row W _ _ _ _ (0, 0) HG.out]; rfl, by rw [cell_of_row W _ _ _ _ (0, 0) HG.out]; rfl⟩
  clear hW HR HP HP' HB1 p0 p1 p2 p0' p1' p2' HV HU
  obtain ⟨base, hbase⟩ : ∃ base, base = w1.heap.size := ⟨_, rfl⟩
  rw [← hbase] at HW hz hle hle2 HG HUA hGlt ⊢
  clear hbase
  go_loopw [22] (fun i wr => ∃ k : Nat, k ≤ 2 ∧ i = .int .i64 k ∧ Hid (∃ va vf, Bld 62 wr base base va vf (uFold a b k)) ∧ Hid (Fr base base W wr)) (fun i _ => 2 - (intOf i).toNat)
  case atStart => exact ⟨0, Nat.zero_le _, rfl, ⟨_, _, HW.out⟩, Fr.refl _ _ _⟩
  case round =>
    obtain ⟨k, hk, rfl, HBE, HF⟩ := hrel
    obtain ⟨va4, vf4, hbb⟩ := HBE.out
    have HB := Lib.hid hbb
    clear hbb HBE
    by_cases hlt : k < 2
    · obtain ⟨F, wa, wf, hfold, hsane, hrd, y0, y1, y2⟩ := HUA.out k hlt
      have hGk := HF.out.2 (base + 1) hGlt (by omega) (fun cs t m he => by rw [HG.out] at he; cases he; exact ⟨by decide, by decide⟩)
      have z0 := (World.cell?_of_block (a := ⟨base + 1, k * 3, none⟩) hGk).trans y0
      have z1 := (World.cell?_of_block (a := ⟨base + 1, k * 3 + 1, none⟩) hGk).trans y1
      have z2 := (World.cell?_of_block (a := ⟨base + 1, k * 3 + 2, none⟩) hGk).trans y2
      have hGs : base + 1 < wr.heap.size := by have := HF.out.1.size; omega
      obtain ⟨ha5, hf5⟩ : RdA w wa F.arcs ∧ RdI w wf F.final := by obtain ⟨_, _, he, h1, h2⟩ := hrd; cases he; exact ⟨h1, h2⟩
      obtain ⟨A5, n5, c5, rfl, _, _, _, _⟩ := ha5.op
      obtain ⟨A6, n6, c6, rfl, _, _, _, _⟩ := hf5.op
      have HFO := Lib.hid hfold
      have HSA := Lib.hid hsane
      have HRD := Lib.hid hrd
      have HRF := Lib.hid hf5
      have HBD := Lib.hid (uFold_bd HS.out HT.out k)
      have hst : (uFold a b k).states ≤ 1000000 := by
        have h3 := H3.out
        match k, hlt with
        | 0, _ => simp [uFold]
        | 1, _ => simp [uFold, uStep]; omega
      have HST := Lib.hid hst
      clear hfold hsane hrd hf5 ha5 y0 y1 y2 hGk hst
      go_wp2_with fail
      generalize hX : World.alloc wr _ = X
      have HX : Hid (FBlk X wr.heap.size (.int .i64 F.states) (.slice A5 n5 c5) (.slice A6 n6 c6)) := by rw [← hX]; exact heap_alloc_new wr _
      have HXB : Hid (Bld 62 X base base va4 vf4 (uFold a b k)) := by rw [← hX]; exact HB.out.alloc _
      have HXF : Hid (Fr base base W X) := by rw [← hX]; exact HF.out.alloc (by have := HW.out.lt; omega) _
      clear hX z0 z1 z2
      have hgx : wr.heap.size ≠ base := by omega
      generalize wr.heap.size = gx at HX hgx ⊢
      refine (add_any w base base _ _ _ (uFold a b k) F _ (Fr.below HB2.out (by omega) HXF.out) (by omega) HRD.out HXB.out (by have := HSA.out.small.2.2.1; have := HBD.out.2.2.1; omega) HBD.out.1 HST.out HSA.out.small.1 HSA.out.small.2.1 HSA.out.arcs).mono ?_
      rintro e w2 ⟨rfl, ⟨va2, hb2⟩, hf2⟩
      have HB3 := Lib.hid hb2
      have HF3 := Lib.hid (HXF.out.trans hf2)
      have HX2 := Lib.hid (HX.out.fr hf2 hgx)
      clear hb2 hf2
      go_wp2_with fail
      refine (jump_any base base _ _ _ 0 (uFold a b k).states _ HB3.out (by have := HSA.out.small.2.2.1; have := HBD.out.2.2.1; simp; omega)).mono ?_
      rintro e w4 ⟨rfl, ⟨va5, hb4⟩, hf4⟩
      have HB5 := Lib.hid hb4
      have HF5 := Lib.hid (HF3.out.trans hf4)
      have hX3 := HX2.out.fr hf4 hgx
      obtain ⟨s0, s1, s2, _, _, _⟩ := hX3.facts
      clear hb4 hf4 hX3
      go_wp2_with fail
      refine (end_any w base base _ _ _ _ (uFold a b k).states F.final _ (Fr.below HB2.out (by omega) HF5.out) (by omega) HRF.out HB5.out (by have := HSA.out.small.2.2.2; have := HBD.out.2.2.2; simp; omega) HBD.out.1 HST.out HSA.out.final).mono ?_
      rintro e w6 ⟨rfl, ⟨vf7, hb7⟩, hf7⟩
      have HB7 := Lib.hid hb7
      have HF7 := Lib.hid (HF5.out.trans hf7)
      clear hb7 hf7 s0 s1 s2
      go_wp2_with fail
      go_roundw
      case rel =>
        have h3 := HB7.out
        exact ⟨k + 1, by omega, by go_num, ⟨_, _, by rw [HFO.out]; exact h3⟩, HF7.out⟩
      case measure => simp [intOf]; omega
    · obtain rfl : k = 2 := by omega
      have HB7 : Hid (Bld 62 wr base base va4 vf4 (unionF a b)) := by rw [← uFold_two]; exact HB.out
      have hRw := HR1.out.fr HF.out (by omega)
      obtain ⟨A3, n3, c3, rfl, q1, q2, _, _⟩ := HB7.out.oa.rd.op
      obtain ⟨A4, n4, c4, rfl, q3, q4, _, _⟩ := HB7.out.oi.rd.op
      obtain ⟨r0, r1, r2, f0, f1, f2⟩ := hRw.facts
      have d0 := HB7.out.c0
      have d1 := HB7.out.c1
      have d2 := HB7.out.c2
      have HRW := Lib.hid hRw
      clear hRw
      go_wp2_with fail
      refine bodyPost_ret (v := .tuple #[.agg #[.int .i64 (unionF a b).states, .slice A3 n3 c3, .slice A4 n4 c4], .int .i64 0]) ?_ rfl ?_
      · simp [results, Try.results33, go_sem, r0, r1, r2]
      refine ⟨⟨_, rfl, ?_⟩, ?_⟩
      · exact OwnF.past HB7.out HRW.out _ _ _ (by omega)
      · exact (((Fr.below HB2.out (by omega) HF.out).setCell (by first | omega | (simp; done) | (simp; omega)) _).setCell (by first | omega | (simp; done) | (simp; omega)) _).setCell (by first | omega | (simp; done) | (simp; omega)) _
end Go.Proofs.Ytmeppkkoepmlnaa
