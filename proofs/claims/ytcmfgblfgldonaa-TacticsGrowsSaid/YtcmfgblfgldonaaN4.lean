/-
  reached of tactics.
-/
import Derived.Test.YtcmfgblfgldonaaNP1
namespace Go.Proofs.Ytcmfgblfgldonaa
open Go.ChangeShapes Go.WideShapes Go.ChangeAt Go.RowKit Go.Shelf
attribute [local go_sem] Oper.semAt_some
/-- all blocks of A but one are as they were -/
def Same1 (o : Nat) (A W : World) : Prop := A.heap.size ≤ W.heap.size ∧ ∀ k, k < A.heap.size → k ≠ o → W.heap[k]? = A.heap[k]?
theorem Same1.refl (o : Nat) (A : World) : Same1 o A A := ⟨Nat.le_refl _, fun _ _ _ => rfl⟩
theorem Same1.alloc {o : Nat} {A W : World} (h : Same1 o A W) (x : Obj) : Same1 o A (W.alloc x) := ⟨by have := h.1; simp; omega, fun k hk hne => (Below.heap_alloc W x k (by have := h.1; omega)).trans (h.2 k hk hne)⟩
theorem Same1.set {o : Nat} {A W : World} (h : Same1 o A W) (j : Nat) (u : Value) : Same1 o A (W.setCell ⟨o, j, none⟩ u) := ⟨by have := h.1; simpa using this, fun k hk hne => (Below.heap_setCell W ⟨o, j, none⟩ u k hne).trans (h.2 k hk hne)⟩
theorem Same1.call {o : Nat} {A W W' : World} (h : Same1 o A W) (k : Below W.heap.size W W') : Same1 o A W' := ⟨Nat.le_trans h.1 k.size, fun i hi hne => (k.block i (by have := h.1; omega)).trans (h.2 i hi hne)⟩
theorem same1_own {β : Type} (o : Nat) (A : World) : OwnFrom A.heap.size (fun (_ : β) W => Same1 o A W) := fun _ X Y row hs hg hr =>
  ⟨Nat.le_trans hs.1 hg.size, fun k hk hne => (hg.block k (by have := hs.1; omega) (fun e => by have := (hr k e.symm).1; omega)).trans (hs.2 k hk hne)⟩
/-- marks of loops that are over -/
def Marks (B : Nat) (ds : List Deferred) (w : World) : Prop := ∃ Ds : List Nat, Ds.Nodup ∧ ds = Ds.map (fun D => { target := .collected D, args := #[] }) ∧ ∀ D, D ∈ Ds → B ≤ D ∧ w.heap[D]? = some (.deferred (some []))
theorem Marks.nil (B : Nat) (w : World) : Marks B [] w := ⟨[], by simp, rfl, by simp⟩
theorem Marks.cons {B : Nat} {ds : List Deferred} {A w : World} {D : Nat} (h : Marks B ds A) (hB : B ≤ D) (hD : A.heap.size ≤ D) (hk : w.heap[D]? = some (.deferred (some []))) (hs : ∀ (k : Nat) (o : Obj), A.heap[k]? = some o → o.isCells = false → w.heap[k]? = some o) : Marks B ({ target := .collected D, args := #[] } :: ds) w := by
  obtain ⟨Ds, h1, h2, h3⟩ := h
  refine ⟨D :: Ds, List.nodup_cons.2 ⟨fun hm => ?_, h1⟩, by rw [h2]; rfl, fun x hx => ?_⟩
  · have := (Array.getElem?_eq_some_iff.1 (h3 D hm).2).1; omega
  · rcases List.mem_cons.1 hx with rfl | hx
    · exact ⟨hB, hk⟩
    · exact ⟨(h3 x hx).1, hs x _ (h3 x hx).2 rfl⟩
theorem leaves_marks {F : Fence} {n : Nat} {P : Program} {fn : Func} {tmps : Array Value} {R : Ending → World → Prop} (B : Nat) : ∀ (Ds : List Nat) (w : World), Ds.Nodup → (∀ D, D ∈ Ds → B ≤ D ∧ w.heap[D]? = some (.deferred (some []))) →
    (∀ W, Below B w W → W.heap.size = w.heap.size → (∀ k, k ∉ Ds → W.heap[k]? = w.heap[k]?) → LeavesIn F n P fn tmps R [] .returning W) → LeavesInM F n P fn tmps R (Ds.map (fun D => { target := .collected D, args := #[] })) .returning w
  | [], w, _, _, h => h w (Below.refl _ _) rfl (fun _ _ => rfl)
  | D :: Ds, w, hn, hD, h => by
    obtain ⟨hn1, hn2⟩ := List.nodup_cons.1 hn
    obtain ⟨hB, hk⟩ := hD D (by simp)
    have hlt := (Array.getElem?_eq_some_iff.1 hk).1
    refine ⟨by simp, .inl ⟨D, _, rfl, run_takeDeferred hk, ?_⟩⟩
    refine leaves_marks B Ds _ hn2 (fun E hE => ?_) (fun W h1 h2 h3 => ?_)
    · obtain ⟨a, b⟩ := hD E (by simp [hE])
      refine ⟨a, ?_⟩
      rw [World.putObj_heap_other (by rintro rfl; exact hn1 hE)]
      exact b
    · refine h W ?_ ?_ ?_
      · refine Below.trans ?_ h1
        exact (Below.refl B w).grown (grownBy_putObj' w D _) (by omega) (fun k e => by cases e; exact hB)
      · simpa using h2
      · intro k hk
        simp only [List.mem_cons, not_or] at hk
        exact (h3 k hk.2).trans (World.putObj_heap_other hk.1)

theorem own_keep {W' A : World} {o : Nat} (hs : Same1 o A W') (hc : ∀ x, A.heap[o]? = some x → x.isCells = true) : ∀ (k : Nat) (x : Obj), A.heap[k]? = some x → x.isCells = false → W'.heap[k]? = some x := by
  intro k x hk hx
  have hlt := (Array.getElem?_eq_some_iff.1 hk).1
  by_cases e : k = o
  · subst e; have := hc x hk; rw [hx] at this; cases this
  · exact (hs.2 k hlt e).trans hk
set_option maxHeartbeats 8000000 in
set_option maxRecDepth 100000 in
theorem reached_any (v : Value) (N : PNet) (S m : Nat) (w : World) (hv : RdN w v N) (hG : GoodN N) (hS : N.states = (S : Int)) (hm : m < 2 ^ S) :
    Calls Try.prog 45 #[v, .int .u32 (m : Int)] w fun e w' => e = .returned (.int .u32 ((reachF N.steps S m : Nat) : Int)) ∧ Below w.heap.size w w' := by
  obtain ⟨vs, vf, rfl, hs, hf⟩ := hv
  obtain ⟨A1, n1, c1, rfl, _, _, _, _⟩ := hs.op
  obtain ⟨A2, n2, c2, rfl, _, _, _, _⟩ := hf.op
  have hS24 : S ≤ 24 := by have := hG.s2; omega
  have HSD := Lib.hid hs
  have HFD := Lib.hid hf
  have HS := Lib.hid hS
  rw [hS]
  clear hs hf hS
  obtain ⟨r, hr⟩ : ∃ r, reachF N.steps S m = r := ⟨_, rfl⟩
  rw [hr]
  refine (callsIn_wide (n := 3)).1 ?_
  refine callsIn_of_wp_marks Try.func45 rfl trivial ?_ rfl
  simp only [Try.ntmps45, List.size_toArray, List.length_cons, List.length_nil, Nat.reduceAdd, Nat.reduceSub, Array.replicate_succ, Array.replicate_zero, List.push_toArray, List.append_toArray, List.nil_append, List.cons_append]
  gi_wp2_with fail
  generalize hW0 : World.alloc w _ = W0
  have HNB : Hid (NBlk W0 w.heap.size (.int .i64 S) (.slice A1 n1 c1) (.slice A2 n2 c2)) := by rw [← hW0]; exact heap_alloc_new w _
  have HB0 : Hid (Below w.heap.size w W0) := by rw [← hW0]; repeat (first | assumption | exact Below.refl _ _ | refine Below.alloc ?_ (by first | omega | (simp; done) | (simp; omega)) _ | refine Below.drew ?_ | refine below_drewN ?_ _ | refine Below.setCell ?_ (by first | omega | (simp; done) | (simp; omega)) _)
  clear hW0
  refine wpIn_loop_rounds (S - cnt S m + 1) ?_
  generalize hC : Code.block 1 _ = C
  have HC := Lib.hid hC
  clear hC
  rename_i Q'
  suffices key : ∀ (K m : Nat) (u5 u6 u7 u8 u9 u10 u11 u12 u13 u14 u15 u16 u17 u18 u19 u20 : Value) (ds : List Deferred) (W : World), m < 2 ^ S → Hid (S - cnt S m ≤ K) → Hid (reachF N.steps S m = r) → Hid (NBlk W w.heap.size (.int .i64 S) (.slice A1 n1 c1) (.slice A2 n2 c2)) → Hid (Below w.heap.size w W) → Hid (Marks w.heap.size ds W) →
      Code.roundsIn Fence.wide 3 Try.prog C (Exit.inBlock 0 Q') (K + 1) { tmps := #[.agg #[.int .i64 S, .slice A1 n1 c1, .slice A2 n2 c2], .int .u32 (m : Int), .pointer (some ⟨w.heap.size, 0, none⟩), undef, .int .u32 0, u5, u6, u7, u8, u9, u10, u11, u12, u13, u14, u15, u16, u17, u18, u19, u20], defers := ds } W by
    exact key _ m _ _ _ _ _ _ _ _ _ _ _ _ _ _ _ _ [] W0 hm (Nat.le_refl (S - cnt S m)) hr HNB HB0 (Marks.nil _ _)
  clear hr HNB HB0 hm
  clear m W0
  intro K
  induction K using Nat.strongRecOn with
  | _ K ih =>
    intro m u5 u6 u7 u8 u9 u10 u11 u12 u13 u14 u15 u16 u17 u18 u19 u20 ds W hm HK HR HNB HB HMK
    have IH := Lib.hid ih
    clear ih
    obtain ⟨p0, p1, p2, hpl⟩ := HNB.out.facts
    have hm32 := lt32 hS24 hm
    have HMS := Lib.hid hm
    clear hm
    rw [roundsIn_succ, ← HC.out]
    gi_wp2_with fail
    refine ⟨trivial, ?_⟩
    generalize hV : World.alloc W _ = V
    have HBV : Hid (Below W.heap.size W V) := by rw [← hV]; exact (Below.refl _ _).alloc (Nat.le_refl _) _
    have hO : Boxed V W.heap.size 47 (.int .u32 (m : Int)) := by rw [← hV]; exact Boxed.new W _ _
    have hV1 : V.heap.size ≤ W.heap.size + 1 := by rw [← hV]; simp
    have hV2 : W.heap.size + 1 ≤ V.heap.size := by rw [← hV]; simp
    have HSV : Hid (Same1 V.heap.size W V) := by rw [← hV]; exact (Same1.refl _ _).alloc _
    clear hV
    refine (callsIn_wide.2 (steps_any _ N m _ _ _ (by rw [HS.out]) (HSD.out.below (bchain HB.out HBV.out)) (HFD.out.below (bchain HB.out HBV.out)))).mono ?_
    rintro e w' ⟨rfl, rfl⟩
    rw [HS.out]
    gi_wp2_with fail
    generalize hW1 : (V.alloc (.cells #[.int .i64 S, .slice A1 n1 c1, .slice A2 n2 c2] 25)).alloc (.cells #[.int .u32 (m : Int)] 47) = W1
    have hNB : NBlk W1 V.heap.size (.int .i64 N.states) (.slice A1 n1 c1) (.slice A2 n2 c2) := by rw [← hW1, HS.out]; exact (Below.heap_alloc _ _ _ (by simp)).trans (heap_alloc_new V _)
    have hMB : W1.heap[V.heap.size + 1]? = some (.cells #[.int .u32 (m : Int)] 47 (0, 0)) := by
      rw [← hW1]
      have := heap_alloc_new (V.alloc (.cells #[.int .i64 S, .slice A1 n1 c1, .slice A2 n2 c2] 25)) (.cells #[.int .u32 (m : Int)] 47)
      simpa only [World.size_alloc] using this
    have hVB : Below V.heap.size V W1 := by rw [← hW1]; exact ((Below.refl _ _).alloc (Nat.le_refl _) _).alloc (by simp) _
    have hW1z : V.heap.size + 2 ≤ W1.heap.size := by rw [← hW1]; simp
    have bO0 : Boxed W1 W.heap.size 47 (.int .u32 (m : Int)) := (hVB.block _ hO.lt).trans hO
    have HBW1 : Hid (Below W.heap.size W W1) := HBV.out.trans (hVB.mono (by omega))
    have hB1 : Below w.heap.size w W1 := bchain HB.out HBW1.out
    have hwW : w.heap.size ≤ W.heap.size := HB.out.size
    clear hW1 hO hVB
    refine wpIn_rangeFunc_ownH (α := VStep N) rfl (by omega) (gf := 53) (lb := #[.pointer (some ⟨V.heap.size, 0, none⟩), .pointer (some ⟨V.heap.size + 1, 0, none⟩)]) rfl trivial (enters_of Try.func53 (by kernel_rfl) rfl)
      (steps_stops 2 (by omega) V.heap.size (V.heap.size + 1) w.heap.size N m _ _ hm32 hG w W1 (Nat.le_refl _) hB1 (by omega) hNB hMB HSD.out) KB.tr (KB.b (by omega) (by omega)) (Below.refl _ _) (fun _ => rfl)
      (fun pre Wx => (Boxed Wx W.heap.size 47 (.int .u32 (((pre.map Subtype.val).foldl addAny m : Nat) : Int)) ∧ Same1 W.heap.size W1 Wx) ∧ Below w.heap.size w Wx)
      (fun _ _ _ => False)
      (OwnFrom.and (OwnFrom.and (Own.from (boxed_own _ _ _) _) (same1_own _ _)) (ownFrom_below (Nat.le_refl _) (by omega)))
      (fun _ _ _ _ _ hs _ _ => hs)
      ⟨⟨bO0, Same1.refl _ _⟩, hB1⟩
      (fun x a' Wx => ∃ Bx, W.heap.size < Bx ∧ SBlk Wx Bx x.1 ∧ a' = { tmps := #[.agg #[.int .i64 S, .slice A1 n1 c1, .slice A2 n2 c2], .int .u32 (m : Int), .pointer (some ⟨w.heap.size, 0, none⟩), undef, .int .u32 0, .pointer (some ⟨W.heap.size, 0, none⟩), .pointer (some ⟨Bx, 0, none⟩), .int .u32 (m : Int), .agg #[.int .i64 S, .slice A1 n1 c1, .slice A2 n2 c2], .int .u32 (m : Int), .func (.func 53) #[] #[.pointer (some ⟨V.heap.size, 0, none⟩), .pointer (some ⟨V.heap.size + 1, 0, none⟩)], Value.agg #[.int .i64 x.1.fr, .int .i64 x.1.cls, .int .i64 x.1.tgt], u12, u13, u14, u15, u16, u17, u18, u19, u20], defers := [] })
      (fun x a' _ X Y row hs hg hr => by obtain ⟨Bx, h1, h2, h3⟩ := hs; exact ⟨Bx, h1, sblk_own Bx x () X Y row h2 hg (fun r e => (hr r e).2), h3⟩)
      ?assign ?body ?done ?stop
    case assign =>
      rintro l pre x Wx K2 ⟨⟨bO1, hS1⟩, hB2⟩ hK
      have HK2 := Lib.hid hK
      clear hK
      rw [zip_one]
      simp only [List.setIfInBounds_toArray, List.set_cons_zero, List.set_cons_succ]
      gi_wp2
      exact HK2.out _ _ ((KeepsOthers.alloc _ _).from _) ((KB.refl _ _ Wx).alloc hB2.size _) ⟨⟨bO1.alloc _, hS1.alloc _⟩, hB2.alloc hB2.size _⟩ ⟨Wx.heap.size, bO1.lt, heap_alloc_new Wx _, rfl⟩
    case body =>
      rintro l pre x a' Wx hl ⟨rr, hr⟩ ⟨⟨bO1, hS1⟩, hB2⟩ ⟨Bx, hBx, bX, rfl⟩ hlt
      have hok := hG.step x.1 x.2
      obtain ⟨x0, x1, x2, hxl⟩ := bX.facts
      have cO := bO1.cell
      have fO := bO1.frozen
      obtain ⟨q, hq⟩ : ∃ q : Nat, x.1.tgt = (q : Int) := ⟨x.1.tgt.toNat, by have := hok.t0; omega⟩
      have hq24 : q < 32 := by have := hok.t1; have := HS.out; omega
      have HO := Lib.hid bO1
      have HS1 := Lib.hid hS1
      have HB2 := Lib.hid hB2
      have hne : V.heap.size + 1 ≠ W.heap.size := by omega
      obtain ⟨M, hM⟩ : ∃ M, (pre.map Subtype.val).foldl addAny m = M := ⟨_, rfl⟩
      have hMl : M < 2 ^ S := by rw [← hM]; exact fold_lt hG addAny (fun o s h1 h2 => addAny_lt HS.out o s h1 h2) _ (vals_in pre) m HMS.out
      have hM32 := lt32 hS24 hMl
      have e : ((pre ++ [x]).map Subtype.val).foldl addAny m = M ||| 1 <<< q := by rw [List.map_append, List.foldl_append, hM]; show withB M x.1.tgt = _; rw [withB, hq]; simp
      have HE := Lib.hid e
      rw [hM] at cO
      have HO2 : Hid (Boxed Wx W.heap.size 47 (.int .u32 (M : Int))) := by have := HO.out; rw [hM] at this; exact this
      clear e hM bO1 hS1 hB2 hok hl hr hMl
      rw [hq] at x2
      clear hq
      gi_wp2_with (refine ⟨trivial, ?_⟩; gi_at_call 51; refine (CallsIn.inRound l (callsIn_wide.2 (with_any M q _ hM32 hq24))).mono ?_; rintro e w' ⟨rfl, rfl⟩; dsimp only)
      exact ⟨(KeepsOthers.setCell _ _ _).from _, (KB.refl _ _ _).set _ (by omega) (by omega) _ _, ⟨⟨by rw [HE.out]; exact HO2.out.set _, HS1.out.set _ _⟩, HB2.out.setCell (p := ⟨W.heap.size, 0, none⟩) (by simp; omega) _⟩⟩
    case done =>
      rintro D ys Wx hD hys ⟨⟨bO1, hS1⟩, hB2⟩ hK
      rw [hys] at bO1
      change Boxed Wx W.heap.size 47 (.int .u32 ((roundF N.steps m : Nat) : Int)) at bO1
      have hMl := round_lt hG HS.out HMS.out
      have HRR := Lib.hid (reach_round hG HS.out HMS.out)
      have HFX := Lib.hid (reach_of_fix (N := N) S (m := m))
      have HCN := Lib.hid (cnt_lt HMS.out hMl (round_sub N.steps m))
      have hcs := cnt_le S (roundF N.steps m)
      obtain ⟨M, hM⟩ : ∃ M, roundF N.steps m = M := ⟨_, rfl⟩
      rw [hM] at bO1 hMl HRR HFX HCN hcs
      clear hM hys
      have cO := bO1.cell
      have HMK2 : Hid (Marks w.heap.size ({ target := .collected D, args := #[] } :: ds) Wx) := by
        refine HMK.out.cons (by omega) (by have := HBW1.out.size; omega) hK (fun k o h1 h2 => ?_)
        have hk := (Array.getElem?_eq_some_iff.1 h1).1
        exact (hS1.2 k (by have := HBW1.out.size; omega) (by omega)).trans ((HBW1.out.block k hk).trans h1)
      have HB2 := Lib.hid hB2
      have HKD := Lib.hid hK
      have HNB2 : Hid (NBlk Wx w.heap.size (.int .i64 S) (.slice A1 n1 c1) (.slice A2 n2 c2)) := (hS1.2 _ (by have := HBW1.out.size; omega) (by omega)).trans (HNB.out.below HBW1.out)
      clear bO1 hS1 hB2 hK
      by_cases hMm : M = m
      · have hb : ((M : Int) == (m : Int)) = true := by simp [hMm]
        have HEQ : Hid (r = M) := by rw [Hid, ← HR.out, HFX.out hMm, hMm]
        clear hMm
        gi_wp2
        obtain ⟨Ds, h1, h2, h3⟩ := HMK2.out
        rw [h2]
        refine leaves_marks w.heap.size Ds _ h1 h3 (fun W2 h4 _ _ => ?_)
        exact ⟨_, results_tmp rfl _ _ _, by rw [HEQ.out]; rfl, HB2.out.trans h4⟩
      · have hb : ((M : Int) == (m : Int)) = false := by simp; omega
        have hlt := HCN.out hMm
        have hK1 : K = K - 1 + 1 := by have := HK.out; omega
        have HK3 : Hid (S - cnt S M ≤ K - 1) := by have := HK.out; rw [Hid]; omega
        have HK1 := Lib.hid hK1
        have hKlt : K - 1 < K := by omega
        clear hMm hlt hK1
        gi_wp2
        rw [HC.out, HK1.out]
        exact IH.out (K - 1) hKlt M _ _ _ _ _ _ _ _ _ _ _ _ _ _ _ _ _ Wx hMl HK3 (HRR.out.trans HR.out) HNB2 HB2 HMK2
    case stop =>
      rintro D c pre Wx _ _ h _
      exact h.elim
end Go.Proofs.Ytcmfgblfgldonaa
