/-
  after of tactics.
-/
import Derived.Test.YtcmfgblfgldonaaN2
namespace Go.Proofs.Ytcmfgblfgldonaa
open Go.ChangeShapes Go.WideShapes Go.ChangeAt Go.RowKit Go.Shelf
attribute [local go_sem] Oper.semAt_some
def withB (m : Nat) (q : Int) : Nat := m ||| 1 <<< q.toNat
def addC (c : Int) (o : Nat) (s : PStep) : Nat := if s.cls = c then withB o s.tgt else o
def afterF (L : List PStep) (m : Nat) (c : Int) : Nat := (fromL L m).foldl (addC c) 0
def addAny (o : Nat) (s : PStep) : Nat := withB o s.tgt
def roundF (L : List PStep) (m : Nat) : Nat := (fromL L m).foldl addAny m
theorem withB_lt {S : Nat} {m : Nat} {q : Int} (hm : m < 2 ^ S) (h1 : q < (S : Int)) (h0 : 0 ≤ q) : withB m q < 2 ^ S :=
  Nat.or_lt_two_pow hm (by rw [Nat.one_shiftLeft]; exact Nat.pow_lt_pow_right (by decide) (by omega))
theorem lt32 {S m : Nat} (hS : S ≤ 24) (hm : m < 2 ^ S) : m < 4294967296 := Nat.lt_of_lt_of_le hm (Nat.le_trans (Nat.pow_le_pow_right (by decide) hS) (by decide))
theorem fold_lt {N : PNet} (hG : GoodN N) {S : Nat} (f : Nat → PStep → Nat) (hf : ∀ o s, StepOk N.states s → o < 2 ^ S → f o s < 2 ^ S) (l : List PStep) (hl : ∀ s, s ∈ l → s ∈ N.steps) (o : Nat) (ho : o < 2 ^ S) : l.foldl f o < 2 ^ S := by
  induction l generalizing o with
  | nil => exact ho
  | cons s l ih => exact ih (fun x hx => hl x (by simp [hx])) _ (hf o s (hG.step s (hl s (by simp))) ho)
theorem addC_lt {N : PNet} {S : Nat} (hS : N.states = (S : Int)) (c : Int) (o : Nat) (s : PStep) (h : StepOk N.states s) (ho : o < 2 ^ S) : addC c o s < 2 ^ S := by
  unfold addC
  split
  · exact withB_lt ho (by have := h.t1; omega) h.t0
  · exact ho
theorem addAny_lt {N : PNet} {S : Nat} (hS : N.states = (S : Int)) (o : Nat) (s : PStep) (h : StepOk N.states s) (ho : o < 2 ^ S) : addAny o s < 2 ^ S := withB_lt ho (by have := h.t1; omega) h.t0
theorem zip_one (p : Tmp) (v : Value) (T : Array Value) : ((#[p].zip #[v]).foldl (fun t (p, v) => t.setIfInBounds p v) T) = T.setIfInBounds p v := by simp
theorem vals_in {N : PNet} (pre : List (VStep N)) : ∀ s, s ∈ pre.map Subtype.val → s ∈ N.steps := by
  intro s hs
  obtain ⟨x, _, rfl⟩ := List.mem_map.1 hs
  exact x.2
theorem sblk_own {N : PNet} (B : Nat) (x : VStep N) : Own (fun (_ : Unit) W => SBlk W B x.1) := fun s X Y row hs hg hrow =>
  (hg.block B (Array.getElem?_eq_some_iff.1 hs).1 (fun e' => by obtain ⟨o, ho, hc⟩ := hrow B e'.symm; rw [show X.heap[B]? = _ from hs] at ho; cases ho; cases hc)).trans hs
set_option maxHeartbeats 4000000 in
set_option maxRecDepth 100000 in
theorem after_any (v : Value) (N : PNet) (S m : Nat) (c : Int) (w : World) (hv : RdN w v N) (hG : GoodN N) (hS : N.states = (S : Int)) (hm : m < 2 ^ S) :
    Calls Try.prog 39 #[v, .int .u32 (m : Int), .int .i64 c] w fun e w' => e = .returned (.int .u32 ((afterF N.steps m c : Nat) : Int)) ∧ Below w.heap.size w w' := by
  obtain ⟨vs, vf, rfl, hs, hf⟩ := hv
  obtain ⟨A1, n1, c1, rfl, _, _, _, _⟩ := hs.op
  obtain ⟨A2, n2, c2, rfl, _, _, _, _⟩ := hf.op
  have hS24 : S ≤ 24 := by have := hG.s2; omega
  have hm32 := lt32 hS24 hm
  have HSD := Lib.hid hs
  have HFD := Lib.hid hf
  clear hs hf
  refine (callsIn_wide (n := 3)).1 ?_
  refine callsIn_of_wp_marks Try.func39 rfl trivial ?_ rfl
  simp only [Try.ntmps39, List.size_toArray, List.length_cons, List.length_nil, Nat.reduceAdd, Nat.reduceSub, Array.replicate_succ, Array.replicate_zero, List.push_toArray, List.append_toArray, List.nil_append, List.cons_append]
  have HS := Lib.hid hS
  rw [hS]
  clear hS
  gi_wp2_with fail
  refine ⟨trivial, ?_⟩
  have b1 : Below w.heap.size w (((w.alloc (.cells #[.int .i64 S, .slice A1 n1 c1, .slice A2 n2 c2] 25)).alloc (.cells #[.int .i64 c] 3)).alloc (.cells #[.int .u32 0] 47)) := by repeat (first | assumption | exact Below.refl _ _ | refine Below.alloc ?_ (by first | omega | (simp; done) | (simp; omega)) _ | refine Below.drew ?_ | refine below_drewN ?_ _ | refine Below.setCell ?_ (by first | omega | (simp; done) | (simp; omega)) _)
  refine (callsIn_wide.2 (steps_any _ N m _ _ _ (by rw [HS.out]) (HSD.out.below b1) (HFD.out.below b1))).mono ?_
  rintro e w' ⟨rfl, rfl⟩
  rw [HS.out]
  gi_wp2_with fail
  generalize hV : ((w.alloc (.cells #[.int .i64 S, .slice A1 n1 c1, .slice A2 n2 c2] 25)).alloc (.cells #[.int .i64 c] 3)).alloc (.cells #[.int .u32 0] 47) = V at b1 ⊢
  have hVz : V.heap.size = w.heap.size + 3 := by rw [← hV]; simp
  have BC : Boxed V (w.heap.size + 1) 3 (.int .i64 c) := by
    rw [← hV]
    have := Boxed.new (w.alloc (.cells #[.int .i64 S, .slice A1 n1 c1, .slice A2 n2 c2] 25)) 3 (.int .i64 c)
    simp only [World.size_alloc] at this
    exact this.alloc _
  have BO : Boxed V (w.heap.size + 1 + 1) 47 (.int .u32 0) := by
    rw [← hV]
    have := Boxed.new ((w.alloc (.cells #[.int .i64 S, .slice A1 n1 c1, .slice A2 n2 c2] 25)).alloc (.cells #[.int .i64 c] 3)) 47 (.int .u32 0)
    simpa only [World.size_alloc] using this
  clear hV
  generalize hW0 : (V.alloc (.cells #[.int .i64 S, .slice A1 n1 c1, .slice A2 n2 c2] 25)).alloc (.cells #[.int .u32 (m : Int)] 47) = W0
  have hNB : NBlk W0 V.heap.size (.int .i64 S) (.slice A1 n1 c1) (.slice A2 n2 c2) := by rw [← hW0]; exact (Below.heap_alloc _ _ _ (by simp)).trans (heap_alloc_new V _)
  have hMB : W0.heap[V.heap.size + 1]? = some (.cells #[.int .u32 (m : Int)] 47 (0, 0)) := by
    rw [← hW0]
    have := heap_alloc_new (V.alloc (.cells #[.int .i64 S, .slice A1 n1 c1, .slice A2 n2 c2] 25)) (.cells #[.int .u32 (m : Int)] 47)
    simpa only [World.size_alloc] using this
  have hVB : Below V.heap.size V W0 := by rw [← hW0]; exact ((Below.refl _ _).alloc (Nat.le_refl _) _).alloc (by simp) _
  have hW0z : W0.heap.size = V.heap.size + 2 := by rw [← hW0]; simp
  have BC0 : Boxed W0 (w.heap.size + 1) 3 (.int .i64 c) := (hVB.block _ BC.lt).trans BC
  have BO0 : Boxed W0 (w.heap.size + 1 + 1) 47 (.int .u32 0) := (hVB.block _ BO.lt).trans BO
  have hB0 : Below w.heap.size w W0 := b1.trans (hVB.mono (by omega))
  have ez : w.heap.size + 1 + 1 + 1 = V.heap.size := by omega
  simp only [ez]
  clear hW0 BC BO b1
  have hnb : NBlk W0 V.heap.size (.int .i64 N.states) (.slice A1 n1 c1) (.slice A2 n2 c2) := by rw [HS.out]; exact hNB
  refine wpIn_rangeFunc_ownH (α := VStep N) rfl (by omega) (gf := 53) (lb := #[.pointer (some ⟨V.heap.size, 0, none⟩), .pointer (some ⟨V.heap.size + 1, 0, none⟩)]) rfl trivial (enters_of Try.func53 (by kernel_rfl) rfl)
    (steps_stops 2 (by omega) V.heap.size (V.heap.size + 1) w.heap.size N m _ _ hm32 hG w W0 (Nat.le_refl _) hB0 (by omega) hnb hMB HSD.out) KB.tr (KB.b (by omega) (by omega)) (Below.refl _ _) (fun _ => rfl)
    (fun pre W => (Boxed W (w.heap.size + 1 + 1) 47 (.int .u32 (((pre.map Subtype.val).foldl (addC c) 0 : Nat) : Int)) ∧ Boxed W (w.heap.size + 1) 3 (.int .i64 c)) ∧ Below w.heap.size w W)
    (fun _ _ _ => False)
    (OwnFrom.and (OwnFrom.and (Own.from (boxed_own _ _ _) _) (Own.from (boxed_own _ _ _) _)) (ownFrom_below (Nat.le_refl _) (by omega)))
    (fun _ _ _ _ _ hs _ _ => hs)
    ⟨⟨BO0, BC0⟩, hB0⟩
    (fun x a' W => ∃ Bx, w.heap.size + 1 + 1 < Bx ∧ SBlk W Bx x.1 ∧ a' = { tmps := #[.agg #[.int .i64 S, .slice A1 n1 c1, .slice A2 n2 c2], .int .u32 (m : Int), .int .i64 c, .pointer (some ⟨w.heap.size, 0, none⟩), undef, .pointer (some ⟨w.heap.size + 1, 0, none⟩), .int .u32 0, .pointer (some ⟨w.heap.size + 1 + 1, 0, none⟩), .pointer (some ⟨Bx, 0, none⟩), .agg #[.int .i64 S, .slice A1 n1 c1, .slice A2 n2 c2], .int .u32 (m : Int), .func (.func 53) #[] #[.pointer (some ⟨V.heap.size, 0, none⟩), .pointer (some ⟨V.heap.size + 1, 0, none⟩)], Value.agg #[.int .i64 x.1.fr, .int .i64 x.1.cls, .int .i64 x.1.tgt], undef, undef, undef, undef, undef, undef, undef, undef, undef], defers := [] })
    (fun x a' _ X Y row hs hg hr => by obtain ⟨Bx, h1, h2, h3⟩ := hs; exact ⟨Bx, h1, sblk_own Bx x () X Y row h2 hg (fun r e => (hr r e).2), h3⟩)
    ?assign ?body ?done ?stop
  case assign =>
    rintro l pre x W K ⟨⟨bO1, bC1⟩, hB1⟩ hK
    have HK := Lib.hid hK
    clear hK
    rw [zip_one]
    simp only [List.setIfInBounds_toArray, List.set_cons_zero, List.set_cons_succ]
    gi_wp2
    exact HK.out _ _ ((KeepsOthers.alloc _ _).from _) ((KB.refl _ _ W).alloc hB1.size _) ⟨⟨bO1.alloc _, bC1.alloc _⟩, hB1.alloc hB1.size _⟩ ⟨W.heap.size, bO1.lt, heap_alloc_new W _, rfl⟩
  case body =>
    rintro l pre x a' W hl ⟨r, hr⟩ ⟨⟨bO1, bC1⟩, hB1⟩ ⟨Bx, hBx, bX, rfl⟩ hlt
    have hok := hG.step x.1 x.2
    obtain ⟨x0, x1, x2, hxl⟩ := bX.facts
    have cO := bO1.cell
    have fO := bO1.frozen
    have cC := bC1.cell
    obtain ⟨q, hq⟩ : ∃ q : Nat, x.1.tgt = (q : Int) := ⟨x.1.tgt.toNat, by have := hok.t0; omega⟩
    have hq24 : q < 32 := by have := hok.t1; have := HS.out; omega
    have HO := Lib.hid bO1
    have HC := Lib.hid bC1
    have HB := Lib.hid hB1
    have HOK := Lib.hid hok
    have hne : V.heap.size + 1 ≠ w.heap.size + 1 + 1 := by omega
    obtain ⟨M, hM⟩ : ∃ M, (pre.map Subtype.val).foldl (addC c) 0 = M := ⟨_, rfl⟩
    have hMl : M < 2 ^ S := by rw [← hM]; exact fold_lt hG (addC c) (fun o s h1 h2 => addC_lt HS.out c o s h1 h2) _ (vals_in pre) 0 (Nat.two_pow_pos S)
    have hM32 := lt32 hS24 hMl
    have HM : Hid (((pre ++ [x]).map Subtype.val).foldl (addC c) 0 = addC c M x.1) := by rw [Hid, List.map_append, List.foldl_append, hM]; rfl
    rw [hM] at cO
    have HMP := Lib.hid hM
    clear hM bO1 bC1 hB1 hok hl hr hMl
    have HQ := Lib.hid hq
    rw [hq] at x2
    clear hq
    have HO2 : Hid (Boxed W (w.heap.size + 1 + 1) 47 (.int .u32 (M : Int))) := by have := HO.out; rw [HMP.out] at this; exact this
    cases hcc : (x.1.cls == c)
    · have e : ((pre ++ [x]).map Subtype.val).foldl (addC c) 0 = M := by rw [HM.out, addC, if_neg (by simpa using hcc)]
      have HE := Lib.hid e
      clear e
      gi_wp2_with fail
      exact ⟨KeepsFrom.refl _ _, KB.refl _ _ _, ⟨⟨by rw [HE.out]; exact HO2.out, HC.out⟩, HB.out⟩⟩
    · have e : ((pre ++ [x]).map Subtype.val).foldl (addC c) 0 = M ||| 1 <<< q := by rw [HM.out, addC, if_pos (by simpa using hcc), withB, HQ.out]; simp
      have HE := Lib.hid e
      clear e
      gi_wp2_with (refine ⟨trivial, ?_⟩; gi_at_call 51; refine (CallsIn.inRound l (callsIn_wide.2 (with_any M q _ hM32 hq24))).mono ?_; rintro e w' ⟨rfl, rfl⟩; dsimp only)
      exact ⟨(KeepsOthers.setCell _ _ _).from _, (KB.refl _ _ _).set _ (by omega) (by omega) _ _, ⟨⟨by rw [HE.out]; exact HO2.out.set _, HC.out.other (by omega) _⟩, HB.out.setCell (p := ⟨w.heap.size + 1 + 1, 0, none⟩) (by simp; omega) _⟩⟩
  case done =>
    rintro D ys W hD hys ⟨⟨bO1, bC1⟩, hB1⟩ hK
    have cO := bO1.cell
    rw [hys] at cO
    have HB := Lib.hid hB1
    have HK := Lib.hid hK
    clear bO1 bC1 hB1 hK hys
    gi_wp2
    refine ⟨by simp, .inl ⟨_, _, rfl, run_takeDeferred HK.out, ?_⟩⟩
    exact ⟨_, results_tmp rfl _ _ _, rfl, HB.out.trans (belowK_b (w := w) (Nat.le_refl _) W D _ _ (by omega) HK.out rfl rfl)⟩
  case stop =>
    rintro D c pre W _ _ h _
    exact h.elim
end Go.Proofs.Ytcmfgblfgldonaa
