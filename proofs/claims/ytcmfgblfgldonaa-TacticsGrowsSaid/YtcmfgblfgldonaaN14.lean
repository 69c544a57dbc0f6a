/-
  Classes of tactics.
-/
import Derived.Test.YtcmfgblfgldonaaN13
import Derived.Test.YtcmfgblfgldonaaSort
import Derived.Test.YtcmfgblfgldonaaNP2
namespace Go.Proofs.Ytcmfgblfgldonaa
open Go.ChangeShapes Go.WideShapes Go.ChangeAt Go.RowKit Go.Shelf
attribute [local go_sem] Oper.semAt_some
theorem boxed_below {W W' : World} {B : Nat} {t : TypeId} {v : Value} (h : Boxed W B t v) (hb : Below W.heap.size W W') : Boxed W' B t v := (hb.block B h.lt).trans h
theorem keeps_below {W W' : World} (B : Nat) (h : Below W.heap.size W W') : KeepsFrom B W W' := ⟨h.size, fun k _ _ hk _ => (h.block k (Array.getElem?_eq_some_iff.1 hk).1).trans hk⟩
theorem wpListIn_app_int {F : Fence} {n : Nat} {ops : Array Oper} {rest : List Oper} {o : Oper} {a : Act} {Q : Exit → Act → World → Prop} {w : World} (hgd : o.guard = none) (s x : Operand)
    (ho : o.op = .call { callee := .builtin .append, args := #[s, x], argTypes := #[23, 23] })
    (base : Nat) (v : Value) (l : List Int) (hs : a.eval s = v) (hown : OwnI w base v l) (x0 : Int) (m : Nat) (hm : Hid (l.length = m)) (hl : m ≤ 1000000) (hbase : base ≤ w.heap.size)
    (hx : a.eval x = .slice (some ⟨w.heap.size, 0, none⟩) 1 1)
    (h : ∀ g' cap w', OwnI w' base (.slice (some ⟨g', 0, none⟩) (m + 1) cap) (l ++ [x0]) → base ≤ g' → (w.alloc (.cells #[.int .i64 x0] 3)).grownBy w' v.ownBlock → wpListIn F n Try.prog ops Q rest (a.put o.dst (.slice (some ⟨g', 0, none⟩) (m + 1) cap)) w') :
    wpListIn F n Try.prog ops Q (o :: rest) a (w.alloc (.cells #[.int .i64 x0] 3)) := by
  obtain rfl := hm.out
  obtain ⟨i0, hi, hz0, hz1, hz2⟩ := info_parts infoI0
  refine wpListIn_append_own _ hgd s x 23 ho base 3 i0 _ 1 8 Try.underlying23 hi hz0 hz1 hz2 rfl (by decide) v l.length (l.map (Value.int .i64)) hs (World.ownsRow.alloc hown _) ⟨w.heap.size, 0, none⟩ 1 1
    [.int .i64 x0] hx rfl ?_ ?_ (by simp only [maxLen]; omega) (by omega) (by simp; omega) ?_
  · intro j u hu
    match j, hu with
    | 0, hu => simp at hu; subst hu; simp [go_sem, Addr.add]
  · intro u hu
    simp at hu
    subst hu
    rfl
  · intro v' w' h1 h2 _
    obtain ⟨g', cap, rfl, hg1, hg2⟩ := h1.form (by omega)
    refine h g' cap w' ?_ hg1 h2
    unfold OwnI
    rw [List.map_append, List.length_append]
    exact h1
theorem boxed_app {W w1 : World} {n₀ base B Bm : Nat} {v v' : Value} {l l' : List Int} {tmp : Obj} (hv : Boxed W B 23 v) (hrow : OwnI W base v l) (hn : n₀ ≤ base) (hbW : base ≤ W.heap.size) (hB : n₀ ≤ B) (hBm : Bm < base) (hne : B ≠ Bm)
    (hown' : OwnI w1 base v' l') (hg : (W.alloc tmp).grownBy w1 v.ownBlock) :
    Boxed w1 B 23 v ∧ Boxed (w1.setCell ⟨B, 0, none⟩ v') B 23 v' ∧ OwnI (w1.setCell ⟨B, 0, none⟩ v') base v' l' ∧ KeepsOthers W (w1.setCell ⟨B, 0, none⟩ v') ∧ KB n₀ Bm W (w1.setCell ⟨B, 0, none⟩ v') ∧ ∀ k, k < base → k ≠ B → (w1.setCell ⟨B, 0, none⟩ v').heap[k]? = W.heap[k]? := by
  obtain ⟨h1, h2, _, h4, h5⟩ := hv.appended (by decide) (own_base hrow hn) (by omega) hB (own_base hown' hn) hg
  have hk : ∀ k, k < base → k ≠ B → (w1.setCell ⟨B, 0, none⟩ v').heap[k]? = W.heap[k]? := fun k hk hne => by
    rw [Below.heap_setCell _ _ _ k (by simpa using hne), hg.block k (by simp; omega) (fun e => by have := (World.ownsRow.lt hrow k e.symm).1; omega), Below.heap_alloc W _ k (by omega)]
  exact ⟨h1, h2, World.ownsRow.kept hown' (grownBy_setCell' w1 B v') (.inr (h1.not_row (by decide) hown').symm), h4, ⟨h5, fun hl => hk Bm hBm (Ne.symm hne)⟩, hk⟩
theorem size_own {β : Type} (B n : Nat) : OwnFrom B (fun (_ : β) W => n ≤ W.heap.size) := fun _ _ _ _ hs hg _ => Nat.le_trans hs hg.size
set_option maxHeartbeats 4000000 in
set_option maxRecDepth 100000 in
theorem classes_any (v : Value) (N : PNet) (S : Nat) (w : World) (hv : RdN w v N) (hG : GoodN N) (hS : N.states = (S : Int)) :
    Calls Try.prog 24 #[v] w fun e w' => (∃ vl, e = .returned vl ∧ OwnI w' w.heap.size vl (folF N S (reachF N.steps S 1) 20)) ∧ Below w.heap.size w w' := by
  have HV := Lib.hid hv
  obtain ⟨vs, vf, rfl, hs, hf⟩ := hv
  have HF := Lib.hid hf
  obtain ⟨A1, n1, c1, rfl, _, _, _, _⟩ := hs.op
  obtain ⟨A2, n2, c2, rfl, _, _, _, _⟩ := hf.op
  have hS24 : S ≤ 24 := by have := hG.s2; omega
  have HS' := Lib.hid hS
  have HFI : Hid (∀ q, q ∈ N.final → 0 ≤ q ∧ q < (S : Int)) := fun q hq => by have := hG.fin q hq; omega
  have HO1 : Hid (∀ q, q ∈ [(((0 : Nat) : Int))] → 0 ≤ q ∧ q < (S : Int)) := by intro q hq; simp at hq; have := hG.s1; omega
  have H1S : Hid ((1 : Nat) < 2 ^ S) := by have := hG.s1; exact Nat.one_lt_two_pow (by omega)
  rw [hS] at HV ⊢
  clear hs hf hS
  refine (callsIn_wide (n := 3)).1 ?_
  refine callsIn_of_wp_marks Try.func24 rfl trivial ?_ rfl
  simp only [Try.ntmps24, List.size_toArray, List.length_cons, List.length_nil, Nat.reduceAdd, Nat.reduceSub, Array.replicate_succ, Array.replicate_zero, List.push_toArray, List.append_toArray, List.nil_append, List.cons_append]
  gi_wp2_with fail
  generalize hW : World.alloc w _ = W
  have HBW : Hid (Below w.heap.size w W) := by rw [← hW]; repeat (first | assumption | exact Below.refl _ _ | refine Below.alloc ?_ (by first | omega | (simp; done) | (simp; omega)) _ | refine Below.drew ?_ | refine below_drewN ?_ _ | refine Below.setCell ?_ (by first | omega | (simp; done) | (simp; omega)) _)
  have HNB : Hid (NBlk W w.heap.size (.int .i64 S) (.slice A1 n1 c1) (.slice A2 n2 c2)) := by rw [← hW]; exact heap_alloc_new w _
  clear hW
  refine wpIn_wide.2 ?_
  rename_i K0 hK0
  suffices REST : ∀ (bx : Nat) (W1 : World), Below W.heap.size W W1 → Boxed W1 bx 47 (.int .u32 ((livingF N S S : Nat) : Int)) → W.heap.size ≤ bx → K0 { tmps := #[.agg #[.int .i64 S, .slice A1 n1 c1, .slice A2 n2 c2], .pointer (some ⟨w.heap.size, 0, none⟩), .slice none 0 0, .int .u32 ((reachF N.steps S 1 : Nat) : Int), .pointer (some ⟨bx, 0, none⟩), undef, undef, .agg #[.int .i64 S, .slice A1 n1 c1, .slice A2 n2 c2], .int .u32 ((reachF N.steps S 1 : Nat) : Int), .agg #[.int .i64 S, .slice A1 n1 c1, .slice A2 n2 c2], .int .u32 ((livingF N S S : Nat) : Int), undef, undef, undef, undef, undef, undef, undef, undef, undef, undef, undef, undef, undef, undef, undef, undef, undef, undef, undef, undef, undef, undef, undef], defers := [] } W1 by
    refine wp_region_steps 7 5 [0, 1, 2, 3, 4] [] (fun w' => Below W.heap.size W w') (by kernel_rfl) (by kernel_rfl) ?_
    rintro D hD
    have HSD : Hid (Below W.heap.size W D) := by rw [hD]; exact (Below.refl _ _).drew
    clear hD
    have HS : Hid (∀ w' : World, Below W.heap.size W w' → w'.cell? ⟨w.heap.size, 0, none⟩ = some (.int .i64 S) ∧ w'.cell? ⟨w.heap.size, 1, none⟩ = some (.slice A1 n1 c1) ∧ w'.cell? ⟨w.heap.size, 2, none⟩ = some (.slice A2 n2 c2)) := by
      intro w' h
      obtain ⟨f0, f1, f2, _⟩ := (HNB.out.below h).facts
      exact ⟨f0, f1, f2⟩
    (refine wpE_take 0 (v := ?_) (by kernel_rfl) rfl rfl (by exact HSD.out) (fun w' hS => ?_) ?_; rotate_left; (focus ((try obtain ⟨s0, s1, s2⟩ := HS.out _ (hS rfl)); clear hS; go_simp; try with_reducible rfl; done)); (try simp only [Act.put, List.setIfInBounds_toArray, List.set_cons_zero, List.set_cons_succ]))
    (refine wpE_take 2 (v := ?_) (by kernel_rfl) rfl rfl (by exact HSD.out) (fun w' hS => ?_) ?_; rotate_left; (focus ((try obtain ⟨s0, s1, s2⟩ := HS.out _ (hS rfl)); clear hS; go_simp; try with_reducible rfl; done)); (try simp only [Act.put, List.setIfInBounds_toArray, List.set_cons_zero, List.set_cons_succ]))
    refine wpE_br [1, 4] (by kernel_rfl) ?_
    refine AllE.cons rfl rfl (fun K hK => ?_) (AllE.cons rfl rfl (fun K hK => ?_) AllE.nil)
    · skip
      go_simp
      refine (reached_any _ N S 1 _ (HV.out.below (bchain HBW.out HSD.out)) hG HS'.out H1S.out).mono ?_
      rintro e Y1 ⟨rfl, hb⟩
      refine hK.out _ _ (bchain HSD.out hb) ?_
      clear hK K
      (try simp only [Act.put, List.setIfInBounds_toArray, List.set_cons_zero, List.set_cons_succ])
      have HSY1 := Lib.hid (bchain HSD.out hb)
      have HXY1 := Lib.hid hb
      clear hb
      refine wpE_br [3, 4] (by kernel_rfl) ?_
      refine AllE.cons rfl rfl (fun K hK => ?_) (AllE.cons rfl rfl (fun K hK => ?_) AllE.nil)
      · skip
        go_simp
        refine (living_any _ N S _ (HV.out.below (bchain HBW.out HSY1.out)) hG HS'.out).mono ?_
        rintro e Y2 ⟨rfl, hb⟩
        refine hK.out _ _ (bchain HSY1.out hb) ?_
        clear hK K
        (try simp only [Act.put, List.setIfInBounds_toArray, List.set_cons_zero, List.set_cons_succ])
        have HSY2 := Lib.hid (bchain HSY1.out hb)
        have HXY2 := Lib.hid hb
        clear hb
        refine wpE_br [4] (by kernel_rfl) ?_
        refine AllE.cons rfl rfl (fun K hK => ?_) AllE.nil
        have hge : W.heap.size ≤ Y2.heap.size := HSY2.out.size
        go_simp
        refine hK.out _ _ (HSY2.out.alloc HSY2.out.size _) ?_
        clear hK K
        (try simp only [Act.put, List.setIfInBounds_toArray, List.set_cons_zero, List.set_cons_succ])
        generalize hX : World.alloc Y2 _ = Y3
        have HSY3 : Hid (Below W.heap.size W Y3) := by rw [← hX]; exact HSY2.out.alloc HSY2.out.size _
        have HXY3 : Hid (Below Y2.heap.size Y2 Y3) := by rw [← hX]; exact (Below.refl _ _).alloc (Nat.le_refl _) _
        have BXY3 : Hid (Boxed Y3 Y2.heap.size 47 (.int .u32 0)) := by rw [← hX]; exact Boxed.new _ _ _
        clear hX
        refine wpE_rest 5 (by kernel_rfl) ?_
        simp only [List.drop_succ_cons, List.drop_zero]
        have bc := (BXY3).out.cell
        have bf := (BXY3).out.frozen
        go_wp2_with fail
        refine NoPanic.normal ?_
        exact REST _ _ ((HSY3).out.setCell (by simp; omega) _) ((BXY3).out.set _) hge
      · skip
        have hge : W.heap.size ≤ Y1.heap.size := HSY1.out.size
        go_simp
        refine hK.out _ _ (HSY1.out.alloc HSY1.out.size _) ?_
        clear hK K
        (try simp only [Act.put, List.setIfInBounds_toArray, List.set_cons_zero, List.set_cons_succ])
        generalize hX : World.alloc Y1 _ = Y2
        have HSY2 : Hid (Below W.heap.size W Y2) := by rw [← hX]; exact HSY1.out.alloc HSY1.out.size _
        have HXY2 : Hid (Below Y1.heap.size Y1 Y2) := by rw [← hX]; exact (Below.refl _ _).alloc (Nat.le_refl _) _
        have BXY2 : Hid (Boxed Y2 Y1.heap.size 47 (.int .u32 0)) := by rw [← hX]; exact Boxed.new _ _ _
        clear hX
        refine wpE_br [3] (by kernel_rfl) ?_
        refine AllE.cons rfl rfl (fun K hK => ?_) AllE.nil
        go_simp
        refine (living_any _ N S _ (HV.out.below (bchain HBW.out HSY2.out)) hG HS'.out).mono ?_
        rintro e Y3 ⟨rfl, hb⟩
        refine hK.out _ _ (bchain HSY2.out hb) ?_
        clear hK K
        (try simp only [Act.put, List.setIfInBounds_toArray, List.set_cons_zero, List.set_cons_succ])
        have HSY3 := Lib.hid (bchain HSY2.out hb)
        have HXY3 := Lib.hid hb
        clear hb
        have BXZ := Lib.hid (boxed_below BXY2.out HXY3.out)
        clear BXY2
        refine wpE_rest 5 (by kernel_rfl) ?_
        simp only [List.drop_succ_cons, List.drop_zero]
        have bc := (BXZ).out.cell
        have bf := (BXZ).out.frozen
        go_wp2_with fail
        refine NoPanic.normal ?_
        exact REST _ _ ((HSY3).out.setCell (by simp; omega) _) ((BXZ).out.set _) hge
    · skip
      have hge : W.heap.size ≤ D.heap.size := HSD.out.size
      go_simp
      refine hK.out _ _ (HSD.out.alloc HSD.out.size _) ?_
      clear hK K
      (try simp only [Act.put, List.setIfInBounds_toArray, List.set_cons_zero, List.set_cons_succ])
      generalize hX : World.alloc D _ = Y1
      have HSY1 : Hid (Below W.heap.size W Y1) := by rw [← hX]; exact HSD.out.alloc HSD.out.size _
      have HXY1 : Hid (Below D.heap.size D Y1) := by rw [← hX]; exact (Below.refl _ _).alloc (Nat.le_refl _) _
      have BXY1 : Hid (Boxed Y1 D.heap.size 47 (.int .u32 0)) := by rw [← hX]; exact Boxed.new _ _ _
      clear hX
      refine wpE_br [1] (by kernel_rfl) ?_
      refine AllE.cons rfl rfl (fun K hK => ?_) AllE.nil
      go_simp
      refine (reached_any _ N S 1 _ (HV.out.below (bchain HBW.out HSY1.out)) hG HS'.out H1S.out).mono ?_
      rintro e Y2 ⟨rfl, hb⟩
      refine hK.out _ _ (bchain HSY1.out hb) ?_
      clear hK K
      (try simp only [Act.put, List.setIfInBounds_toArray, List.set_cons_zero, List.set_cons_succ])
      have HSY2 := Lib.hid (bchain HSY1.out hb)
      have HXY2 := Lib.hid hb
      clear hb
      refine wpE_br [3] (by kernel_rfl) ?_
      refine AllE.cons rfl rfl (fun K hK => ?_) AllE.nil
      go_simp
      refine (living_any _ N S _ (HV.out.below (bchain HBW.out HSY2.out)) hG HS'.out).mono ?_
      rintro e Y3 ⟨rfl, hb⟩
      refine hK.out _ _ (bchain HSY2.out hb) ?_
      clear hK K
      (try simp only [Act.put, List.setIfInBounds_toArray, List.set_cons_zero, List.set_cons_succ])
      have HSY3 := Lib.hid (bchain HSY2.out hb)
      have HXY3 := Lib.hid hb
      clear hb
      have BXZ := Lib.hid (boxed_below (boxed_below BXY1.out HXY2.out) HXY3.out)
      clear BXY1
      refine wpE_rest 5 (by kernel_rfl) ?_
      simp only [List.drop_succ_cons, List.drop_zero]
      have bc := (BXZ).out.cell
      have bf := (BXZ).out.frozen
      go_wp2_with fail
      refine NoPanic.normal ?_
      exact REST _ _ ((HSY3).out.setCell (by simp; omega) _) ((BXZ).out.set _) hge
  have HSR : Hid (RdS w (.slice A1 n1 c1) N.steps) := by obtain ⟨_, _, he, h1, _⟩ := HV.out; rw [HS'.out] at he; cases he; exact h1
  intro bx W1 hb1 hbx hge
  refine hK0 _ _ ?_
  clear hK0 K0
  dsimp only
  have hmS := reach_lt hG HS'.out H1S.out
  have HLL := Lib.hid (lt32 hS24 (livingF_lt N S S (Nat.le_refl _)))
  have HFF : Hid (folF N S (reachF N.steps S 1) 20 = folF N S (reachF N.steps S 1) 20) := rfl
  obtain ⟨m, hm⟩ : ∃ m, reachF N.steps S 1 = m := ⟨_, rfl⟩
  rw [hm] at hmS ⊢
  have HRM := Lib.hid hm
  clear HFF hm
  have hm32 := lt32 hS24 hmS
  obtain ⟨L, hL⟩ : ∃ L, livingF N S S = L := ⟨_, rfl⟩
  rw [hL] at hbx HLL ⊢
  have HL := Lib.hid hL
  clear hL
  have HB1 := Lib.hid hb1
  have HX1 := Lib.hid hbx
  clear hb1 hbx
  obtain ⟨p0, p1, p2, hpl⟩ := (HNB.out.below HB1.out).facts
  gi_wp2_with fail
  have HB1W := Lib.hid ((bchain HBW.out HB1.out))
  clear p0 p1 p2 hpl
  generalize hV : W1.alloc (.cells #[.slice none 0 0] 23) = V
  have BO : Boxed V W1.heap.size 23 (.slice none 0 0) := by rw [← hV]; exact Boxed.new _ _ _
  have BX : Boxed V bx 47 (.int .u32 (L : Int)) := by rw [← hV]; exact HX1.out.alloc _
  have b1 : Below w.heap.size w V := by rw [← hV]; exact HB1W.out.alloc HB1W.out.size _
  have hV1 : V.heap.size ≤ W1.heap.size + 1 := by rw [← hV]; simp
  have hV2 : W1.heap.size + 1 ≤ V.heap.size := by rw [← hV]; simp
  clear hV
  refine ⟨trivial, ?_⟩
  refine (callsIn_wide.2 (steps_any _ N m _ _ _ (by rw [HS'.out]) (HSR.out.below b1) (HF.out.below b1))).mono ?_
  rintro e w' ⟨rfl, rfl⟩
  rw [HS'.out]
  gi_wp2_with fail
  generalize hW0 : (V.alloc (.cells #[.int .i64 S, .slice A1 n1 c1, .slice A2 n2 c2] 25)).alloc (.cells #[.int .u32 (m : Int)] 47) = W0
  have hnb : NBlk W0 V.heap.size (.int .i64 N.states) (.slice A1 n1 c1) (.slice A2 n2 c2) := by rw [← hW0, HS'.out]; exact (Below.heap_alloc _ _ _ (by simp)).trans (heap_alloc_new V _)
  have hMB : W0.heap[V.heap.size + 1]? = some (.cells #[.int .u32 (m : Int)] 47 (0, 0)) := by
    rw [← hW0]
    have := heap_alloc_new (V.alloc (.cells #[.int .i64 S, .slice A1 n1 c1, .slice A2 n2 c2] 25)) (.cells #[.int .u32 (m : Int)] 47)
    simpa only [World.size_alloc] using this
  have hVB : Below V.heap.size V W0 := by rw [← hW0]; exact ((Below.refl _ _).alloc (Nat.le_refl _) _).alloc (by simp) _
  have hW0z : V.heap.size + 2 ≤ W0.heap.size := by rw [← hW0]; simp
  have BO0 := boxed_below BO hVB
  have BX0 := boxed_below BX hVB
  have hB0 : Below w.heap.size w W0 := b1.trans (hVB.mono b1.size)
  have hwW1 : w.heap.size ≤ W1.heap.size := HB1W.out.size
  have hwb : w.heap.size ≤ bx := Nat.le_trans HBW.out.size hge
  have hbl := HX1.out.lt
  clear hW0 BO BX b1
  obtain ⟨z0, hz0⟩ : ∃ z0, W0.heap.size = z0 := ⟨_, rfl⟩
  have HZ0 : Hid (∀ pre : List (VStep N), True) := fun _ => trivial
  clear HZ0 hz0 z0
  refine wpIn_rangeFunc_ownH (α := VStep N) rfl (by omega) (gf := 53) (lb := #[.pointer (some ⟨V.heap.size, 0, none⟩), .pointer (some ⟨V.heap.size + 1, 0, none⟩)]) rfl trivial (enters_of Try.func53 (by kernel_rfl) rfl)
    (steps_stops 2 (by omega) V.heap.size (V.heap.size + 1) w.heap.size N m _ _ hm32 hG w W0 (Nat.le_refl _) hB0 (by omega) hnb hMB HSR.out) KB.tr (KB.b (by omega) (by omega)) (Below.refl _ _) (fun _ => rfl)
    (fun pre W => ((∃ v, Boxed W W1.heap.size 23 v ∧ W.ownsRow W0.heap.size 3 1 v (outF L (pre.map Subtype.val)).length ((outF L (pre.map Subtype.val)).map (Value.int .i64)) ∧ True) ∧ Boxed W bx 47 (.int .u32 (L : Int))) ∧ (Below w.heap.size w W ∧ W0.heap.size ≤ W.heap.size))
    (fun _ _ _ => False)
    (OwnFrom.and (OwnFrom.and (Own.from (holdsRow_own W0.heap.size W1.heap.size 23 3 1 (fun pre : List (VStep N) => (outF L (pre.map Subtype.val)).length) (fun pre => (outF L (pre.map Subtype.val)).map (Value.int .i64)) (fun _ _ => True)) _) (Own.from (boxed_own _ _ _) _)) (OwnFrom.and (ownFrom_below (Nat.le_refl _) (by omega)) (size_own _ _)))
    (fun _ _ _ _ _ hs _ _ => hs)
    ⟨⟨⟨_, BO0, World.ownsRow_nil _ _ _ _, trivial⟩, BX0⟩, hB0, Nat.le_refl _⟩
    (fun x a' W => ∃ Bx, W0.heap.size ≤ Bx ∧ SBlk W Bx x.1 ∧ a' = { tmps := #[.agg #[.int .i64 S, .slice A1 n1 c1, .slice A2 n2 c2], .pointer (some ⟨w.heap.size, 0, none⟩), .slice none 0 0, .int .u32 (m : Int), .pointer (some ⟨bx, 0, none⟩), .pointer (some ⟨W1.heap.size, 0, none⟩), .pointer (some ⟨Bx, 0, none⟩), .agg #[.int .i64 S, .slice A1 n1 c1, .slice A2 n2 c2], .int .u32 (m : Int), .agg #[.int .i64 S, .slice A1 n1 c1, .slice A2 n2 c2], .int .u32 (L : Int), .agg #[.int .i64 S, .slice A1 n1 c1, .slice A2 n2 c2], .int .u32 (m : Int), .func (.func 53) #[] #[.pointer (some ⟨V.heap.size, 0, none⟩), .pointer (some ⟨V.heap.size + 1, 0, none⟩)], Value.agg #[.int .i64 x.1.fr, .int .i64 x.1.cls, .int .i64 x.1.tgt], undef, undef, undef, undef, undef, undef, undef, undef, undef, undef, undef, undef, undef, undef, undef, undef, undef, undef, undef], defers := [] })
    (fun x a' _ X Y row hs hg hr => by obtain ⟨Bx, h1, h2, h3⟩ := hs; exact ⟨Bx, h1, sblk_own Bx x () X Y row h2 hg (fun r e => (hr r e).2), h3⟩)
    ?assign ?body ?done ?stop
  case assign =>
    rintro l pre x Wx K2 ⟨⟨⟨v, bO, hrow, _⟩, bX⟩, hB1, hWW⟩ hK
    have HK2 := Lib.hid hK
    clear hK
    rw [zip_one]
    dsimp only
    simp only [List.setIfInBounds_toArray, List.set_cons_zero, List.set_cons_succ]
    gi_wp2
    exact HK2.out _ _ ((KeepsOthers.alloc _ _).from _) ((KB.refl _ _ Wx).alloc hB1.size _) ⟨⟨⟨v, bO.alloc _, World.ownsRow.alloc hrow _, trivial⟩, bX.alloc _⟩, hB1.alloc hB1.size _, by simp; omega⟩ ⟨Wx.heap.size, hWW, heap_alloc_new Wx _, rfl⟩
  case body =>
    rintro l pre x a' Wx hl ⟨r, hr⟩ ⟨⟨⟨v, bO, hrow, _⟩, bX⟩, hB1, hWW⟩ ⟨Bx, hBx, bS, rfl⟩ hlt
    dsimp only
    have hok := hG.step x.1 x.2
    obtain ⟨x0, x1, x2, hxl⟩ := bS.facts
    have cO := bO.cell
    have fO := bO.frozen
    have cX := bX.cell
    obtain ⟨q, hq⟩ : ∃ q : Nat, x.1.tgt = (q : Int) := ⟨x.1.tgt.toNat, by have := hok.t0; omega⟩
    have hq24 : q < 32 := by have := hok.t1; have := HS'.out; omega
    obtain ⟨M, hM⟩ : ∃ M, outF L (pre.map Subtype.val) = M := ⟨_, rfl⟩
    have hMl : M.length ≤ 1000000 := by have := outF_len L (pre.map Subtype.val); rw [hM] at this; simp only [List.length_map] at this; have := hG.len; omega
    have HM : Hid (outF L ((pre ++ [x]).map Subtype.val) = outC L M x.1) := by rw [Hid, List.map_append, List.map_singleton, outF_snoc, hM]
    rw [hM] at hrow
    have HO := Lib.hid bO
    have HX := Lib.hid bX
    have HBB := Lib.hid hB1
    have HR : Hid (OwnI Wx W0.heap.size v M) := hrow
    have HQ := Lib.hid hq
    clear hM bO bX hB1 hrow hok hl hr hlt
    rw [hq] at x2
    clear hq
    gi_wp2_with fail
    refine ⟨trivial, ?_⟩
    refine (CallsIn.inRound l (callsIn_wide.2 (has_any L q _ HLL.out hq24))).mono ?_
    rintro e w' ⟨rfl, rfl⟩
    dsimp only
    cases hb : L.testBit q
    · have HE : Hid (outF L ((pre ++ [x]).map Subtype.val) = M) := by rw [Hid, HM.out, outC, HQ.out]; simp [hb]
      clear hb
      gi_wp2_with fail
      refine ⟨trivial, ?_⟩
      gi_wp2_with fail
      exact ⟨KeepsFrom.refl _ _, KB.refl _ _ _, ⟨⟨v, HO.out, by rw [HE.out]; exact HR.out, trivial⟩, HX.out⟩, HBB.out, hWW⟩
    · have HE : Hid (outF L ((pre ++ [x]).map Subtype.val) = if decide (x.1.cls ∈ M) then M else M ++ [x.1.cls]) := by rw [Hid, HM.out, outC, HQ.out]; simp only [Int.toNat_natCast, hb, Bool.true_and]; cases decide (x.1.cls ∈ M) <;> rfl
      clear hb
      gi_wp2_with fail
      refine ⟨trivial, ?_⟩
      refine (CallsIn.inRound l (callsIn_wide.2 (hasI_any v M x.1.cls _ HR.out.rd))).mono ?_
      rintro e w2 ⟨rfl, hb2⟩
      dsimp only
      have HB2 := Lib.hid hb2
      have hO2 := boxed_below HO.out hb2
      have HX2 := Lib.hid (boxed_below HX.out hb2)
      have HBB2 : Hid (Below w.heap.size w w2) := bchain HBB.out hb2
      have HR2 : Hid (OwnI w2 W0.heap.size v M) := own_below HR.out hb2
      have hWW2 : W0.heap.size ≤ w2.heap.size := Nat.le_trans hWW hb2.size
      have hS2 : SBlk w2 Bx x.1 := (hb2.block _ hxl).trans bS
      clear cO fO cX x0 x1 x2 bS hb2
      obtain ⟨x0, x1, x2, hxl2⟩ := hS2.facts
      have cO := hO2.cell
      have fO := hO2.frozen
      have HO2 := Lib.hid hO2
      clear hO2 hS2
      cases hc : decide (x.1.cls ∈ M)
      · have HE2 : Hid (outF L ((pre ++ [x]).map Subtype.val) = M ++ [x.1.cls]) := by rw [Hid, HE.out, hc]; rfl
        clear hc
        obtain ⟨len, hlen⟩ : ∃ len, M.length = len := ⟨_, rfl⟩
        have HLEN := Lib.hid hlen
        rw [hlen] at hMl
        clear hlen
        gi_wp2_with (gi_at_builtin; refine wpListIn_app_int rfl (.tmp 26) (.tmp 29) rfl W0.heap.size v M rfl HR2.out x.1.cls len HLEN hMl hWW2 rfl ?_; intro g' cap' w5 ho hge5 hg5; have HP := Lib.hid (boxed_app (n₀ := w.heap.size) (Bm := V.heap.size + 1) HO2.out HR2.out (by omega) hWW2 (by omega) (by omega) (by omega) ho hg5); have hc5 := HP.out.1.cell; have hf5 := HP.out.1.frozen)
        obtain ⟨_, k2, k3, k4, k5, k6⟩ := HP.out
        have hbw := KB.tr ((KB.refl _ _ _).call HBB.out.size HB2.out) k5
        exact ⟨(keeps_below _ HB2.out).trans (k4.from _), hbw, ⟨⟨_, k2, by rw [HE2.out]; have := k3.1; simpa [OwnI] using k3, trivial⟩, (k6 bx (by omega) (by omega)).trans HX2.out⟩, HBB.out.trans hbw.1, Nat.le_trans hWW hbw.1.size⟩
      · have HE2 : Hid (outF L ((pre ++ [x]).map Subtype.val) = M) := by rw [Hid, HE.out, hc]; rfl
        clear hc
        gi_wp2_with fail
        exact ⟨keeps_below _ HB2.out, (KB.refl _ _ _).call HBB.out.size HB2.out, ⟨⟨v, HO2.out, by rw [HE2.out]; exact HR2.out, trivial⟩, HX2.out⟩, HBB2.out, hWW2⟩
  case done =>
    rintro D ys Wx hD hys ⟨⟨⟨v, bO, hrow, _⟩, bX⟩, hB1, hWW⟩ hK
    rw [hys] at hrow
    have cO := bO.cell
    have HR : Hid (OwnI Wx W0.heap.size v (outF L (fromL N.steps m))) := hrow
    have HO := Lib.hid bO
    have HK := Lib.hid hK
    have HBB := Lib.hid hB1
    clear bO bX hB1 hK hrow hys
    have hFl : (outF L (fromL N.steps m)).length ≤ 1000000 := by
      have h1 := outF_len L (fromL N.steps m)
      have h2 : (fromL N.steps m).length ≤ N.steps.length := by unfold fromL; exact List.length_filter_le _ _
      have := hG.len
      omega
    gi_wp2_with fail
    refine ⟨trivial, ?_⟩
    refine (callsIn_wide.2 (sort_own v _ W0.heap.size Wx HR.out hFl)).mono ?_
    rintro e w2 ⟨rfl, ho2, hg2⟩
    dsimp only
    have hvne : v.ownBlock ≠ some W1.heap.size := fun h => by have := (World.ownsRow.lt HR.out _ h).1; omega
    have hO2 : Boxed w2 W1.heap.size 23 v := (hg2.block _ HO.out.lt (Ne.symm hvne)).trans HO.out
    have hB2 : Below w.heap.size w w2 := HBB.out.grown hg2 HBB.out.size (fun j hj => by have := (World.ownsRow.lt HR.out j hj).1; omega)
    have hK2 : w2.heap[D]? = some (.deferred (some [])) := by
      refine (hg2.block D (Array.getElem?_eq_some_iff.1 HK.out).1 (fun e => ?_)).trans HK.out
      obtain ⟨cs, hcs⟩ := row_type HR.out e.symm
      rw [HK.out] at hcs
      cases hcs
    have cO2 := hO2.cell
    have HB2 := Lib.hid hB2
    have HK2 := Lib.hid hK2
    have HO2 := Lib.hid ho2
    have HCL : Hid ((outF L (fromL N.steps m)).mergeSort (fun x y => decide (x ≤ y)) = folF N S (reachF N.steps S 1) 20) := by
      rw [Hid, HRM.out, ← HL.out]
      exact classes_eq hG m
    clear cO hO2 hB2 hK2 hg2 ho2
    gi_wp2
    refine ⟨by simp, .inl ⟨_, _, rfl, run_takeDeferred HK2.out, ?_⟩⟩
    refine ⟨_, results_tmp rfl _ _ _, ⟨v, rfl, ?_⟩, HB2.out.trans (belowK_b (w := w) (Nat.le_refl _) w2 D _ _ (by omega) HK2.out rfl rfl)⟩
    rw [← HCL.out]
    exact own_base (ownsRow_putObj HO2.out _ HK2.out rfl) (by omega)
  case stop =>
    rintro D c pre W _ _ h _
    exact h.elim
end Go.Proofs.Ytcmfgblfgldonaa
