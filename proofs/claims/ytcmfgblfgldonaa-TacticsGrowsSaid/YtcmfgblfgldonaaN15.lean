/-
  Endless of tactics.
-/
import Derived.Test.YtcmfgblfgldonaaN14
import Derived.Test.YtcmfgblfgldonaaRegR
namespace Go.Proofs.Ytcmfgblfgldonaa
open Go.ChangeShapes Go.WideShapes Go.ChangeAt Go.RowKit Go.Shelf
attribute [local go_sem] Oper.semAt_some
def endB (N : PNet) (S L : Nat) (s : PStep) : Bool := L.testBit s.tgt.toNat && (reachF N.steps S (1 <<< s.tgt.toNat)).testBit s.fr.toNat
def endF (N : PNet) (S : Nat) : Bool := (fromL N.steps (reachF N.steps S 1)).any (endB N S (livingF N S S))
theorem const_own {β : Type} (B : Nat) (p : β → Prop) : OwnFrom B (fun s (_ : World) => p s) := fun _ _ _ _ hs _ _ => hs
theorem nblk_own {β : Type} (B : Nat) (x y z : Value) : Own (fun (_ : β) W => NBlk W B x y z) := fun _ X Y row hs hg hrow =>
  (hg.block B (Array.getElem?_eq_some_iff.1 hs).1 (fun e' => by obtain ⟨o, ho, hc⟩ := hrow B e'.symm; rw [show X.heap[B]? = _ from hs] at ho; cases ho; cases hc)).trans hs
set_option maxHeartbeats 4000000 in
set_option maxRecDepth 100000 in
theorem endless_any (v : Value) (N : PNet) (S : Nat) (w : World) (hv : RdN w v N) (hG : GoodN N) (hS : N.states = (S : Int)) :
    Calls Try.prog 26 #[v] w fun e w' => e = .returned (.bool (endF N S)) ∧ Below w.heap.size w w' := by
  have HV := Lib.hid hv
  obtain ⟨vs, vf, rfl, hs, hf⟩ := hv
  have HF := Lib.hid hf
  obtain ⟨A1, n1, c1, rfl, _, _, _, _⟩ := hs.op
  obtain ⟨A2, n2, c2, rfl, _, _, _, _⟩ := hf.op
  have hS24 : S ≤ 24 := by have := hG.s2; omega
  have HS' := Lib.hid hS
  have HFI : Hid (∀ q, q ∈ N.final → 0 ≤ q ∧ q < (S : Int)) := fun q hq => by have := hG.fin q hq; omega
  have HO1 : Hid (∀ q, q ∈ [(((0 : Nat) : Int))] → 0 ≤ q ∧ q < (S : Int)) := by intro q hq; simp at hq; have := hG.s1; omega
  have H1S : Hid ((1 : Nat) < 2 ^ S) := by have := hG.s1; exact Nat.one_lt_two_pow (by omega)
  rw [hS] at HV ⊢
  clear hs hf hS
  refine (callsIn_wide (n := 3)).1 ?_
  refine callsIn_of_wp_marks Try.func26 rfl trivial ?_ rfl
  simp only [Try.ntmps26, List.size_toArray, List.length_cons, List.length_nil, Nat.reduceAdd, Nat.reduceSub, Array.replicate_succ, Array.replicate_zero, List.push_toArray, List.append_toArray, List.nil_append, List.cons_append]
  gi_wp2_with fail
  generalize hW : World.alloc (World.alloc w _) _ = W
  have HBW : Hid (Below w.heap.size w W) := by rw [← hW]; repeat (first | assumption | exact Below.refl _ _ | refine Below.alloc ?_ (by first | omega | (simp; done) | (simp; omega)) _ | refine Below.drew ?_ | refine below_drewN ?_ _ | refine Below.setCell ?_ (by first | omega | (simp; done) | (simp; omega)) _)
  have HNB : Hid (NBlk W w.heap.size (.int .i64 S) (.slice A1 n1 c1) (.slice A2 n2 c2)) := by rw [← hW]; exact (Below.heap_alloc _ _ _ (by simp)).trans (heap_alloc_new w _)
  have HRB : Hid (Boxed W (w.heap.size + 1) 4 (.bool false)) := by
    rw [Hid, ← hW]
    have := Boxed.new (w.alloc (.cells #[.int .i64 S, .slice A1 n1 c1, .slice A2 n2 c2] 25)) 4 (.bool false)
    simpa only [World.size_alloc] using this
  clear hW
  refine wpIn_wide.2 ?_
  rename_i K0 hK0
  suffices REST : ∀ (bx : Nat) (W1 : World), Below W.heap.size W W1 → Boxed W1 bx 47 (.int .u32 ((livingF N S S : Nat) : Int)) → W.heap.size ≤ bx → K0 { tmps := #[.agg #[.int .i64 S, .slice A1 n1 c1, .slice A2 n2 c2], .pointer (some ⟨w.heap.size, 0, none⟩), .pointer (some ⟨w.heap.size + 1, 0, none⟩), .int .u32 ((reachF N.steps S 1 : Nat) : Int), .pointer (some ⟨bx, 0, none⟩), undef, .agg #[.int .i64 S, .slice A1 n1 c1, .slice A2 n2 c2], .int .u32 ((reachF N.steps S 1 : Nat) : Int), .agg #[.int .i64 S, .slice A1 n1 c1, .slice A2 n2 c2], .int .u32 ((livingF N S S : Nat) : Int), undef, undef, undef, undef, undef, undef, undef, undef, undef, undef, undef, undef, undef, undef, undef, undef, undef, undef], defers := [] } W1 by
    refine wp_region_steps 7 5 [0, 1, 2, 3, 4] [] (fun w' => Below W.heap.size W w') (by kernel_rfl) (by kernel_rfl) ?_
    rintro D hD
    have HSD : Hid (Below W.heap.size W D) := by rw [hD]; exact (Below.refl _ _).drew
    clear hD
    have HS : Hid (∀ w' : World, Below W.heap.size W w' → w'.cell? ⟨w.heap.size, 0, none⟩ = some (.int .i64 S) ∧ w'.cell? ⟨w.heap.size, 1, none⟩ = some (.slice A1 n1 c1) ∧ w'.cell? ⟨w.heap.size, 2, none⟩ = some (.slice A2 n2 c2)) := by
      intro w' h
      obtain ⟨f0, f1, f2, _⟩ := (HNB.out.below h).facts
      exact ⟨f0, f1, f2⟩
    (refine wpE_take 0 (v := ?_) (by kernel_rfl) rfl rfl (by exact HSD.out) (fun w' hS => ?_) ?_; rotate_left; (focus ((try obtain ⟨s0, s1, s2⟩ := HS.out _ (hS rfl)); clear hS; go_simp; try with_reducible rfl; done)); (try simp only [Act.put, List.setIfInBounds_toArray, List.set_cons_zero, List.set_cons_succ]))
    (refine wpE_take 2 (v := ?_) (by kernel_rfl) rfl rfl (by exact HSD.out) (fun w' hS => ?_) ?_; rotate_left; (focus ((try obtain ⟨s0, s1, s2⟩ := HS.out _ (hS rfl)); clear hS; go_simp; try with_reducible rfl; done)); (try simp only [Act.put, List.setIfInBounds_toArray, List.set_cons_zero, List.set_cons_succ]))
    refine wpE_br [1, 4] (by kernel_rfl) ?_
    refine AllE.cons rfl rfl (fun K hK => ?_) (AllE.cons rfl rfl (fun K hK => ?_) AllE.nil)
    · skip
      go_simp
      refine (reached_any _ N S 1 _ (HV.out.below (bchain HBW.out HSD.out)) hG HS'.out H1S.out).mono ?_
      rintro e Y1 ⟨rfl, hb⟩
      refine hK.out _ _ (bchain HSD.out hb) ?_
      clear hK K
      (try simp only [Act.put, List.setIfInBounds_toArray, List.set_cons_zero, List.set_cons_succ])
      have HSY1 := Lib.hid (bchain HSD.out hb)
      have HXY1 := Lib.hid hb
      clear hb
      refine wpE_br [3, 4] (by kernel_rfl) ?_
      refine AllE.cons rfl rfl (fun K hK => ?_) (AllE.cons rfl rfl (fun K hK => ?_) AllE.nil)
      · skip
        go_simp
        refine (living_any _ N S _ (HV.out.below (bchain HBW.out HSY1.out)) hG HS'.out).mono ?_
        rintro e Y2 ⟨rfl, hb⟩
        refine hK.out _ _ (bchain HSY1.out hb) ?_
        clear hK K
        (try simp only [Act.put, List.setIfInBounds_toArray, List.set_cons_zero, List.set_cons_succ])
        have HSY2 := Lib.hid (bchain HSY1.out hb)
        have HXY2 := Lib.hid hb
        clear hb
        refine wpE_br [4] (by kernel_rfl) ?_
        refine AllE.cons rfl rfl (fun K hK => ?_) AllE.nil
        have hge : W.heap.size ≤ Y2.heap.size := HSY2.out.size
        go_simp
        refine hK.out _ _ (HSY2.out.alloc HSY2.out.size _) ?_
        clear hK K
        (try simp only [Act.put, List.setIfInBounds_toArray, List.set_cons_zero, List.set_cons_succ])
        generalize hX : World.alloc Y2 _ = Y3
        have HSY3 : Hid (Below W.heap.size W Y3) := by rw [← hX]; exact HSY2.out.alloc HSY2.out.size _
        have HXY3 : Hid (Below Y2.heap.size Y2 Y3) := by rw [← hX]; exact (Below.refl _ _).alloc (Nat.le_refl _) _
        have BXY3 : Hid (Boxed Y3 Y2.heap.size 47 (.int .u32 0)) := by rw [← hX]; exact Boxed.new _ _ _
        clear hX
        refine wpE_rest 5 (by kernel_rfl) ?_
        simp only [List.drop_succ_cons, List.drop_zero]
        have bc := (BXY3).out.cell
        have bf := (BXY3).out.frozen
        go_wp2_with fail
        refine NoPanic.normal ?_
        exact REST _ _ ((HSY3).out.setCell (by simp; omega) _) ((BXY3).out.set _) hge
      · skip
        have hge : W.heap.size ≤ Y1.heap.size := HSY1.out.size
        go_simp
        refine hK.out _ _ (HSY1.out.alloc HSY1.out.size _) ?_
        clear hK K
        (try simp only [Act.put, List.setIfInBounds_toArray, List.set_cons_zero, List.set_cons_succ])
        generalize hX : World.alloc Y1 _ = Y2
        have HSY2 : Hid (Below W.heap.size W Y2) := by rw [← hX]; exact HSY1.out.alloc HSY1.out.size _
        have HXY2 : Hid (Below Y1.heap.size Y1 Y2) := by rw [← hX]; exact (Below.refl _ _).alloc (Nat.le_refl _) _
        have BXY2 : Hid (Boxed Y2 Y1.heap.size 47 (.int .u32 0)) := by rw [← hX]; exact Boxed.new _ _ _
        clear hX
        refine wpE_br [3] (by kernel_rfl) ?_
        refine AllE.cons rfl rfl (fun K hK => ?_) AllE.nil
        go_simp
        refine (living_any _ N S _ (HV.out.below (bchain HBW.out HSY2.out)) hG HS'.out).mono ?_
        rintro e Y3 ⟨rfl, hb⟩
        refine hK.out _ _ (bchain HSY2.out hb) ?_
        clear hK K
        (try simp only [Act.put, List.setIfInBounds_toArray, List.set_cons_zero, List.set_cons_succ])
        have HSY3 := Lib.hid (bchain HSY2.out hb)
        have HXY3 := Lib.hid hb
        clear hb
        have BXZ := Lib.hid (boxed_below BXY2.out HXY3.out)
        clear BXY2
        refine wpE_rest 5 (by kernel_rfl) ?_
        simp only [List.drop_succ_cons, List.drop_zero]
        have bc := (BXZ).out.cell
        have bf := (BXZ).out.frozen
        go_wp2_with fail
        refine NoPanic.normal ?_
        exact REST _ _ ((HSY3).out.setCell (by simp; omega) _) ((BXZ).out.set _) hge
    · skip
      have hge : W.heap.size ≤ D.heap.size := HSD.out.size
      go_simp
      refine hK.out _ _ (HSD.out.alloc HSD.out.size _) ?_
      clear hK K
      (try simp only [Act.put, List.setIfInBounds_toArray, List.set_cons_zero, List.set_cons_succ])
      generalize hX : World.alloc D _ = Y1
      have HSY1 : Hid (Below W.heap.size W Y1) := by rw [← hX]; exact HSD.out.alloc HSD.out.size _
      have HXY1 : Hid (Below D.heap.size D Y1) := by rw [← hX]; exact (Below.refl _ _).alloc (Nat.le_refl _) _
      have BXY1 : Hid (Boxed Y1 D.heap.size 47 (.int .u32 0)) := by rw [← hX]; exact Boxed.new _ _ _
      clear hX
      refine wpE_br [1] (by kernel_rfl) ?_
      refine AllE.cons rfl rfl (fun K hK => ?_) AllE.nil
      go_simp
      refine (reached_any _ N S 1 _ (HV.out.below (bchain HBW.out HSY1.out)) hG HS'.out H1S.out).mono ?_
      rintro e Y2 ⟨rfl, hb⟩
      refine hK.out _ _ (bchain HSY1.out hb) ?_
      clear hK K
      (try simp only [Act.put, List.setIfInBounds_toArray, List.set_cons_zero, List.set_cons_succ])
      have HSY2 := Lib.hid (bchain HSY1.out hb)
      have HXY2 := Lib.hid hb
      clear hb
      refine wpE_br [3] (by kernel_rfl) ?_
      refine AllE.cons rfl rfl (fun K hK => ?_) AllE.nil
      go_simp
      refine (living_any _ N S _ (HV.out.below (bchain HBW.out HSY2.out)) hG HS'.out).mono ?_
      rintro e Y3 ⟨rfl, hb⟩
      refine hK.out _ _ (bchain HSY2.out hb) ?_
      clear hK K
      (try simp only [Act.put, List.setIfInBounds_toArray, List.set_cons_zero, List.set_cons_succ])
      have HSY3 := Lib.hid (bchain HSY2.out hb)
      have HXY3 := Lib.hid hb
      clear hb
      have BXZ := Lib.hid (boxed_below (boxed_below BXY1.out HXY2.out) HXY3.out)
      clear BXY1
      refine wpE_rest 5 (by kernel_rfl) ?_
      simp only [List.drop_succ_cons, List.drop_zero]
      have bc := (BXZ).out.cell
      have bf := (BXZ).out.frozen
      go_wp2_with fail
      refine NoPanic.normal ?_
      exact REST _ _ ((HSY3).out.setCell (by simp; omega) _) ((BXZ).out.set _) hge
  have HSR : Hid (RdS w (.slice A1 n1 c1) N.steps) := by obtain ⟨_, _, he, h1, _⟩ := HV.out; rw [HS'.out] at he; cases he; exact h1
  intro bx W1 hb1 hbx hge
  refine hK0 _ _ ?_
  clear hK0 K0
  have hmS := reach_lt hG HS'.out H1S.out
  have HLL := Lib.hid (lt32 hS24 (livingF_lt N S S (Nat.le_refl _)))
  have HFF : Hid (folF N S (reachF N.steps S 1) 20 = folF N S (reachF N.steps S 1) 20) := rfl
  obtain ⟨m, hm⟩ : ∃ m, reachF N.steps S 1 = m := ⟨_, rfl⟩
  rw [hm] at hmS ⊢
  have HRM := Lib.hid hm
  clear HFF hm
  have hm32 := lt32 hS24 hmS
  obtain ⟨L, hL⟩ : ∃ L, livingF N S S = L := ⟨_, rfl⟩
  rw [hL] at hbx HLL ⊢
  have HL := Lib.hid hL
  clear hL
  have HB1 := Lib.hid hb1
  have HX1 := Lib.hid hbx
  clear hb1 hbx
  obtain ⟨p0, p1, p2, hpl⟩ := (HNB.out.below HB1.out).facts
  gi_wp2_with fail
  have HB1W := Lib.hid ((bchain HBW.out HB1.out))
  clear p0 p1 p2 hpl
  have HB1W := Lib.hid ((bchain HBW.out HB1.out))
  have hRB1 := boxed_below HRB.out HB1.out
  have hNB1 := HNB.out.below HB1.out
  refine ⟨trivial, ?_⟩
  refine (callsIn_wide.2 (steps_any _ N m _ _ _ (by rw [HS'.out]) (HSR.out.below HB1W.out) (HF.out.below HB1W.out))).mono ?_
  rintro e w' ⟨rfl, rfl⟩
  rw [HS'.out]
  gi_wp2_with fail
  generalize hW0 : (W1.alloc (.cells #[.int .i64 S, .slice A1 n1 c1, .slice A2 n2 c2] 25)).alloc (.cells #[.int .u32 (m : Int)] 47) = W0
  have hnb : NBlk W0 W1.heap.size (.int .i64 N.states) (.slice A1 n1 c1) (.slice A2 n2 c2) := by rw [← hW0, HS'.out]; exact (Below.heap_alloc _ _ _ (by simp)).trans (heap_alloc_new W1 _)
  have hMB : W0.heap[W1.heap.size + 1]? = some (.cells #[.int .u32 (m : Int)] 47 (0, 0)) := by
    rw [← hW0]
    have := heap_alloc_new (W1.alloc (.cells #[.int .i64 S, .slice A1 n1 c1, .slice A2 n2 c2] 25)) (.cells #[.int .u32 (m : Int)] 47)
    simpa only [World.size_alloc] using this
  have hVB : Below W1.heap.size W1 W0 := by rw [← hW0]; exact ((Below.refl _ _).alloc (Nat.le_refl _) _).alloc (by simp) _
  have hW0z : W1.heap.size + 2 ≤ W0.heap.size := by rw [← hW0]; simp
  have BX0 := boxed_below HX1.out hVB
  have BR0 := boxed_below hRB1 hVB
  have NB0 := hNB1.below hVB
  have hB0 : Below w.heap.size w W0 := HB1W.out.trans (hVB.mono HB1W.out.size)
  have hwW : w.heap.size + 1 < W.heap.size := HRB.out.lt
  have hWW1 : W.heap.size ≤ W1.heap.size := HB1.out.size
  have hbl := HX1.out.lt
  clear hW0 hRB1 hNB1
  refine wpIn_rangeFunc_ownH (α := VStep N) rfl (by omega) (gf := 53) (lb := #[.pointer (some ⟨W1.heap.size, 0, none⟩), .pointer (some ⟨W1.heap.size + 1, 0, none⟩)]) rfl trivial (enters_of Try.func53 (by kernel_rfl) rfl)
    (steps_stops 2 (by omega) W1.heap.size (W1.heap.size + 1) w.heap.size N m _ _ hm32 hG w W0 (Nat.le_refl _) hB0 (by omega) hnb hMB HSR.out) KB.tr (KB.b (by omega) (by omega)) (Below.refl _ _) (fun _ => rfl)
    (fun pre W => (((Boxed W (w.heap.size + 1) 4 (.bool false) ∧ Boxed W bx 47 (.int .u32 (L : Int))) ∧ NBlk W w.heap.size (.int .i64 S) (.slice A1 n1 c1) (.slice A2 n2 c2)) ∧ Below w.heap.size w W ∧ W0.heap.size ≤ W.heap.size) ∧ (pre.map Subtype.val).any (endB N S L) = false)
    (fun c pre W => (Boxed W (w.heap.size + 1) 4 (.bool true) ∧ Below w.heap.size w W) ∧ (c = .ret ∧ (pre.map Subtype.val).any (endB N S L) = true))
    (OwnFrom.and (OwnFrom.and (OwnFrom.and (OwnFrom.and (Own.from (boxed_own _ _ _) _) (Own.from (boxed_own _ _ _) _)) (Own.from (nblk_own _ _ _ _) _)) (OwnFrom.and (ownFrom_below (Nat.le_refl _) (by omega)) (size_own _ _))) (const_own _ _))
    (fun c => OwnFrom.and (OwnFrom.and (Own.from (boxed_own _ _ _) _) (ownFrom_below (Nat.le_refl _) (by omega))) (const_own _ (fun pre : List (VStep N) => c = .ret ∧ (pre.map Subtype.val).any (endB N S L) = true)))
    ⟨⟨⟨⟨BR0, BX0⟩, NB0⟩, hB0, Nat.le_refl _⟩, rfl⟩
    (fun x a' W => ∃ Bx, W0.heap.size ≤ Bx ∧ SBlk W Bx x.1 ∧ a' = { tmps := #[.agg #[.int .i64 S, .slice A1 n1 c1, .slice A2 n2 c2], .pointer (some ⟨w.heap.size, 0, none⟩), .pointer (some ⟨w.heap.size + 1, 0, none⟩), .int .u32 (m : Int), .pointer (some ⟨bx, 0, none⟩), .pointer (some ⟨Bx, 0, none⟩), .agg #[.int .i64 S, .slice A1 n1 c1, .slice A2 n2 c2], .int .u32 (m : Int), .agg #[.int .i64 S, .slice A1 n1 c1, .slice A2 n2 c2], .int .u32 (L : Int), .agg #[.int .i64 S, .slice A1 n1 c1, .slice A2 n2 c2], .int .u32 (m : Int), .func (.func 53) #[] #[.pointer (some ⟨W1.heap.size, 0, none⟩), .pointer (some ⟨W1.heap.size + 1, 0, none⟩)], Value.agg #[.int .i64 x.1.fr, .int .i64 x.1.cls, .int .i64 x.1.tgt], undef, undef, undef, undef, undef, undef, undef, undef, undef, undef, undef, undef, undef, undef], defers := [] })
    (fun x a' _ X Y row hs hg hr => by obtain ⟨Bx, h1, h2, h3⟩ := hs; exact ⟨Bx, h1, sblk_own Bx x () X Y row h2 hg (fun r e => (hr r e).2), h3⟩)
    ?assign ?body ?done ?stop
  case assign =>
    rintro l pre x Wx K2 ⟨⟨⟨⟨bR, bX⟩, nB⟩, hB1, hWW⟩, hany⟩ hK
    have HK2 := Lib.hid hK
    clear hK
    rw [zip_one]
    try dsimp only
    simp only [List.setIfInBounds_toArray, List.set_cons_zero, List.set_cons_succ]
    gi_wp2
    exact HK2.out _ _ ((KeepsOthers.alloc _ _).from _) ((KB.refl _ _ Wx).alloc hB1.size _) ⟨⟨⟨⟨bR.alloc _, bX.alloc _⟩, (Below.heap_alloc _ _ _ nB.lt).trans nB⟩, hB1.alloc hB1.size _, by simp; omega⟩, hany⟩ ⟨Wx.heap.size, hWW, heap_alloc_new Wx _, rfl⟩
  case body =>
    rintro l pre x a' Wx hl ⟨r, hr⟩ ⟨⟨⟨⟨bR, bX⟩, nB⟩, hB1, hWW⟩, hany⟩ ⟨Bx, hBx, bS, rfl⟩ hlt
    try dsimp only
    have hok := hG.step x.1 x.2
    obtain ⟨q, hq⟩ : ∃ q : Nat, x.1.tgt = (q : Int) := ⟨x.1.tgt.toNat, by have := hok.t0; omega⟩
    obtain ⟨f, hf⟩ : ∃ f : Nat, x.1.fr = (f : Int) := ⟨x.1.fr.toNat, by have := hok.f0; omega⟩
    have hqS : q < S := by have := hok.t1; have := HS'.out; omega
    have hfS : f < S := by have := hok.f1; have := HS'.out; omega
    have HM : Hid (((pre ++ [x]).map Subtype.val).any (endB N S L) = (L.testBit q && (reachF N.steps S (1 <<< q)).testBit f)) := by
      rw [Hid, List.map_append, List.any_append, hany]
      simp [endB, hq, hf]
    have HR := Lib.hid bR
    have HX := Lib.hid bX
    have HN := Lib.hid nB
    have HBB := Lib.hid hB1
    have HSB := Lib.hid bS
    have hbx2 : bx < Wx.heap.size := bX.lt
    have HS : Hid (∀ w' : World, Below Wx.heap.size Wx w' → (w'.cell? ⟨w.heap.size, 0, none⟩ = some (.int .i64 S) ∧ w'.cell? ⟨w.heap.size, 1, none⟩ = some (.slice A1 n1 c1) ∧ w'.cell? ⟨w.heap.size, 2, none⟩ = some (.slice A2 n2 c2)) ∧ w'.cell? ⟨bx, 0, none⟩ = some (.int .u32 (L : Int)) ∧ w'.cell? ⟨Bx, 2, none⟩ = some (.int .i64 (q : Int)) ∧ w'.cell? ⟨Bx, 0, none⟩ = some (.int .i64 (f : Int))) := by
      intro w' h
      obtain ⟨f0, f1, f2, _⟩ := (HN.out.below h).facts
      obtain ⟨x0, x1, x2, _⟩ := (show SBlk w' Bx x.1 from (h.block _ (Array.getElem?_eq_some_iff.1 HSB.out).1).trans HSB.out).facts
      exact ⟨⟨f0, f1, f2⟩, (boxed_below HX.out h).cell, by rw [x2, hq], by rw [x0, hf]⟩
    have hq24 : q < 32 := by omega
    have hf24 : f < 32 := by omega
    have hqq : 1 <<< q < 2 ^ S := by rw [Nat.one_shiftLeft]; exact Nat.pow_lt_pow_right (by decide) hqS
    have HRL := Lib.hid (lt32 hS24 (reach_lt hG HS'.out hqq))
    have HQQ := Lib.hid hqq
    clear bR bX nB hB1 bS hok hl hr hlt hq hf hany hqq
    gi_wp2_with fail
    refine wpIn_region_mix 12 [0, 1, 2, 3, 4, 5, 6, 7, 8, 9, 10, 11] [] [(true, 0), (true, 1), (true, 2), (false, 3), (true, 4), (true, 5), (true, 6), (true, 7), (true, 10), (true, 11), (false, 8), (false, 9), (false, 12), (false, 13)] (fun w' => Below Wx.heap.size Wx w') (by kernel_rfl) (by kernel_rfl) (by kernel_rfl) (by rintro ⟨a, w, h⟩; exact h) ?_
    rintro D hD
    have HSD : Hid (Below Wx.heap.size Wx D) := by rw [hD]; exact (Below.refl _ _).drew
    clear hD
    refine ⟨HSD.out, ?_⟩
    iterate 3 (refine wpMix_q (v := ?_) rfl rfl (fun w' hS => ?_) ?_; rotate_left; (focus ((try obtain ⟨⟨s0, s1, s2⟩, sx, sq, sf⟩ := HS.out _ (hS rfl)); clear hS; go_simp; try with_reducible rfl; done)); (try simp only [Act.put, List.setIfInBounds_toArray, List.set_cons_zero, List.set_cons_succ]))
    refine wpMix_e rfl rfl (fun K hK => ?_)
    go_simp
    refine (has_any L q _ HLL.out hq24).mono ?_
    rintro e wz ⟨rfl, rfl⟩
    refine hK.out _ _ (fun _ => HSD.out) ?_
    clear hK K
    (try simp only [Act.put, List.setIfInBounds_toArray, List.set_cons_zero, List.set_cons_succ])
    cases hb : L.testBit q
    · have HE : Hid (((pre ++ [x]).map Subtype.val).any (endB N S L) = false) := by rw [Hid, HM.out, hb]; rfl
      clear hb
      (refine wpMix_q (v := ?_) rfl rfl (fun w' hS => ?_) ?_; rotate_left; (focus ((try obtain ⟨⟨s0, s1, s2⟩, sx, sq, sf⟩ := HS.out _ (hS rfl)); clear hS; go_simp; try with_reducible rfl; done)); (try simp only [Act.put, List.setIfInBounds_toArray, List.set_cons_zero, List.set_cons_succ]))
      iterate 5 (refine wpMix_qskip rfl rfl ?_; (try simp only [Act.put, List.setIfInBounds_toArray, List.set_cons_zero, List.set_cons_succ]))
      iterate 3 (refine wpMix_eskip rfl rfl (HSD).out ?_; (try simp only [Act.put, List.setIfInBounds_toArray, List.set_cons_zero, List.set_cons_succ]))
      (refine wpMix_e rfl rfl (fun K hK => ?_); go_simp; refine hK.out _ _ (fun h => absurd h (by decide)) ?_; clear hK K; (try simp only [Act.put, List.setIfInBounds_toArray, List.set_cons_zero, List.set_cons_succ]))
      refine wpMix_nil ?_
      refine NoPanic.normal ?_
      gi_wp2_with fail
      exact ⟨keeps_below _ HSD.out, (KB.refl _ _ _).call HBB.out.size HSD.out, ⟨⟨⟨boxed_below HR.out HSD.out, boxed_below HX.out HSD.out⟩, HN.out.below HSD.out⟩, bchain HBB.out HSD.out, Nat.le_trans hWW HSD.out.size⟩, HE.out⟩
    · have HE : Hid (((pre ++ [x]).map Subtype.val).any (endB N S L) = (reachF N.steps S (1 <<< q)).testBit f) := by rw [Hid, HM.out, hb]; rfl
      clear hb
      iterate 6 (refine wpMix_q (v := ?_) rfl rfl (fun w' hS => ?_) ?_; rotate_left; (focus ((try obtain ⟨⟨s0, s1, s2⟩, sx, sq, sf⟩ := HS.out _ (hS rfl)); clear hS; go_simp; try with_reducible rfl; done)); (try simp only [Act.put, List.setIfInBounds_toArray, List.set_cons_zero, List.set_cons_succ]))
      refine wpMix_e rfl rfl (fun K hK => ?_)
      go_simp
      refine (with_any 0 q _ (by decide) hq24).mono ?_
      rintro e wz ⟨rfl, rfl⟩
      rw [Nat.zero_or]
      refine hK.out _ _ (fun _ => HSD.out) ?_
      clear hK K
      (try simp only [Act.put, List.setIfInBounds_toArray, List.set_cons_zero, List.set_cons_succ])
      refine wpMix_e rfl rfl (fun K hK => ?_)
      go_simp
      refine (reached_any _ N S (1 <<< q) _ (HV.out.below (bchain HBB.out HSD.out)) hG HS'.out HQQ.out).mono ?_
      rintro e Y1 ⟨rfl, hb⟩
      refine hK.out _ _ (fun _ => bchain HSD.out hb) ?_
      clear hK K
      (try simp only [Act.put, List.setIfInBounds_toArray, List.set_cons_zero, List.set_cons_succ])
      have HSY := Lib.hid (bchain HSD.out hb)
      clear hb
      refine wpMix_e rfl rfl (fun K hK => ?_)
      go_simp
      refine (has_any (reachF N.steps S (1 <<< q)) f _ HRL.out hf24).mono ?_
      rintro e wz ⟨rfl, rfl⟩
      refine hK.out _ _ (fun h => absurd h (by decide)) ?_
      clear hK K
      (try simp only [Act.put, List.setIfInBounds_toArray, List.set_cons_zero, List.set_cons_succ])
      rw [← HE.out]
      have hRY := boxed_below HR.out HSY.out
      have cR := hRY.cell
      have fR := hRY.frozen
      have HRY := Lib.hid hRY
      clear hRY
      have HBY : Hid (Below w.heap.size w Y1) := bchain HBB.out HSY.out
      cases hb : ((pre ++ [x]).map Subtype.val).any (endB N S L)
      · have HE2 := Lib.hid hb
        clear hb
        (refine wpMix_e rfl rfl (fun K hK => ?_); go_simp; refine hK.out _ _ (fun h => absurd h (by decide)) ?_; clear hK K; (try simp only [Act.put, List.setIfInBounds_toArray, List.set_cons_zero, List.set_cons_succ]))
        refine wpMix_nil ?_
        refine NoPanic.normal ?_
        gi_wp2_with fail
        exact ⟨keeps_below _ HSY.out, (KB.refl _ _ _).call HBB.out.size HSY.out, ⟨⟨⟨boxed_below HR.out HSY.out, boxed_below HX.out HSY.out⟩, HN.out.below HSY.out⟩, bchain HBB.out HSY.out, Nat.le_trans hWW HSY.out.size⟩, HE2.out⟩
      · have HE2 := Lib.hid hb
        clear hb
        (refine wpMix_e rfl rfl (fun K hK => ?_); go_simp; refine hK.out _ _ (fun h => absurd h (by decide)) ?_; clear hK K; (try simp only [Act.put, List.setIfInBounds_toArray, List.set_cons_zero, List.set_cons_succ]))
        refine wpMix_nil ?_
        refine NoPanic.normal ?_
        gi_wp2_with fail
        exact ⟨(keeps_below _ HSY.out).trans ((KeepsOthers.setCell _ _ _).from _), ⟨HRY.out.set _, HBY.out.setCell (p := ⟨w.heap.size + 1, 0, none⟩) (by simp) _⟩, rfl, HE2.out⟩
  case done =>
    rintro D ys Wx hD hys ⟨⟨⟨⟨bR, bX⟩, nB⟩, hB1, hWW⟩, hany⟩ hK
    rw [hys] at hany
    have cR := bR.cell
    have fR := bR.frozen
    have HR := Lib.hid bR
    have HK := Lib.hid hK
    have HBB := Lib.hid hB1
    have HE : Hid (endF N S = false) := by rw [Hid, endF, HRM.out, HL.out]; exact hany
    clear bR bX nB hB1 hK hany hys
    gi_wp2
    have hK' := (KeepsOthers.setCell Wx ⟨w.heap.size + 1, 0, none⟩ (.bool false)).same D _ HK.out rfl
    refine ⟨by simp, .inl ⟨_, _, rfl, run_takeDeferred hK', ?_⟩⟩
    have hc5 := ((HR.out.set (.bool false)).kept (grownBy_putObj' _ D (.deferred none)) (fun e => by cases e; omega)).cell
    refine ⟨.bool false, ?_, by rw [HE.out], (HBB.out.setCell (p := ⟨w.heap.size + 1, 0, none⟩) (by simp) _).trans (belowK_b (w := w) (Nat.le_refl _) _ D _ _ (by omega) hK' rfl rfl)⟩
    simp [results, Try.results26, go_sem, hc5]
  case stop =>
    rintro D c pre Wx hD hpre ⟨⟨bR, hB1⟩, rfl, hany⟩ hK
    have HR := Lib.hid bR
    have HK := Lib.hid hK
    have HBB := Lib.hid hB1
    have HE : Hid (endF N S = true) := by
      rw [Hid, endF, HRM.out, HL.out]
      obtain ⟨r, hr⟩ := hpre
      rw [← hr, List.any_append, hany]
      rfl
    clear bR hB1 hK hany hpre
    gi_wp2
    refine ⟨by simp, .inl ⟨_, _, rfl, run_takeDeferred HK.out, ?_⟩⟩
    have hc5 := (HR.out.kept (grownBy_putObj' _ D (.deferred none)) (fun e => by cases e; omega)).cell
    refine ⟨.bool true, ?_, by rw [HE.out], HBB.out.trans (belowK_b (w := w) (Nat.le_refl _) Wx D _ _ (by omega) HK.out rfl rfl)⟩
    simp [results, Try.results26, go_sem, hc5]
end Go.Proofs.Ytcmfgblfgldonaa
