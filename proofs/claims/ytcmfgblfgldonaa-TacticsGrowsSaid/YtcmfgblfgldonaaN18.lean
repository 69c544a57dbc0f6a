/-
  Words of tactics.
-/
import Derived.Test.YtcmfgblfgldonaaN17
import Derived.Laws.EntriesVeiled
namespace Go.Proofs.Ytcmfgblfgldonaa
open Go.ChangeShapes Go.WideShapes Go.ChangeAt Go.RowKit Go.Shelf
def wordsF (N : PNet) (S : Nat) (len : Int) : List (List Int) := if len < 0 ∨ 4 < len then [] else wF N (finalF N.final) (livingF N S S) len.toNat [] 1
theorem cW_le : ∀ k, k ≤ 4 → cW k ≤ 1000000 := by decide
set_option maxHeartbeats 8000000 in
set_option maxRecDepth 100000 in
theorem words_any (v : Value) (N : PNet) (S : Nat) (len : Int) (w : World) (hv : RdN w v N) (hG : GoodN N) (hS : N.states = (S : Int)) :
    Calls Try.prog 22 #[v, .int .i64 len] w fun e w' => (∃ vl, e = .returned vl ∧ OwnL w' w.heap.size vl (wordsF N S len)) ∧ Below w.heap.size w w' := by
  have HV := Lib.hid hv
  obtain ⟨vs, vf, rfl, hs, hf⟩ := hv
  have HF := Lib.hid hf
  obtain ⟨A1, n1, c1, rfl, _, _, _, _⟩ := hs.op
  obtain ⟨A2, n2, c2, rfl, _, _, _, _⟩ := hf.op
  have hS24 : S ≤ 24 := by have := hG.s2; omega
  have HS' := Lib.hid hS
  have HFI : Hid (∀ q, q ∈ N.final → 0 ≤ q ∧ q < (S : Int)) := fun q hq => by have := hG.fin q hq; omega
  have HO1 : Hid (∀ q, q ∈ [(((0 : Nat) : Int))] → 0 ≤ q ∧ q < (S : Int)) := by intro q hq; simp at hq; have := hG.s1; omega
  have H1S : Hid ((1 : Nat) < 2 ^ S) := by have := hG.s1; exact Nat.one_lt_two_pow (by omega)
  rw [hS] at HV ⊢
  clear hs hf hS
  go_enter Try.func22, Try.ntmps22
  by_cases h0 : len < 0
  · have HW : Hid (wordsF N S len = []) := by rw [Hid, wordsF, if_pos (.inl h0)]
    have hd : decide (len < 0) = true := by simpa using h0
    go_wp2_with fail
    go_ret
    refine ⟨⟨_, rfl, by rw [HW.out]; exact OwnL.nil _ _⟩, ?_⟩
    repeat (first | assumption | exact Below.refl _ _ | refine Below.alloc ?_ (by first | omega | (simp; done) | (simp; omega)) _ | refine Below.drew ?_ | refine below_drewN ?_ _ | refine Below.setCell ?_ (by first | omega | (simp; done) | (simp; omega)) _)
  have hd : decide (len < 0) = false := by simpa using h0
  by_cases h4 : 4 < len
  · have HW : Hid (wordsF N S len = []) := by rw [Hid, wordsF, if_pos (.inr h4)]
    have hd4 : decide (4 < len) = true := by simpa using h4
    go_wp2_with fail
    go_ret
    refine ⟨⟨_, rfl, by rw [HW.out]; exact OwnL.nil _ _⟩, ?_⟩
    repeat (first | assumption | exact Below.refl _ _ | refine Below.alloc ?_ (by first | omega | (simp; done) | (simp; omega)) _ | refine Below.drew ?_ | refine below_drewN ?_ _ | refine Below.setCell ?_ (by first | omega | (simp; done) | (simp; omega)) _)
  have hd4 : decide (4 < len) = false := by simpa using h4
  obtain ⟨k, hk⟩ : ∃ k : Nat, len = (k : Int) := ⟨len.toNat, by omega⟩
  subst hk
  have HK4 : Hid (k ≤ 4) := by rw [Hid]; omega
  have HW : Hid (wordsF N S (k : Int) = wF N (finalF N.final) (livingF N S S) k [] 1) := by rw [Hid, wordsF, if_neg (by omega)]; rfl
  go_wp2_with fail
  clear h0 h4 hd hd4
  generalize hW : ((w.alloc (.cells #[.int .i64 S, .slice A1 n1 c1, .slice A2 n2 c2] 25)).alloc (.cells #[.int .i64 (k : Int)] 3)).alloc (.cells #[.slice none 0 0] 34) = W
  have HBW : Hid (Below w.heap.size w W) := by rw [← hW]; repeat (first | assumption | exact Below.refl _ _ | refine Below.alloc ?_ (by first | omega | (simp; done) | (simp; omega)) _ | refine Below.drew ?_ | refine below_drewN ?_ _ | refine Below.setCell ?_ (by first | omega | (simp; done) | (simp; omega)) _)
  have HNB : Hid (NBlk W w.heap.size (.int .i64 S) (.slice A1 n1 c1) (.slice A2 n2 c2)) := by rw [← hW]; exact (Below.heap_alloc _ _ _ (by simp; omega)).trans ((Below.heap_alloc _ _ _ (by simp)).trans (heap_alloc_new w _))
  have HLB : Hid (Boxed W (w.heap.size + 1) 3 (.int .i64 (k : Int))) := by
    rw [Hid, ← hW]
    have := Boxed.new (w.alloc (.cells #[.int .i64 S, .slice A1 n1 c1, .slice A2 n2 c2] 25)) 3 (.int .i64 (k : Int))
    simp only [World.size_alloc] at this
    exact this.alloc _
  have HOB : Hid (Boxed W (w.heap.size + 1 + 1) 34 (.slice none 0 0)) := by
    rw [Hid, ← hW]
    have := Boxed.new ((w.alloc (.cells #[.int .i64 S, .slice A1 n1 c1, .slice A2 n2 c2] 25)).alloc (.cells #[.int .i64 (k : Int)] 3)) 34 (.slice none 0 0)
    simpa only [World.size_alloc] using this
  clear hW
  rename_i K0 hK0
  suffices REST : ∀ (be ba : Nat) (W1 : World), Below W.heap.size W W1 → Boxed W1 be 47 (.int .u32 ((finalF N.final : Nat) : Int)) → Boxed W1 ba 47 (.int .u32 ((livingF N S S : Nat) : Int)) → K0 { tmps := #[.agg #[.int .i64 S, .slice A1 n1 c1, .slice A2 n2 c2], .int .i64 (k : Int), .pointer (some ⟨w.heap.size, 0, none⟩), .pointer (some ⟨w.heap.size + 1, 0, none⟩), .slice none 0 0, .pointer (some ⟨w.heap.size + 1 + 1, 0, none⟩), .pointer (some ⟨be, 0, none⟩), .pointer (some ⟨ba, 0, none⟩), undef, .int .i64 (k : Int), .bool false, .bool false, .int .i64 (k : Int), .bool false, .bool false, undef, .agg #[.int .i64 S, .slice A1 n1 c1, .slice A2 n2 c2], .int .u32 ((finalF N.final : Nat) : Int), .agg #[.int .i64 S, .slice A1 n1 c1, .slice A2 n2 c2], .int .u32 ((livingF N S S : Nat) : Int), undef, undef, undef, undef], defers := [] } W1 by
    refine wp_region_steps 8 6 [0, 1, 2, 3, 4, 5] [] (fun w' => Below W.heap.size W w') (by kernel_rfl) (by kernel_rfl) ?_
    rintro D hD
    have HSD : Hid (Below W.heap.size W D) := by rw [hD]; exact (Below.refl _ _).drew
    clear hD
    have HS : Hid (∀ w' : World, Below W.heap.size W w' → w'.cell? ⟨w.heap.size, 0, none⟩ = some (.int .i64 S) ∧ w'.cell? ⟨w.heap.size, 1, none⟩ = some (.slice A1 n1 c1) ∧ w'.cell? ⟨w.heap.size, 2, none⟩ = some (.slice A2 n2 c2)) := by
      intro w' h
      obtain ⟨f0, f1, f2, _⟩ := (HNB.out.below h).facts
      exact ⟨f0, f1, f2⟩
    (refine wpE_take 0 (v := ?_) (by kernel_rfl) rfl rfl (by exact HSD.out) (fun w' hS => ?_) ?_; rotate_left; (focus ((try obtain ⟨s0, s1, s2⟩ := HS.out _ (hS rfl)); clear hS; go_simp; try with_reducible rfl; done)); (try simp only [Act.put, List.setIfInBounds_toArray, List.set_cons_zero, List.set_cons_succ]))
    (refine wpE_take 2 (v := ?_) (by kernel_rfl) rfl rfl (by exact HSD.out) (fun w' hS => ?_) ?_; rotate_left; (focus ((try obtain ⟨s0, s1, s2⟩ := HS.out _ (hS rfl)); clear hS; go_simp; try with_reducible rfl; done)); (try simp only [Act.put, List.setIfInBounds_toArray, List.set_cons_zero, List.set_cons_succ]))
    refine wpE_br [1, 4, 5] (by kernel_rfl) ?_
    refine AllE.cons rfl rfl (fun K hK => ?_) (AllE.cons rfl rfl (fun K hK => ?_) (AllE.cons rfl rfl (fun K hK => ?_) AllE.nil))
    · skip
      go_simp
      refine (final_any _ N S _ (HV.out.below (bchain HBW.out HSD.out)) hG HS'.out).mono ?_
      rintro e Y1 ⟨rfl, hb⟩
      refine hK.out _ _ (bchain HSD.out hb) ?_
      clear hK K
      (try simp only [Act.put, List.setIfInBounds_toArray, List.set_cons_zero, List.set_cons_succ])
      have HSY1 := Lib.hid (bchain HSD.out hb)
      have HXY1 := Lib.hid hb
      clear hb
      refine wpE_br [3, 4, 5] (by kernel_rfl) ?_
      refine AllE.cons rfl rfl (fun K hK => ?_) (AllE.cons rfl rfl (fun K hK => ?_) (AllE.cons rfl rfl (fun K hK => ?_) AllE.nil))
      · skip
        go_simp
        refine (living_any _ N S _ (HV.out.below (bchain HBW.out HSY1.out)) hG HS'.out).mono ?_
        rintro e Y2 ⟨rfl, hb⟩
        refine hK.out _ _ (bchain HSY1.out hb) ?_
        clear hK K
        (try simp only [Act.put, List.setIfInBounds_toArray, List.set_cons_zero, List.set_cons_succ])
        have HSY2 := Lib.hid (bchain HSY1.out hb)
        have HXY2 := Lib.hid hb
        clear hb
        refine wpE_br [4, 5] (by kernel_rfl) ?_
        refine AllE.cons rfl rfl (fun K hK => ?_) (AllE.cons rfl rfl (fun K hK => ?_) AllE.nil)
        · skip
          go_simp
          refine hK.out _ _ (HSY2.out.alloc HSY2.out.size _) ?_
          clear hK K
          (try simp only [Act.put, List.setIfInBounds_toArray, List.set_cons_zero, List.set_cons_succ])
          generalize hX : World.alloc Y2 _ = Y3
          have HSY3 : Hid (Below W.heap.size W Y3) := by rw [← hX]; exact HSY2.out.alloc HSY2.out.size _
          have HXY3 : Hid (Below Y2.heap.size Y2 Y3) := by rw [← hX]; exact (Below.refl _ _).alloc (Nat.le_refl _) _
          have BXY3 : Hid (Boxed Y3 Y2.heap.size 47 (.int .u32 0)) := by rw [← hX]; exact Boxed.new _ _ _
          clear hX
          refine wpE_br [5] (by kernel_rfl) ?_
          refine AllE.cons rfl rfl (fun K hK => ?_) AllE.nil
          go_simp
          refine hK.out _ _ (HSY3.out.alloc HSY3.out.size _) ?_
          clear hK K
          (try simp only [Act.put, List.setIfInBounds_toArray, List.set_cons_zero, List.set_cons_succ])
          generalize hX : World.alloc Y3 _ = Y4
          have HSY4 : Hid (Below W.heap.size W Y4) := by rw [← hX]; exact HSY3.out.alloc HSY3.out.size _
          have HXY4 : Hid (Below Y3.heap.size Y3 Y4) := by rw [← hX]; exact (Below.refl _ _).alloc (Nat.le_refl _) _
          have BXY4 : Hid (Boxed Y4 Y3.heap.size 47 (.int .u32 0)) := by rw [← hX]; exact Boxed.new _ _ _
          clear hX
          have sY1 := HXY1.out.size
          have sY2 := HXY2.out.size
          have sY3 := HXY3.out.size
          have sY4 := HXY4.out.size
          have b4 := BXY3.out.lt
          have b5 := BXY4.out.lt
          have sD := HSD.out.size
          have B4 := Lib.hid (boxed_below BXY3.out HXY4.out)
          have B5 := Lib.hid BXY4.out
          refine wpE_rest 6 (by kernel_rfl) ?_
          simp only [List.drop_succ_cons, List.drop_zero]
          have bc4 := B4.out.cell
          have bf4 := B4.out.frozen
          have bc5 := B5.out.cell
          have bf5 := B5.out.frozen
          go_wp2_with fail
          refine NoPanic.normal ?_
          exact REST _ _ _ ((HSY4.out.setCell (by simp; omega) _).setCell (by simp; omega) _) ((B4.out.set _).other (by omega) _) ((B5.out.other (by omega) _).set _)
        · skip
          go_simp
          refine hK.out _ _ (HSY2.out.alloc HSY2.out.size _) ?_
          clear hK K
          (try simp only [Act.put, List.setIfInBounds_toArray, List.set_cons_zero, List.set_cons_succ])
          generalize hX : World.alloc Y2 _ = Y3
          have HSY3 : Hid (Below W.heap.size W Y3) := by rw [← hX]; exact HSY2.out.alloc HSY2.out.size _
          have HXY3 : Hid (Below Y2.heap.size Y2 Y3) := by rw [← hX]; exact (Below.refl _ _).alloc (Nat.le_refl _) _
          have BXY3 : Hid (Boxed Y3 Y2.heap.size 47 (.int .u32 0)) := by rw [← hX]; exact Boxed.new _ _ _
          clear hX
          refine wpE_br [4] (by kernel_rfl) ?_
          refine AllE.cons rfl rfl (fun K hK => ?_) AllE.nil
          go_simp
          refine hK.out _ _ (HSY3.out.alloc HSY3.out.size _) ?_
          clear hK K
          (try simp only [Act.put, List.setIfInBounds_toArray, List.set_cons_zero, List.set_cons_succ])
          generalize hX : World.alloc Y3 _ = Y4
          have HSY4 : Hid (Below W.heap.size W Y4) := by rw [← hX]; exact HSY3.out.alloc HSY3.out.size _
          have HXY4 : Hid (Below Y3.heap.size Y3 Y4) := by rw [← hX]; exact (Below.refl _ _).alloc (Nat.le_refl _) _
          have BXY4 : Hid (Boxed Y4 Y3.heap.size 47 (.int .u32 0)) := by rw [← hX]; exact Boxed.new _ _ _
          clear hX
          have sY1 := HXY1.out.size
          have sY2 := HXY2.out.size
          have sY3 := HXY3.out.size
          have sY4 := HXY4.out.size
          have b4 := BXY4.out.lt
          have b5 := BXY3.out.lt
          have sD := HSD.out.size
          have B4 := Lib.hid BXY4.out
          have B5 := Lib.hid (boxed_below BXY3.out HXY4.out)
          refine wpE_rest 6 (by kernel_rfl) ?_
          simp only [List.drop_succ_cons, List.drop_zero]
          have bc4 := B4.out.cell
          have bf4 := B4.out.frozen
          have bc5 := B5.out.cell
          have bf5 := B5.out.frozen
          go_wp2_with fail
          refine NoPanic.normal ?_
          exact REST _ _ _ ((HSY4.out.setCell (by simp; omega) _).setCell (by simp; omega) _) ((B4.out.set _).other (by omega) _) ((B5.out.other (by omega) _).set _)
      · skip
        go_simp
        refine hK.out _ _ (HSY1.out.alloc HSY1.out.size _) ?_
        clear hK K
        (try simp only [Act.put, List.setIfInBounds_toArray, List.set_cons_zero, List.set_cons_succ])
        generalize hX : World.alloc Y1 _ = Y2
        have HSY2 : Hid (Below W.heap.size W Y2) := by rw [← hX]; exact HSY1.out.alloc HSY1.out.size _
        have HXY2 : Hid (Below Y1.heap.size Y1 Y2) := by rw [← hX]; exact (Below.refl _ _).alloc (Nat.le_refl _) _
        have BXY2 : Hid (Boxed Y2 Y1.heap.size 47 (.int .u32 0)) := by rw [← hX]; exact Boxed.new _ _ _
        clear hX
        refine wpE_br [3, 5] (by kernel_rfl) ?_
        refine AllE.cons rfl rfl (fun K hK => ?_) (AllE.cons rfl rfl (fun K hK => ?_) AllE.nil)
        · skip
          go_simp
          refine (living_any _ N S _ (HV.out.below (bchain HBW.out HSY2.out)) hG HS'.out).mono ?_
          rintro e Y3 ⟨rfl, hb⟩
          refine hK.out _ _ (bchain HSY2.out hb) ?_
          clear hK K
          (try simp only [Act.put, List.setIfInBounds_toArray, List.set_cons_zero, List.set_cons_succ])
          have HSY3 := Lib.hid (bchain HSY2.out hb)
          have HXY3 := Lib.hid hb
          clear hb
          refine wpE_br [5] (by kernel_rfl) ?_
          refine AllE.cons rfl rfl (fun K hK => ?_) AllE.nil
          go_simp
          refine hK.out _ _ (HSY3.out.alloc HSY3.out.size _) ?_
          clear hK K
          (try simp only [Act.put, List.setIfInBounds_toArray, List.set_cons_zero, List.set_cons_succ])
          generalize hX : World.alloc Y3 _ = Y4
          have HSY4 : Hid (Below W.heap.size W Y4) := by rw [← hX]; exact HSY3.out.alloc HSY3.out.size _
          have HXY4 : Hid (Below Y3.heap.size Y3 Y4) := by rw [← hX]; exact (Below.refl _ _).alloc (Nat.le_refl _) _
          have BXY4 : Hid (Boxed Y4 Y3.heap.size 47 (.int .u32 0)) := by rw [← hX]; exact Boxed.new _ _ _
          clear hX
          have sY1 := HXY1.out.size
          have sY2 := HXY2.out.size
          have sY3 := HXY3.out.size
          have sY4 := HXY4.out.size
          have b4 := BXY2.out.lt
          have b5 := BXY4.out.lt
          have sD := HSD.out.size
          have B4 := Lib.hid (boxed_below (boxed_below BXY2.out HXY3.out) HXY4.out)
          have B5 := Lib.hid BXY4.out
          refine wpE_rest 6 (by kernel_rfl) ?_
          simp only [List.drop_succ_cons, List.drop_zero]
          have bc4 := B4.out.cell
          have bf4 := B4.out.frozen
          have bc5 := B5.out.cell
          have bf5 := B5.out.frozen
          go_wp2_with fail
          refine NoPanic.normal ?_
          exact REST _ _ _ ((HSY4.out.setCell (by simp; omega) _).setCell (by simp; omega) _) ((B4.out.set _).other (by omega) _) ((B5.out.other (by omega) _).set _)
        · skip
          go_simp
          refine hK.out _ _ (HSY2.out.alloc HSY2.out.size _) ?_
          clear hK K
          (try simp only [Act.put, List.setIfInBounds_toArray, List.set_cons_zero, List.set_cons_succ])
          generalize hX : World.alloc Y2 _ = Y3
          have HSY3 : Hid (Below W.heap.size W Y3) := by rw [← hX]; exact HSY2.out.alloc HSY2.out.size _
          have HXY3 : Hid (Below Y2.heap.size Y2 Y3) := by rw [← hX]; exact (Below.refl _ _).alloc (Nat.le_refl _) _
          have BXY3 : Hid (Boxed Y3 Y2.heap.size 47 (.int .u32 0)) := by rw [← hX]; exact Boxed.new _ _ _
          clear hX
          refine wpE_br [3] (by kernel_rfl) ?_
          refine AllE.cons rfl rfl (fun K hK => ?_) AllE.nil
          go_simp
          refine (living_any _ N S _ (HV.out.below (bchain HBW.out HSY3.out)) hG HS'.out).mono ?_
          rintro e Y4 ⟨rfl, hb⟩
          refine hK.out _ _ (bchain HSY3.out hb) ?_
          clear hK K
          (try simp only [Act.put, List.setIfInBounds_toArray, List.set_cons_zero, List.set_cons_succ])
          have HSY4 := Lib.hid (bchain HSY3.out hb)
          have HXY4 := Lib.hid hb
          clear hb
          have sY1 := HXY1.out.size
          have sY2 := HXY2.out.size
          have sY3 := HXY3.out.size
          have sY4 := HXY4.out.size
          have b4 := BXY2.out.lt
          have b5 := BXY3.out.lt
          have sD := HSD.out.size
          have B4 := Lib.hid (boxed_below (boxed_below BXY2.out HXY3.out) HXY4.out)
          have B5 := Lib.hid (boxed_below BXY3.out HXY4.out)
          refine wpE_rest 6 (by kernel_rfl) ?_
          simp only [List.drop_succ_cons, List.drop_zero]
          have bc4 := B4.out.cell
          have bf4 := B4.out.frozen
          have bc5 := B5.out.cell
          have bf5 := B5.out.frozen
          go_wp2_with fail
          refine NoPanic.normal ?_
          exact REST _ _ _ ((HSY4.out.setCell (by simp; omega) _).setCell (by simp; omega) _) ((B4.out.set _).other (by omega) _) ((B5.out.other (by omega) _).set _)
      · skip
        go_simp
        refine hK.out _ _ (HSY1.out.alloc HSY1.out.size _) ?_
        clear hK K
        (try simp only [Act.put, List.setIfInBounds_toArray, List.set_cons_zero, List.set_cons_succ])
        generalize hX : World.alloc Y1 _ = Y2
        have HSY2 : Hid (Below W.heap.size W Y2) := by rw [← hX]; exact HSY1.out.alloc HSY1.out.size _
        have HXY2 : Hid (Below Y1.heap.size Y1 Y2) := by rw [← hX]; exact (Below.refl _ _).alloc (Nat.le_refl _) _
        have BXY2 : Hid (Boxed Y2 Y1.heap.size 47 (.int .u32 0)) := by rw [← hX]; exact Boxed.new _ _ _
        clear hX
        refine wpE_br [3, 4] (by kernel_rfl) ?_
        refine AllE.cons rfl rfl (fun K hK => ?_) (AllE.cons rfl rfl (fun K hK => ?_) AllE.nil)
        · skip
          go_simp
          refine (living_any _ N S _ (HV.out.below (bchain HBW.out HSY2.out)) hG HS'.out).mono ?_
          rintro e Y3 ⟨rfl, hb⟩
          refine hK.out _ _ (bchain HSY2.out hb) ?_
          clear hK K
          (try simp only [Act.put, List.setIfInBounds_toArray, List.set_cons_zero, List.set_cons_succ])
          have HSY3 := Lib.hid (bchain HSY2.out hb)
          have HXY3 := Lib.hid hb
          clear hb
          refine wpE_br [4] (by kernel_rfl) ?_
          refine AllE.cons rfl rfl (fun K hK => ?_) AllE.nil
          go_simp
          refine hK.out _ _ (HSY3.out.alloc HSY3.out.size _) ?_
          clear hK K
          (try simp only [Act.put, List.setIfInBounds_toArray, List.set_cons_zero, List.set_cons_succ])
          generalize hX : World.alloc Y3 _ = Y4
          have HSY4 : Hid (Below W.heap.size W Y4) := by rw [← hX]; exact HSY3.out.alloc HSY3.out.size _
          have HXY4 : Hid (Below Y3.heap.size Y3 Y4) := by rw [← hX]; exact (Below.refl _ _).alloc (Nat.le_refl _) _
          have BXY4 : Hid (Boxed Y4 Y3.heap.size 47 (.int .u32 0)) := by rw [← hX]; exact Boxed.new _ _ _
          clear hX
          have sY1 := HXY1.out.size
          have sY2 := HXY2.out.size
          have sY3 := HXY3.out.size
          have sY4 := HXY4.out.size
          have b4 := BXY4.out.lt
          have b5 := BXY2.out.lt
          have sD := HSD.out.size
          have B4 := Lib.hid BXY4.out
          have B5 := Lib.hid (boxed_below (boxed_below BXY2.out HXY3.out) HXY4.out)
          refine wpE_rest 6 (by kernel_rfl) ?_
          simp only [List.drop_succ_cons, List.drop_zero]
          have bc4 := B4.out.cell
          have bf4 := B4.out.frozen
          have bc5 := B5.out.cell
          have bf5 := B5.out.frozen
          go_wp2_with fail
          refine NoPanic.normal ?_
          exact REST _ _ _ ((HSY4.out.setCell (by simp; omega) _).setCell (by simp; omega) _) ((B4.out.set _).other (by omega) _) ((B5.out.other (by omega) _).set _)
        · skip
          go_simp
          refine hK.out _ _ (HSY2.out.alloc HSY2.out.size _) ?_
          clear hK K
          (try simp only [Act.put, List.setIfInBounds_toArray, List.set_cons_zero, List.set_cons_succ])
          generalize hX : World.alloc Y2 _ = Y3
          have HSY3 : Hid (Below W.heap.size W Y3) := by rw [← hX]; exact HSY2.out.alloc HSY2.out.size _
          have HXY3 : Hid (Below Y2.heap.size Y2 Y3) := by rw [← hX]; exact (Below.refl _ _).alloc (Nat.le_refl _) _
          have BXY3 : Hid (Boxed Y3 Y2.heap.size 47 (.int .u32 0)) := by rw [← hX]; exact Boxed.new _ _ _
          clear hX
          refine wpE_br [3] (by kernel_rfl) ?_
          refine AllE.cons rfl rfl (fun K hK => ?_) AllE.nil
          go_simp
          refine (living_any _ N S _ (HV.out.below (bchain HBW.out HSY3.out)) hG HS'.out).mono ?_
          rintro e Y4 ⟨rfl, hb⟩
          refine hK.out _ _ (bchain HSY3.out hb) ?_
          clear hK K
          (try simp only [Act.put, List.setIfInBounds_toArray, List.set_cons_zero, List.set_cons_succ])
          have HSY4 := Lib.hid (bchain HSY3.out hb)
          have HXY4 := Lib.hid hb
          clear hb
          have sY1 := HXY1.out.size
          have sY2 := HXY2.out.size
          have sY3 := HXY3.out.size
          have sY4 := HXY4.out.size
          have b4 := BXY3.out.lt
          have b5 := BXY2.out.lt
          have sD := HSD.out.size
          have B4 := Lib.hid (boxed_below BXY3.out HXY4.out)
          have B5 := Lib.hid (boxed_below (boxed_below BXY2.out HXY3.out) HXY4.out)
          refine wpE_rest 6 (by kernel_rfl) ?_
          simp only [List.drop_succ_cons, List.drop_zero]
          have bc4 := B4.out.cell
          have bf4 := B4.out.frozen
          have bc5 := B5.out.cell
          have bf5 := B5.out.frozen
          go_wp2_with fail
          refine NoPanic.normal ?_
          exact REST _ _ _ ((HSY4.out.setCell (by simp; omega) _).setCell (by simp; omega) _) ((B4.out.set _).other (by omega) _) ((B5.out.other (by omega) _).set _)
    · skip
      go_simp
      refine hK.out _ _ (HSD.out.alloc HSD.out.size _) ?_
      clear hK K
      (try simp only [Act.put, List.setIfInBounds_toArray, List.set_cons_zero, List.set_cons_succ])
      generalize hX : World.alloc D _ = Y1
      have HSY1 : Hid (Below W.heap.size W Y1) := by rw [← hX]; exact HSD.out.alloc HSD.out.size _
      have HXY1 : Hid (Below D.heap.size D Y1) := by rw [← hX]; exact (Below.refl _ _).alloc (Nat.le_refl _) _
      have BXY1 : Hid (Boxed Y1 D.heap.size 47 (.int .u32 0)) := by rw [← hX]; exact Boxed.new _ _ _
      clear hX
      refine wpE_br [1, 5] (by kernel_rfl) ?_
      refine AllE.cons rfl rfl (fun K hK => ?_) (AllE.cons rfl rfl (fun K hK => ?_) AllE.nil)
      · skip
        go_simp
        refine (final_any _ N S _ (HV.out.below (bchain HBW.out HSY1.out)) hG HS'.out).mono ?_
        rintro e Y2 ⟨rfl, hb⟩
        refine hK.out _ _ (bchain HSY1.out hb) ?_
        clear hK K
        (try simp only [Act.put, List.setIfInBounds_toArray, List.set_cons_zero, List.set_cons_succ])
        have HSY2 := Lib.hid (bchain HSY1.out hb)
        have HXY2 := Lib.hid hb
        clear hb
        refine wpE_br [3, 5] (by kernel_rfl) ?_
        refine AllE.cons rfl rfl (fun K hK => ?_) (AllE.cons rfl rfl (fun K hK => ?_) AllE.nil)
        · skip
          go_simp
          refine (living_any _ N S _ (HV.out.below (bchain HBW.out HSY2.out)) hG HS'.out).mono ?_
          rintro e Y3 ⟨rfl, hb⟩
          refine hK.out _ _ (bchain HSY2.out hb) ?_
          clear hK K
          (try simp only [Act.put, List.setIfInBounds_toArray, List.set_cons_zero, List.set_cons_succ])
          have HSY3 := Lib.hid (bchain HSY2.out hb)
          have HXY3 := Lib.hid hb
          clear hb
          refine wpE_br [5] (by kernel_rfl) ?_
          refine AllE.cons rfl rfl (fun K hK => ?_) AllE.nil
          go_simp
          refine hK.out _ _ (HSY3.out.alloc HSY3.out.size _) ?_
          clear hK K
          (try simp only [Act.put, List.setIfInBounds_toArray, List.set_cons_zero, List.set_cons_succ])
          generalize hX : World.alloc Y3 _ = Y4
          have HSY4 : Hid (Below W.heap.size W Y4) := by rw [← hX]; exact HSY3.out.alloc HSY3.out.size _
          have HXY4 : Hid (Below Y3.heap.size Y3 Y4) := by rw [← hX]; exact (Below.refl _ _).alloc (Nat.le_refl _) _
          have BXY4 : Hid (Boxed Y4 Y3.heap.size 47 (.int .u32 0)) := by rw [← hX]; exact Boxed.new _ _ _
          clear hX
          have sY1 := HXY1.out.size
          have sY2 := HXY2.out.size
          have sY3 := HXY3.out.size
          have sY4 := HXY4.out.size
          have b4 := BXY1.out.lt
          have b5 := BXY4.out.lt
          have sD := HSD.out.size
          have B4 := Lib.hid (boxed_below (boxed_below (boxed_below BXY1.out HXY2.out) HXY3.out) HXY4.out)
          have B5 := Lib.hid BXY4.out
          refine wpE_rest 6 (by kernel_rfl) ?_
          simp only [List.drop_succ_cons, List.drop_zero]
          have bc4 := B4.out.cell
          have bf4 := B4.out.frozen
          have bc5 := B5.out.cell
          have bf5 := B5.out.frozen
          go_wp2_with fail
          refine NoPanic.normal ?_
          exact REST _ _ _ ((HSY4.out.setCell (by simp; omega) _).setCell (by simp; omega) _) ((B4.out.set _).other (by omega) _) ((B5.out.other (by omega) _).set _)
        · skip
          go_simp
          refine hK.out _ _ (HSY2.out.alloc HSY2.out.size _) ?_
          clear hK K
          (try simp only [Act.put, List.setIfInBounds_toArray, List.set_cons_zero, List.set_cons_succ])
          generalize hX : World.alloc Y2 _ = Y3
          have HSY3 : Hid (Below W.heap.size W Y3) := by rw [← hX]; exact HSY2.out.alloc HSY2.out.size _
          have HXY3 : Hid (Below Y2.heap.size Y2 Y3) := by rw [← hX]; exact (Below.refl _ _).alloc (Nat.le_refl _) _
          have BXY3 : Hid (Boxed Y3 Y2.heap.size 47 (.int .u32 0)) := by rw [← hX]; exact Boxed.new _ _ _
          clear hX
          refine wpE_br [3] (by kernel_rfl) ?_
          refine AllE.cons rfl rfl (fun K hK => ?_) AllE.nil
          go_simp
          refine (living_any _ N S _ (HV.out.below (bchain HBW.out HSY3.out)) hG HS'.out).mono ?_
          rintro e Y4 ⟨rfl, hb⟩
          refine hK.out _ _ (bchain HSY3.out hb) ?_
          clear hK K
          (try simp only [Act.put, List.setIfInBounds_toArray, List.set_cons_zero, List.set_cons_succ])
          have HSY4 := Lib.hid (bchain HSY3.out hb)
          have HXY4 := Lib.hid hb
          clear hb
          have sY1 := HXY1.out.size
          have sY2 := HXY2.out.size
          have sY3 := HXY3.out.size
          have sY4 := HXY4.out.size
          have b4 := BXY1.out.lt
          have b5 := BXY3.out.lt
          have sD := HSD.out.size
          have B4 := Lib.hid (boxed_below (boxed_below (boxed_below BXY1.out HXY2.out) HXY3.out) HXY4.out)
          have B5 := Lib.hid (boxed_below BXY3.out HXY4.out)
          refine wpE_rest 6 (by kernel_rfl) ?_
          simp only [List.drop_succ_cons, List.drop_zero]
          have bc4 := B4.out.cell
          have bf4 := B4.out.frozen
          have bc5 := B5.out.cell
          have bf5 := B5.out.frozen
          go_wp2_with fail
          refine NoPanic.normal ?_
          exact REST _ _ _ ((HSY4.out.setCell (by simp; omega) _).setCell (by simp; omega) _) ((B4.out.set _).other (by omega) _) ((B5.out.other (by omega) _).set _)
      · skip
        go_simp
        refine hK.out _ _ (HSY1.out.alloc HSY1.out.size _) ?_
        clear hK K
        (try simp only [Act.put, List.setIfInBounds_toArray, List.set_cons_zero, List.set_cons_succ])
        generalize hX : World.alloc Y1 _ = Y2
        have HSY2 : Hid (Below W.heap.size W Y2) := by rw [← hX]; exact HSY1.out.alloc HSY1.out.size _
        have HXY2 : Hid (Below Y1.heap.size Y1 Y2) := by rw [← hX]; exact (Below.refl _ _).alloc (Nat.le_refl _) _
        have BXY2 : Hid (Boxed Y2 Y1.heap.size 47 (.int .u32 0)) := by rw [← hX]; exact Boxed.new _ _ _
        clear hX
        refine wpE_br [1] (by kernel_rfl) ?_
        refine AllE.cons rfl rfl (fun K hK => ?_) AllE.nil
        go_simp
        refine (final_any _ N S _ (HV.out.below (bchain HBW.out HSY2.out)) hG HS'.out).mono ?_
        rintro e Y3 ⟨rfl, hb⟩
        refine hK.out _ _ (bchain HSY2.out hb) ?_
        clear hK K
        (try simp only [Act.put, List.setIfInBounds_toArray, List.set_cons_zero, List.set_cons_succ])
        have HSY3 := Lib.hid (bchain HSY2.out hb)
        have HXY3 := Lib.hid hb
        clear hb
        refine wpE_br [3] (by kernel_rfl) ?_
        refine AllE.cons rfl rfl (fun K hK => ?_) AllE.nil
        go_simp
        refine (living_any _ N S _ (HV.out.below (bchain HBW.out HSY3.out)) hG HS'.out).mono ?_
        rintro e Y4 ⟨rfl, hb⟩
        refine hK.out _ _ (bchain HSY3.out hb) ?_
        clear hK K
        (try simp only [Act.put, List.setIfInBounds_toArray, List.set_cons_zero, List.set_cons_succ])
        have HSY4 := Lib.hid (bchain HSY3.out hb)
        have HXY4 := Lib.hid hb
        clear hb
        have sY1 := HXY1.out.size
        have sY2 := HXY2.out.size
        have sY3 := HXY3.out.size
        have sY4 := HXY4.out.size
        have b4 := BXY1.out.lt
        have b5 := BXY2.out.lt
        have sD := HSD.out.size
        have B4 := Lib.hid (boxed_below (boxed_below (boxed_below BXY1.out HXY2.out) HXY3.out) HXY4.out)
        have B5 := Lib.hid (boxed_below (boxed_below BXY2.out HXY3.out) HXY4.out)
        refine wpE_rest 6 (by kernel_rfl) ?_
        simp only [List.drop_succ_cons, List.drop_zero]
        have bc4 := B4.out.cell
        have bf4 := B4.out.frozen
        have bc5 := B5.out.cell
        have bf5 := B5.out.frozen
        go_wp2_with fail
        refine NoPanic.normal ?_
        exact REST _ _ _ ((HSY4.out.setCell (by simp; omega) _).setCell (by simp; omega) _) ((B4.out.set _).other (by omega) _) ((B5.out.other (by omega) _).set _)
    · skip
      go_simp
      refine hK.out _ _ (HSD.out.alloc HSD.out.size _) ?_
      clear hK K
      (try simp only [Act.put, List.setIfInBounds_toArray, List.set_cons_zero, List.set_cons_succ])
      generalize hX : World.alloc D _ = Y1
      have HSY1 : Hid (Below W.heap.size W Y1) := by rw [← hX]; exact HSD.out.alloc HSD.out.size _
      have HXY1 : Hid (Below D.heap.size D Y1) := by rw [← hX]; exact (Below.refl _ _).alloc (Nat.le_refl _) _
      have BXY1 : Hid (Boxed Y1 D.heap.size 47 (.int .u32 0)) := by rw [← hX]; exact Boxed.new _ _ _
      clear hX
      refine wpE_br [1, 4] (by kernel_rfl) ?_
      refine AllE.cons rfl rfl (fun K hK => ?_) (AllE.cons rfl rfl (fun K hK => ?_) AllE.nil)
      · skip
        go_simp
        refine (final_any _ N S _ (HV.out.below (bchain HBW.out HSY1.out)) hG HS'.out).mono ?_
        rintro e Y2 ⟨rfl, hb⟩
        refine hK.out _ _ (bchain HSY1.out hb) ?_
        clear hK K
        (try simp only [Act.put, List.setIfInBounds_toArray, List.set_cons_zero, List.set_cons_succ])
        have HSY2 := Lib.hid (bchain HSY1.out hb)
        have HXY2 := Lib.hid hb
        clear hb
        refine wpE_br [3, 4] (by kernel_rfl) ?_
        refine AllE.cons rfl rfl (fun K hK => ?_) (AllE.cons rfl rfl (fun K hK => ?_) AllE.nil)
        · skip
          go_simp
          refine (living_any _ N S _ (HV.out.below (bchain HBW.out HSY2.out)) hG HS'.out).mono ?_
          rintro e Y3 ⟨rfl, hb⟩
          refine hK.out _ _ (bchain HSY2.out hb) ?_
          clear hK K
          (try simp only [Act.put, List.setIfInBounds_toArray, List.set_cons_zero, List.set_cons_succ])
          have HSY3 := Lib.hid (bchain HSY2.out hb)
          have HXY3 := Lib.hid hb
          clear hb
          refine wpE_br [4] (by kernel_rfl) ?_
          refine AllE.cons rfl rfl (fun K hK => ?_) AllE.nil
          go_simp
          refine hK.out _ _ (HSY3.out.alloc HSY3.out.size _) ?_
          clear hK K
          (try simp only [Act.put, List.setIfInBounds_toArray, List.set_cons_zero, List.set_cons_succ])
          generalize hX : World.alloc Y3 _ = Y4
          have HSY4 : Hid (Below W.heap.size W Y4) := by rw [← hX]; exact HSY3.out.alloc HSY3.out.size _
          have HXY4 : Hid (Below Y3.heap.size Y3 Y4) := by rw [← hX]; exact (Below.refl _ _).alloc (Nat.le_refl _) _
          have BXY4 : Hid (Boxed Y4 Y3.heap.size 47 (.int .u32 0)) := by rw [← hX]; exact Boxed.new _ _ _
          clear hX
          have sY1 := HXY1.out.size
          have sY2 := HXY2.out.size
          have sY3 := HXY3.out.size
          have sY4 := HXY4.out.size
          have b4 := BXY4.out.lt
          have b5 := BXY1.out.lt
          have sD := HSD.out.size
          have B4 := Lib.hid BXY4.out
          have B5 := Lib.hid (boxed_below (boxed_below (boxed_below BXY1.out HXY2.out) HXY3.out) HXY4.out)
          refine wpE_rest 6 (by kernel_rfl) ?_
          simp only [List.drop_succ_cons, List.drop_zero]
          have bc4 := B4.out.cell
          have bf4 := B4.out.frozen
          have bc5 := B5.out.cell
          have bf5 := B5.out.frozen
          go_wp2_with fail
          refine NoPanic.normal ?_
          exact REST _ _ _ ((HSY4.out.setCell (by simp; omega) _).setCell (by simp; omega) _) ((B4.out.set _).other (by omega) _) ((B5.out.other (by omega) _).set _)
        · skip
          go_simp
          refine hK.out _ _ (HSY2.out.alloc HSY2.out.size _) ?_
          clear hK K
          (try simp only [Act.put, List.setIfInBounds_toArray, List.set_cons_zero, List.set_cons_succ])
          generalize hX : World.alloc Y2 _ = Y3
          have HSY3 : Hid (Below W.heap.size W Y3) := by rw [← hX]; exact HSY2.out.alloc HSY2.out.size _
          have HXY3 : Hid (Below Y2.heap.size Y2 Y3) := by rw [← hX]; exact (Below.refl _ _).alloc (Nat.le_refl _) _
          have BXY3 : Hid (Boxed Y3 Y2.heap.size 47 (.int .u32 0)) := by rw [← hX]; exact Boxed.new _ _ _
          clear hX
          refine wpE_br [3] (by kernel_rfl) ?_
          refine AllE.cons rfl rfl (fun K hK => ?_) AllE.nil
          go_simp
          refine (living_any _ N S _ (HV.out.below (bchain HBW.out HSY3.out)) hG HS'.out).mono ?_
          rintro e Y4 ⟨rfl, hb⟩
          refine hK.out _ _ (bchain HSY3.out hb) ?_
          clear hK K
          (try simp only [Act.put, List.setIfInBounds_toArray, List.set_cons_zero, List.set_cons_succ])
          have HSY4 := Lib.hid (bchain HSY3.out hb)
          have HXY4 := Lib.hid hb
          clear hb
          have sY1 := HXY1.out.size
          have sY2 := HXY2.out.size
          have sY3 := HXY3.out.size
          have sY4 := HXY4.out.size
          have b4 := BXY3.out.lt
          have b5 := BXY1.out.lt
          have sD := HSD.out.size
          have B4 := Lib.hid (boxed_below BXY3.out HXY4.out)
          have B5 := Lib.hid (boxed_below (boxed_below (boxed_below BXY1.out HXY2.out) HXY3.out) HXY4.out)
          refine wpE_rest 6 (by kernel_rfl) ?_
          simp only [List.drop_succ_cons, List.drop_zero]
          have bc4 := B4.out.cell
          have bf4 := B4.out.frozen
          have bc5 := B5.out.cell
          have bf5 := B5.out.frozen
          go_wp2_with fail
          refine NoPanic.normal ?_
          exact REST _ _ _ ((HSY4.out.setCell (by simp; omega) _).setCell (by simp; omega) _) ((B4.out.set _).other (by omega) _) ((B5.out.other (by omega) _).set _)
      · skip
        go_simp
        refine hK.out _ _ (HSY1.out.alloc HSY1.out.size _) ?_
        clear hK K
        (try simp only [Act.put, List.setIfInBounds_toArray, List.set_cons_zero, List.set_cons_succ])
        generalize hX : World.alloc Y1 _ = Y2
        have HSY2 : Hid (Below W.heap.size W Y2) := by rw [← hX]; exact HSY1.out.alloc HSY1.out.size _
        have HXY2 : Hid (Below Y1.heap.size Y1 Y2) := by rw [← hX]; exact (Below.refl _ _).alloc (Nat.le_refl _) _
        have BXY2 : Hid (Boxed Y2 Y1.heap.size 47 (.int .u32 0)) := by rw [← hX]; exact Boxed.new _ _ _
        clear hX
        refine wpE_br [1] (by kernel_rfl) ?_
        refine AllE.cons rfl rfl (fun K hK => ?_) AllE.nil
        go_simp
        refine (final_any _ N S _ (HV.out.below (bchain HBW.out HSY2.out)) hG HS'.out).mono ?_
        rintro e Y3 ⟨rfl, hb⟩
        refine hK.out _ _ (bchain HSY2.out hb) ?_
        clear hK K
        (try simp only [Act.put, List.setIfInBounds_toArray, List.set_cons_zero, List.set_cons_succ])
        have HSY3 := Lib.hid (bchain HSY2.out hb)
        have HXY3 := Lib.hid hb
        clear hb
        refine wpE_br [3] (by kernel_rfl) ?_
        refine AllE.cons rfl rfl (fun K hK => ?_) AllE.nil
        go_simp
        refine (living_any _ N S _ (HV.out.below (bchain HBW.out HSY3.out)) hG HS'.out).mono ?_
        rintro e Y4 ⟨rfl, hb⟩
        refine hK.out _ _ (bchain HSY3.out hb) ?_
        clear hK K
        (try simp only [Act.put, List.setIfInBounds_toArray, List.set_cons_zero, List.set_cons_succ])
        have HSY4 := Lib.hid (bchain HSY3.out hb)
        have HXY4 := Lib.hid hb
        clear hb
        have sY1 := HXY1.out.size
        have sY2 := HXY2.out.size
        have sY3 := HXY3.out.size
        have sY4 := HXY4.out.size
        have b4 := BXY2.out.lt
        have b5 := BXY1.out.lt
        have sD := HSD.out.size
        have B4 := Lib.hid (boxed_below (boxed_below BXY2.out HXY3.out) HXY4.out)
        have B5 := Lib.hid (boxed_below (boxed_below (boxed_below BXY1.out HXY2.out) HXY3.out) HXY4.out)
        refine wpE_rest 6 (by kernel_rfl) ?_
        simp only [List.drop_succ_cons, List.drop_zero]
        have bc4 := B4.out.cell
        have bf4 := B4.out.frozen
        have bc5 := B5.out.cell
        have bf5 := B5.out.frozen
        go_wp2_with fail
        refine NoPanic.normal ?_
        exact REST _ _ _ ((HSY4.out.setCell (by simp; omega) _).setCell (by simp; omega) _) ((B4.out.set _).other (by omega) _) ((B5.out.other (by omega) _).set _)
  intro be ba W1 hb1 hbe hba
  refine hK0 _ _ ?_
  clear hK0 K0
  try dsimp only
  have HB1 := Lib.hid hb1
  have HE1 := Lib.hid hbe
  have HA1 := Lib.hid hba
  have HLB1 := Lib.hid (boxed_below HLB.out hb1)
  have HOB1 := Lib.hid (boxed_below HOB.out hb1)
  have HNB1 := Lib.hid (HNB.out.below hb1)
  have hbo := HOB1.out.lt
  clear hb1 hbe hba
  go_wp2_with fail
  have hbw : Below w.heap.size w W1 := bchain HBW.out HB1.out
  have hbn : w.heap.size ≤ W1.heap.size := hbw.size
  have HBN := Lib.hid hbw
  clear hbw
  refine ((walk_any w N ba be _ _ _ _ S (finalF N.final) (livingF N S S) k n1 c1 n2 c2 A1 A2 HV.out hG HS'.out (finalG_lt hG HS'.out) (livingF_lt N S S (Nat.le_refl _)) HK4.out (by omega) k) [] 1 (.slice none 0 0) _ (.slice none 0 0) [] (by simp) H1S.out (World.ownsRow_nil _ _ _ _) (HBN.out.alloc hbn _) ⟨HA1.out.alloc _, HE1.out.alloc _, HLB1.out.alloc _, Boxed.new _ _ _, (Below.heap_alloc _ _ _ HNB1.out.lt).trans HNB1.out⟩ (HOB1.out.alloc _) (OwnL.nil _ _) (by have := cW_le k HK4.out; simp; omega)).mono ?_
  rintro e W2 ⟨⟨rfl, v', hb', hl'⟩, g'⟩
  have hc := hb'.cell
  have HLL := Lib.hid hl'
  have HGG : Hid (Below w.heap.size w W2) := (HBN.out.alloc hbn _).trans g'.1
  clear hb' hl' g'
  go_wp2_with fail
  go_ret
  exact ⟨⟨_, rfl, by rw [HW.out]; exact HLL.out⟩, HGG.out⟩
end Go.Proofs.Ytcmfgblfgldonaa
