/-
  The builder of fstops: end, add.
-/
import Derived.Test.YtmeppkkoepmlnaaT8
namespace Go.Proofs.Ytmeppkkoepmlnaa
open Go.ChangeShapes Go.WideShapes Go.ChangeAt Go.RowKit
theorem wpList_app_int {ops : Array Oper} {rest : List Oper} {o : Oper} {a : Act} {Q : Exit → Act → World → Prop} {w : World} (hgd : o.guard = none) (s x : Operand)
    (ho : o.op = .call { callee := .builtin .append, args := #[s, x], argTypes := #[22, 22] })
    (base : Nat) (v : Value) (l : List Int) (hs : a.eval s = v) (hown : OwnI w base v l) (x0 : Int) (m : Nat) (hm : Hid (l.length = m)) (hl : m ≤ 1000000) (hbase : base ≤ w.heap.size)
    (hx : a.eval x = .slice (some ⟨w.heap.size, 0, none⟩) 1 1)
    (h : ∀ g' cap w', OwnI w' base (.slice (some ⟨g', 0, none⟩) (m + 1) cap) (l ++ [x0]) → base ≤ g' → w.grownBy w' v.ownBlock → wpList Try.prog ops Q rest (a.put o.dst (.slice (some ⟨g', 0, none⟩) (m + 1) cap)) w') :
    wpList Try.prog ops Q (o :: rest) a (w.alloc (.cells #[.int .i64 x0] 3)) := by
  obtain rfl := hm.out
  obtain ⟨i0, hi, hz0, hz1, hz2⟩ := info_parts infoI0
  refine wpList_append_own _ hgd s x 22 ho base 3 i0 _ 1 8 Try.underlying22 hi hz0 hz1 hz2 rfl (by decide) v l.length (l.map (Value.int .i64)) hs (World.ownsRow.alloc hown _) ⟨w.heap.size, 0, none⟩ 1 1
    [.int .i64 x0] hx rfl ?_ ?_ (by simp only [maxLen]; omega) (by omega) (by simp; omega) ?_
  · intro j u hu
    match j, hu with
    | 0, hu => simp at hu; subst hu; simp [go_sem, Addr.add]
  · intro u hu
    simp at hu
    subst hu
    rfl
  · intro v' w' h1 h2 _
    obtain ⟨g', cap, rfl, hg1, hg2⟩ := h1.form (by omega)
    refine h g' cap w' ?_ hg1 ?_
    · unfold OwnI
      rw [List.map_append, List.length_append]
      exact h1
    · exact ⟨h2.os, h2.tape, h2.output, Nat.le_trans (by simp) h2.size, fun k hk hne => (h2.block k (by simp; omega) hne).trans (Below.heap_alloc w _ k hk)⟩
theorem Fr.below {base B : Nat} {w0 w w' : World} (h0 : Below w0.heap.size w0 w) (hB : w0.heap.size ≤ base) (h : Fr base B w w') : Below w0.heap.size w0 w' := h0.trans (h.1.mono hB)

set_option maxHeartbeats 1000000 in
theorem end_any (w0 : World) (base B : Nat) (va vf vs : Value) (F : PFst) (k : Int) (l : List Int) (w : World) (h0 : Below w0.heap.size w0 w) (hB0 : w0.heap.size ≤ base) (hs : RdI w0 vs l) (h : Bld 62 w base B va vf F)
    (hl : F.final.length + l.length ≤ 1000000) (hk0 : 0 ≤ k) (hk1 : k ≤ 1000000) (hb : ∀ x, x ∈ l → 0 ≤ x ∧ x ≤ 1000000) :
    Calls Try.prog 54 #[.pointer (some ⟨B, 0, none⟩), .int .i64 k, vs] w fun e w' => e = .returned (.tuple #[]) ∧ (∃ vf', Bld 62 w' base B va vf' ⟨F.states, F.arcs, F.final ++ l.map (· + k)⟩) ∧ Fr base B w w' := by
  obtain ⟨A, n, c, rfl, h1, h2, hn, hr⟩ := hs.op
  clear hs
  have hle := h.le
  have H := Lib.hid h
  have H0 := Lib.hid h0
  have HL := Lib.hid hl
  have HBD := Lib.hid hb
  clear h h0 hl hb
  go_enter Try.func54, Try.ntmps54
  go_wp2
  go_loopw [10] (fun i wr => ∃ j : Nat, j ≤ n ∧ i = .int .i64 j ∧ Hid (∃ vf', Bld 62 wr base B va vf' ⟨F.states, F.arcs, F.final ++ (l.take j).map (· + k)⟩) ∧ Hid (Fr base B w wr)) (fun i _ => n - (intOf i).toNat)
  case atStart => exact ⟨0, Nat.zero_le _, rfl, ⟨vf, by simpa using H.out⟩, Fr.refl _ _ _⟩
  case round =>
    obtain ⟨j, hj, rfl, HR, HF⟩ := hrel
    obtain ⟨vf', hb⟩ := HR.out
    have HB := Lib.hid hb
    clear hb HR
    by_cases hlt : j < n
    · obtain ⟨b, off, x, rfl, hbl, hd, hck⟩ := (hr.out j hlt).below (Fr.below H0.out hB0 HF.out)
      have hx := HBD.out x (List.mem_of_mem_drop (by rw [hd.out]; simp))
      have c2 := HB.out.c2
      have hlt2 := HB.out.lt
      have ht : Hid ((l.take (j + 1)).map (· + k) = (l.take j).map (· + k) ++ [x + k]) := by
        have hx2 : l[j]? = some x := by have := congrArg (fun t => t[0]?) hd.out; simpa using this
        rw [Hid, List.take_add_one, hx2]; simp
      obtain ⟨m, hm⟩ : ∃ m, (F.final ++ (l.take j).map (· + k)).length = m := ⟨_, rfl⟩
      have hlen : m ≤ 1000000 := by have := HL.out; simp at hm; omega
      have HM := Lib.hid hm
      clear hm
      go_wp2_with (at_builtin; refine wpList_app_int rfl (.tmp 19) (.tmp 23) rfl base vf' (F.final ++ (l.take j).map (· + k)) rfl HB.out.oi (x + k) m HM hlen (by omega) rfl ?_; intro g' cap w1 ho hg hgr; obtain ⟨k1, k2⟩ := HB.out.midF hgr; have HO := Lib.hid ho; clear ho)
      go_roundw
      case rel =>
        have hp := HB.out.pushedF hgr HO.out
        have h3 := hp.1
        rw [List.append_assoc, ← ht.out] at h3
        exact ⟨j + 1, by omega, by go_num, ⟨_, h3⟩, HF.out.trans hp.2⟩
      case measure => simp [intOf]; omega
    · go_wp2
      go_end0
      have e1 : l.take j = l := List.take_of_length_le (by rw [hn.out]; omega)
      have h3 := HB.out
      rw [e1] at h3
      exact ⟨rfl, ⟨_, h3⟩, HF.out⟩

theorem at_of_drop {α : Type} {l r : List α} {x : α} {j : Nat} (h : l.drop j = x :: r) : l[j]? = some x := by
  have := congrArg (fun t => t[0]?) h
  simpa using this
theorem take_of_drop {α : Type} {l r : List α} {x : α} {j : Nat} (h : l.drop j = x :: r) : l.take (j + 1) = l.take j ++ [x] := by
  rw [List.take_add_one, at_of_drop h]; rfl
set_option maxHeartbeats 2000000 in
theorem add_any (w0 : World) (base B : Nat) (va vf v : Value) (F G : PFst) (w : World) (h0 : Below w0.heap.size w0 w) (hB0 : w0.heap.size ≤ base) (hs : RdF w0 v G) (h : Bld 62 w base B va vf F)
    (hl : F.arcs.length + G.arcs.length ≤ 1000000) (hk0 : 0 ≤ F.states) (hk1 : F.states ≤ 1000000) (hg0 : 0 ≤ G.states) (hg1 : G.states ≤ 1000000) (hb : ∀ x, x ∈ G.arcs → (0 ≤ x.fr ∧ x.fr ≤ 1000000) ∧ 0 ≤ x.tgt ∧ x.tgt ≤ 1000000) :
    Calls Try.prog 46 #[.pointer (some ⟨B, 0, none⟩), v] w fun e w' => e = .returned (.int .i64 F.states) ∧ (∃ va', Bld 62 w' base B va' vf ⟨F.states + G.states, F.arcs ++ G.arcs.map (shArc F.states), F.final⟩) ∧ Fr base B w w' := by
  obtain ⟨wa, wf, rfl, ha, hf⟩ := hs
  obtain ⟨A, n, c, rfl, h1, h2, hn, hr⟩ := ha.op
  clear ha hf
  have hB := h.lt
  have hle := h.le
  have c0 := h.c0
  have k0 := h.free 0
  have H := Lib.hid h
  have H0 := Lib.hid h0
  have HL := Lib.hid hl
  have HBD := Lib.hid hb
  clear h h0 hl hb
  go_enter Try.func46, Try.ntmps46
  go_wp2
  generalize hw1 : World.alloc w _ = w1
  have b0 : w1.cell? ⟨w.heap.size, 0, none⟩ = some (.int .i64 G.states) := by rw [← hw1]; simp [go_sem]
  have b1 : w1.cell? ⟨w.heap.size, 1, none⟩ = some (.slice A n c) := by rw [← hw1]; simp [go_sem]
  have d0 : w1.cell? ⟨B, 0, none⟩ = some (.int .i64 F.states) := by rw [← hw1]; simp [go_sem, c0, hB]
  have d1 : w1.frozen? ⟨B, 0, none⟩ = false := by rw [← hw1]; simp [go_sem, k0, hB]
  have hG : Hid (Bld 62 w1 base B va vf F) := by rw [← hw1]; exact H.out.alloc _
  have hF1 : Hid (Fr base B w w1) := by rw [← hw1]; exact (Fr.refl _ _ _).alloc (by omega) _
  have hx1 : Hid (w1.heap[w.heap.size]? = some (.cells #[.int .i64 G.states, .slice A n c, wf] 29 (0, 0))) := by rw [← hw1]; exact heap_alloc_new w _
  clear hw1
  go_region
  go_wp2
  generalize hw2 : (World.setCell w1 _ _).drew = w2
  have HB2 : Hid (Bld 62 w2 base B va vf ⟨F.states + G.states, F.arcs, F.final⟩) := by rw [← hw2]; exact (hG.out.setS _).1.drew
  have HF2 : Hid (Fr base B w w2) := by rw [← hw2]; exact (hF1.out.trans (hG.out.setS _).2).drewN 1
  clear hw2 b0 b1 d0 d1 hG hF1 hx1 c0 k0
  go_loopw [27] (fun i wr => ∃ j : Nat, j ≤ n ∧ i = .int .i64 j ∧ Hid (∃ va', Bld 62 wr base B va' vf ⟨F.states + G.states, F.arcs ++ (G.arcs.take j).map (shArc F.states), F.final⟩) ∧ Hid (Fr base B w wr)) (fun i _ => n - (intOf i).toNat)
  case atStart => exact ⟨0, Nat.zero_le _, rfl, ⟨va, by simpa using HB2.out⟩, HF2.out⟩
  case round =>
    obtain ⟨j, hj, rfl, HR, HF⟩ := hrel
    obtain ⟨va', hb⟩ := HR.out
    have HB := Lib.hid hb
    clear hb HR
    by_cases hlt : j < n
    · obtain ⟨b, off, x0, x1, x2, x3, rfl, hbl, hd, e0, e1, e2, e3⟩ := (hr.out j hlt).below (Fr.below H0.out hB0 HF.out)
      have hx := HBD.out _ (List.mem_of_mem_drop (by rw [hd.out]; exact List.mem_cons_self))
      simp only at hx
      obtain ⟨⟨hx0, hx0'⟩, hx3, hx3'⟩ := hx
      have hlt2 := HB.out.lt
      have ht : Hid ((G.arcs.take (j + 1)).map (shArc F.states) = (G.arcs.take j).map (shArc F.states) ++ [⟨x0 + F.states, x1, x2, x3 + F.states⟩]) := by rw [Hid, take_of_drop hd.out]; simp [shArc]
      obtain ⟨m, hm⟩ : ∃ m, (F.arcs ++ (G.arcs.take j).map (shArc F.states)).length = m := ⟨_, rfl⟩
      have hlen : m ≤ 1000000 := by have := HL.out; simp at hm; omega
      have HM := Lib.hid hm
      clear hm
      go_wp2
      generalize hW : World.alloc wr _ = W
      have HW : Hid (Bld 62 W base B va' vf ⟨F.states + G.states, F.arcs ++ (G.arcs.take j).map (shArc F.states), F.final⟩) := by rw [← hW]; exact HB.out.alloc _
      have HWF : Hid (Fr base B w W) := by rw [← hW]; exact HF.out.alloc (by omega) _
      have HX : Hid (ABlk W wr.heap.size x0 x1 x2 x3) := by rw [← hW]; exact heap_alloc_new wr _
      clear hW e0 e1 e2 e3
      generalize wr.heap.size = gx at HX ⊢
      have hgx := (Array.getElem?_eq_some_iff.1 HX.out).1
      have hBW := HW.out.lt
      refine wp_region_ord 20 [1, 2, 3, 4, 5, 6, 7, 8, 9, 10, 11, 12, 13, 14, 15, 16, 17, 18, 19] [0] [0, 1, 2, 3, 4, 5, 6, 7, 8, 9, 10, 11, 12, 13, 14, 15, 16, 17, 18] [19, 20, 21, 22, 23, 24] (fun w' => w'.heap[B]? = W.heap[B]? ∧ w'.heap[gx]? = W.heap[gx]?) (by kernel_rfl) (by kernel_rfl) ?_
      rintro D hD
      refine ⟨by rw [hD]; exact ⟨rfl, rfl⟩, ?_⟩
      have HD : Hid (Bld 62 D base B va' vf ⟨F.states + G.states, F.arcs ++ (G.arcs.take j).map (shArc F.states), F.final⟩) := by rw [hD]; exact HW.out.drew
      have HDF : Hid (Fr base B w D) := by rw [hD]; exact HWF.out.drewN 1
      have HDh : Hid (D.heap = W.heap) := by rw [hD]; rfl
      clear hD
      have HS : Hid (∀ w' : World, (w'.heap[B]? = W.heap[B]? ∧ w'.heap[gx]? = W.heap[gx]?) → w'.cell? ⟨B, 1, none⟩ = some va' ∧ w'.cell? ⟨gx, 0, none⟩ = some (.int .i64 x0) ∧ w'.cell? ⟨gx, 1, none⟩ = some (.int .i64 x1) ∧ w'.cell? ⟨gx, 2, none⟩ = some (.int .i64 x2) ∧ w'.cell? ⟨gx, 3, none⟩ = some (.int .i64 x3)) := by
        rintro w' ⟨s1, s2⟩
        obtain ⟨y0, y1, y2, y3⟩ := HX.out.cells
        exact ⟨(World.cell?_of_block (a := ⟨B, 1, none⟩) s1).trans HW.out.c1, (World.cell?_of_block (a := ⟨gx, 0, none⟩) s2).trans y0, (World.cell?_of_block (a := ⟨gx, 1, none⟩) s2).trans y1, (World.cell?_of_block (a := ⟨gx, 2, none⟩) s2).trans y2, (World.cell?_of_block (a := ⟨gx, 3, none⟩) s2).trans y3⟩
      have r0 : IntKind.i64.wrap (x0 + F.states) = x0 + F.states := IntWalk.i64_in _ (by omega)
      have r3 : IntKind.i64.wrap (x3 + F.states) = x3 + F.states := IntWalk.i64_in _ (by omega)
      iterate 19 (refine wpHead_cons (v := ?_) rfl rfl (fun w' hS => ?_) ?_; rotate_left; (focus ((try obtain ⟨c1, y0, y1, y2, y3⟩ := HS.out _ (hS rfl)); clear hS; go_simp; try with_reducible rfl; done)); (try simp only [Act.put, List.setIfInBounds_toArray, List.set_cons_zero, List.set_cons_succ]))
      clear r0 r3
      refine wpHead_nil ?_
      refine wpTail_cons rfl rfl (fun K hK => ?_)
      go_simp
      refine hK.out _ _ (fun _ => ⟨(Below.heap_alloc _ _ _ (by rw [HDh.out]; exact hBW)).trans (by rw [HDh.out]), (Below.heap_alloc _ _ _ (by rw [HDh.out]; exact hgx)).trans (by rw [HDh.out])⟩) ?_
      clear hK K
      (try simp only [Act.put, List.setIfInBounds_toArray, List.set_cons_zero, List.set_cons_succ])
      refine wpTail_rest 20 rfl ?_
      simp only [List.drop_succ_cons, List.drop_zero]
      have hBD := HD.out.lt
      refine wpList_app_arc rfl (.tmp 36) (.tmp 50) rfl base va' (F.arcs ++ (G.arcs.take j).map (shArc F.states)) rfl HD.out.oa (x0 + F.states) x1 x2 (x3 + F.states) m HM hlen (by omega) rfl ?_
      intro g' cap w3 ho hg hgr
      obtain ⟨k1, k2⟩ := HD.out.mid hgr
      have HO := Lib.hid ho
      clear ho
      (try simp only [Act.put, List.setIfInBounds_toArray, List.set_cons_zero, List.set_cons_succ])
      go_wp2
      refine NoPanic.normal ?_
      go_wp2
      go_roundw
      case rel =>
        have hp := HD.out.pushed hgr HO.out
        have h3 := hp.1
        rw [List.append_assoc, ← ht.out] at h3
        exact ⟨j + 1, by omega, by go_num, ⟨_, h3⟩, HDF.out.trans hp.2⟩
      case measure => simp [intOf]; omega
    · go_wp2
      go_ret
      have e1 : G.arcs.take j = G.arcs := List.take_of_length_le (by rw [hn.out]; omega)
      have h3 := HB.out
      rw [e1] at h3
      exact ⟨rfl, ⟨_, h3⟩, HF.out⟩
end Go.Proofs.Ytmeppkkoepmlnaa
