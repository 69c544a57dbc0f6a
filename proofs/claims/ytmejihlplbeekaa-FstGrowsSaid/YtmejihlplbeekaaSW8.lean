/-
  FstGrows: the walk.
-/
import Derived.Test.YtmejihlplbeekaaSW1
import Derived.Test.YtmejihlplbeekaaU5
namespace Go.Proofs.Ytmejihlplbeekaa
open Go.ChangeShapes Go.WideShapes Go.ChangeAt Go.RowKit Go.Deep Go.Joins
section
variable {H : Type} {enc : TypeId × Value → H} {w : World} {base : Nat} {spare : Nat → Bool} {held : Bool}
set_option maxRecDepth 100000 in
theorem open_Arc {r : Reach} {b0 : Nat} {v : Value} {d : DataW H} {p : List MemPlace} (hv : Value.okWide Try.prog w r b0 42 v) (h : DataW.Trod enc Try.prog w base spare held 42 v d p) : ∃ a : PArc, v = .agg #[.int .i64 a.fr, .int .i64 a.inp, .int .i64 a.out, .int .i64 a.tgt] := by
  obtain ⟨v0, v1, v2, v3, y0, y1, y2, y3, n, rfl, _, _, t0, t1, t2, t3⟩ := open_agg4 Try.underlying42 (by kernel_rfl) (by kernel_rfl) hv h
  obtain ⟨x0, rfl⟩ := open_int1 t0
  obtain ⟨x1, rfl⟩ := open_int1 t1
  obtain ⟨x2, rfl⟩ := open_int1 t2
  obtain ⟨x3, rfl⟩ := open_int1 t3
  exact ⟨⟨x0, x1, x2, x3⟩, rfl⟩
set_option maxRecDepth 100000 in
theorem open_Q {r : Reach} {b0 : Nat} {v : Value} {d : DataW H} {p : List MemPlace} (hv : Value.okWide Try.prog w r b0 43 v) (h : DataW.Trod enc Try.prog w base spare held 43 v d p) : ∃ (xs ys : List Int) (u0 u1 : Value), v = .agg #[u0, u1] ∧ RdI w u0 xs ∧ RdI w u1 ys := by
  have hc : ∃ cs, v = .agg cs ∧ cs.size = 2 := by
    simp only [Value.okWide, Try.underlying43] at hv
    obtain ⟨cs, h1, h2, _⟩ := hv
    exact ⟨cs, h1, h2.trans (by kernel_rfl)⟩
  obtain ⟨cs, rfl, hsz⟩ := hc
  obtain ⟨c0, c1, rfl⟩ := array2 hsz
  obtain ⟨fuel, hf⟩ := h
  obtain ⟨xs, m, _, _, _, hl, hi⟩ := DataW.trod_array Try.underlying43 hf
  have e1 : Try.prog.cellsOf 23 = 1 := by kernel_rfl
  have h0 := hi 0 (by omega)
  have h1 := hi 1 (by omega)
  rw [e1] at h0 h1
  have h0' : DataW.trod enc Try.prog w base spare held m 23 [c0] = some (xs[0]'(by omega)) := by simpa [Value.cells, hl] using h0
  have h1' : DataW.trod enc Try.prog w base spare held m 23 [c1] = some (xs[1]'(by omega)) := by simpa [Value.cells, hl] using h1
  obtain ⟨x, hx⟩ := open_I h0'
  obtain ⟨y, hy⟩ := open_I h1'
  exact ⟨x, y, c0, c1, rfl, hx, hy⟩
end
def turnF (F : PFst) : PFst := ⟨F.states, F.arcs.reverse, F.final⟩
def growF (a : PArc) (F : PFst) : PFst := ⟨F.states, a :: F.arcs.reverse, F.final⟩
theorem turn_good {F : PFst} (h : Good F) : Good (turnF F) :=
  ⟨h.s1, h.s2, by have := h.len; simpa [turnF] using this, fun a ha => h.arc a (by simpa [turnF] using ha), h.ord, h.fin⟩
theorem turn_acc (F : PFst) (xs ys : List Int) : accB (turnF F) xs ys = accB F xs ys := by
  rw [Bool.eq_iff_iff, accB_iff, accB_iff]
  constructor
  · rintro ⟨hx, hy, t, ht, hp⟩
    exact ⟨hx, hy, t, ht, Path.sub (fun b hb => by simpa [turnF] using hb) hp⟩
  · rintro ⟨hx, hy, t, ht, hp⟩
    exact ⟨hx, hy, t, ht, Path.sub (fun b hb => by simpa [turnF] using hb) hp⟩
theorem grow_acc {a : PArc} {F : PFst} {xs ys : List Int} (h : accB F xs ys = true) : accB (growF a F) xs ys = true := by
  rw [accB_iff] at h ⊢
  obtain ⟨hx, hy, t, ht, hp⟩ := h
  exact ⟨hx, hy, t, ht, Path.sub (fun b hb => by simp [growF, hb]) hp⟩
theorem RdA.tail {w : World} {A : Option Addr} {n c : Nat} {a : PArc} {l : List PArc} (h : RdA w (.slice A (n + 1) c) (a :: l)) : RdA w (.slice (if c = 1 then A else A.map (·.add 4)) n (c - 1)) l := by
  obtain ⟨A', c', he, h1, h2, h3, h4⟩ := h
  cases he
  simp only [List.length_cons] at h1
  refine ⟨_, c - 1, rfl, by omega, by omega, arcsCells_length l, fun hn => ?_⟩
  obtain ⟨b, off, rfl, hb, hc⟩ := h4 (by simp)
  rw [if_neg (by omega)]
  refine ⟨b, off + 4, by simp [add_none], hb, fun j u hu => ?_⟩
  have := hc (4 + j) u (by rw [← hu]; show (arcCells a ++ arcsCells l)[4 + j]? = _; rw [List.getElem?_append_right (by simp [arcCells])]; simp [arcCells])
  rwa [show off + 4 + j = off + (4 + j) by omega]
theorem slice_one (A : Option Addr) (n c : Nat) (W : World) : (Instr.slice 22 (.slice A (n + 1) c) (some (.int .i64 1)) none none).run Try.prog W = .ok (.slice (if c = 1 then A else A.map (·.add 4)) n (c - 1)) W := by
  obtain ⟨i0, hi, hz0, hz1, hz2⟩ := info_parts infoA0
  have he : Try.prog.elem 22 = 42 := by kernel_rfl
  have hs : (Go.sizeOf (Try.prog.elem 22)).run Try.prog W = .ok 4 W := by rw [he]; simp [Go.sizeOf, typeInfo, hi, hz1]
  rw [run_slice_l W _ _ _ _ (by kernel_rfl) .i64 1 (by omega) (by omega), hs]
  simp [Result.andThen, sliced]
theorem slice_at_one (A : Option Addr) (n c : Nat) (W : World) : (Instr.sliceAt 22 (.slice A (n + 1) c) (some (.int .i64 1)) none none).run Try.prog W = .ok (.slice (if c = 1 then A else A.map (·.add 4)) n (c - 1)) W := by
  rw [run_sliceAt_slice W _ _ _ _ _ (by kernel_rfl), slice_one]
def QBlk (w : World) (R : Nat) (x y : Value) : Prop := w.heap[R]? = some (.cells #[x, y] 43 (0, 0))
theorem QBlk.below {w w' : World} {R : Nat} {x y : Value} (h : QBlk w R x y) (hb : Below w.heap.size w w') : QBlk w' R x y := (hb.block R (Array.getElem?_eq_some_iff.1 h).1).trans h
theorem QBlk.facts {w : World} {R : Nat} {x y : Value} (h : QBlk w R x y) : w.cell? ⟨R, 0, none⟩ = some x ∧ w.cell? ⟨R, 1, none⟩ = some y ∧ R < w.heap.size := by
  refine ⟨?_, ?_, (Array.getElem?_eq_some_iff.1 h).1⟩ <;> rw [cell_of_row w R _ _ _ (0, 0) h] <;> rfl
theorem ablk_below {w w' : World} {R : Nat} {x0 x1 x2 x3 : Int} (h : ABlk w R x0 x1 x2 x3) (hb : Below w.heap.size w w') : ABlk w' R x0 x1 x2 x3 := (hb.block R (Array.getElem?_eq_some_iff.1 h).1).trans h
theorem rev_snoc {l : List PArc} {k : Nat} {x : PArc} (h : l.drop k = x :: l.drop (k + 1)) (a : PArc) : (a :: (l.drop (k + 1)).reverse) ++ [x] = a :: (l.drop k).reverse := by
  rw [h, List.reverse_cons]; rfl
set_option maxHeartbeats 4000000 in
set_option maxRecDepth 100000 in
theorem grows_walk (v vx vy : Value) (F : PFst) (a : PArc) (xs ys : List Int) (w : World) (hv : RdF w v F) (hx : RdI w vx xs) (hy : RdI w vy ys) :
    Calls Try.prog 11 #[v, .agg #[.int .i64 a.fr, .int .i64 a.inp, .int .i64 a.out, .int .i64 a.tgt], .agg #[vx, vy]] w fun e w' => e = .returned (.bool true) ∧ Below w.heap.size w w' := by
  have HV := Lib.hid hv
  obtain ⟨va, vf, rfl, ha, hf⟩ := hv
  have HFR := Lib.hid hf
  obtain ⟨A1, n1, c1, rfl, hn1, hc1, HN1, HR1⟩ := ha.op
  obtain ⟨A2, n2, c2, rfl, _, _, HN2, _⟩ := hf.op
  clear ha hf
  obtain ⟨Ax, nx, cx, rfl, _, _, HNX, _⟩ := hx.op
  obtain ⟨Ay, ny, cy, rfl, _, _, HNY, _⟩ := hy.op
  have HX := Lib.hid hx
  have HY := Lib.hid hy
  clear hx hy
  obtain ⟨y0, y1, y2, y3⟩ := a
  simp only
  go_enter Try.func11, Try.ntmps11
  go_wp2_with fail
  generalize hW : World.alloc (World.alloc (World.alloc w _) _) _ = W
  have HBW : Hid (Below w.heap.size w W) := by rw [← hW]; exact bchain (bchain (al_below _ _) (al_below _ _)) (al_below _ _)
  have HP : Hid (FBlk W w.heap.size (.int .i64 F.states) (.slice A1 n1 c1) (.slice A2 n2 c2)) := by
    rw [← hW]; exact FBlk.below (FBlk.below (heap_alloc_new w _) (al_below _ _)) (al_below _ _)
  have HA : Hid (ABlk W (w.heap.size + 1) y0 y1 y2 y3) := by
    have h := heap_alloc_new (w.alloc (.cells #[.int .i64 F.states, .slice A1 n1 c1, .slice A2 n2 c2] 25)) (.cells #[.int .i64 y0, .int .i64 y1, .int .i64 y2, .int .i64 y3] 42)
    rw [World.size_alloc] at h
    rw [← hW]; exact ablk_below h (al_below _ _)
  have HQ : Hid (QBlk W (w.heap.size + 2) (.slice Ax nx cx) (.slice Ay ny cy)) := by
    have h := heap_alloc_new ((w.alloc (.cells #[.int .i64 F.states, .slice A1 n1 c1, .slice A2 n2 c2] 25)).alloc (.cells #[.int .i64 y0, .int .i64 y1, .int .i64 y2, .int .i64 y3] 42)) (.cells #[.slice Ax nx cx, .slice Ay ny cy] 43)
    rw [World.size_alloc, World.size_alloc] at h
    rw [← hW]; exact h
  clear hW
  refine (light_any _ F _ (HV.out.below HBW.out)).mono ?_
  rintro e w1 ⟨rfl, hb⟩
  have HB1 : Hid (Below w.heap.size w w1) := bchain HBW.out hb
  have HP1 := Lib.hid (HP.out.below hb)
  have HA1 := Lib.hid (ablk_below HA.out hb)
  have HQ1 := Lib.hid (HQ.out.below hb)
  clear hb HP HBW HA HQ
  cases hl : lightB F
  · skip
    go_wp2_with fail
    refine (awake_any _).mono ?_
    rintro e wz ⟨rfl, hbz⟩
    have HBZ : Hid (Below w.heap.size w wz) := bchain (HB1.out) hbz
    clear hbz
    go_wp2_with fail
    go_ret
    exact ⟨rfl, HBZ.out⟩
  have HL := Lib.hid (lgt_of hl)
  clear hl
  obtain ⟨q0, q1, ql⟩ := HQ1.out.facts
  go_wp2_with fail
  clear q0 q1 ql
  refine (short_any _ _ xs ys _ (HX.out.below HB1.out) (HY.out.below HB1.out)).mono ?_
  rintro e w2 ⟨rfl, rfl⟩
  cases hs : (decide (xs.length ≤ 24) && decide (ys.length ≤ 24))
  · skip
    go_wp2_with fail
    refine (awake_any _).mono ?_
    rintro e wz ⟨rfl, hbz⟩
    have HBZ : Hid (Below w.heap.size w wz) := bchain (HB1.out) hbz
    clear hbz
    go_wp2_with fail
    go_ret
    exact ⟨rfl, HBZ.out⟩
  simp only [Bool.and_eq_true, decide_eq_true_eq] at hs
  have hx24 : xs.length ≤ 1000 := by omega
  have hy24 : ys.length ≤ 1000 := by omega
  have hn80 : n1 ≤ 80 := by have := HL.out.al; rw [HN1.out] at this; exact this
  clear hs
  obtain ⟨p0, p1, p2, _, _, _⟩ := HP1.out.facts
  have hpl := HP1.out.lt
  obtain ⟨a0, a1, a2, a3⟩ := HA1.out.cells
  have hal := (Array.getElem?_eq_some_iff.1 HA1.out).1
  go_wp2_with fail
  clear p0 p1 p2 hpl a0 a1 a2 a3 hal
  generalize hW : World.alloc (World.alloc w1 _) _ = W2
  have HB2 : Hid (Below w1.heap.size w1 W2) := by rw [← hW]; exact bchain (al_below _ _) (al_below _ _)
  have HO2 : Hid (OwnA W2 w1.heap.size (.slice (some ⟨w1.heap.size, 0, none⟩) 1 1) [⟨y0, y1, y2, y3⟩]) := by
    rw [← hW]; exact World.ownsRow.alloc (World.ownsRow_lit w1 #[.int .i64 y0, .int .i64 y1, .int .i64 y2, .int .i64 y3] 1 (Nat.le_refl _) (by decide) rfl) _
  have HT2 : Hid (FBlk W2 (w1.heap.size + 1) (.int .i64 F.states) (.slice (some ⟨w1.heap.size, 0, none⟩) 1 1) (.slice A2 n2 c2)) := by
    have h := heap_alloc_new (w1.alloc (.cells #[.int .i64 y0, .int .i64 y1, .int .i64 y2, .int .i64 y3] 42)) (.cells #[.int .i64 F.states, .slice (some ⟨w1.heap.size, 0, none⟩) 1 1, .slice A2 n2 c2] 25)
    rw [World.size_alloc] at h
    rw [← hW]; exact h
  clear hW
  go_loopg [8] n1 (fun gk v8 wr => ∃ (k : Nat) (z : Int) (Ag : Option Addr) (m cg : Nat), k ≤ n1 ∧ gk = k ∧ v8 = .int .i64 z ∧ z = (k : Int) - 1 ∧ Hid (OwnA wr w1.heap.size (.slice Ag m cg) (⟨y0, y1, y2, y3⟩ :: (F.arcs.drop k).reverse)) ∧ Hid (FBlk wr (w1.heap.size + 1) (.int .i64 F.states) (.slice Ag m cg) (.slice A2 n2 c2)) ∧ Hid (Below w1.heap.size w1 wr))
  case atStart => exact ⟨n1, _, _, 1, 1, Nat.le_refl _, rfl, rfl, by go_num, by rw [List.drop_of_length_le (by rw [HN1.out]; exact Nat.le_refl _)]; exact HO2.out, HT2.out, HB2.out⟩
  case round =>
    obtain ⟨k, z, Ag, m, cg, hk, hg, rfl, hz, HO, HT, HBR⟩ := hrel
    have HG := Lib.hid hg
    clear hg HO2 HT2 HB2
    have HBX : Hid (Below w.heap.size w wr) := bchain HB1.out HBR.out
    have HPr := Lib.hid (HP1.out.below HBR.out)
    by_cases hk0 : k = 0
    · subst hk0
      have hz1 : z = -1 := by omega
      subst hz1
      have HO3 : Hid (OwnA wr w1.heap.size (.slice Ag m cg) (⟨y0, y1, y2, y3⟩ :: F.arcs.reverse)) := HO.out
      obtain ⟨_, _, cg', he, hmc, hcm, HLM, _⟩ := HO3.out.rd.op
      cases he
      obtain rfl : m = n1 + 1 := by have := HLM.out; simp at this; rw [HN1.out] at this; omega
      clear HO HLM hz
      have HGV : Hid (RdF wr (.agg #[.int .i64 F.states, .slice Ag (n1 + 1) cg, .slice A2 n2 c2]) (growF ⟨y0, y1, y2, y3⟩ F)) := ⟨_, _, rfl, HO3.out.rd, HFR.out.below HBX.out⟩
      have HTL := Lib.hid (RdA.tail HO3.out.rd)
      have HGA : Hid (accB F xs ys = true → accB (growF ⟨y0, y1, y2, y3⟩ F) xs ys = true) := grow_acc
      have HTA : Hid (accB (turnF F) xs ys = accB F xs ys) := turn_acc F xs ys
      have HTG : Hid (FinOk (turnF F)) := good_fin (turn_good HL.out.good)
      have HTF : Hid ((turnF F).final.length ≤ 1000000) := by have h := lgt_fl HL.out; exact h
      have HGF : Hid ((growF ⟨y0, y1, y2, y3⟩ F).final.length ≤ 1000000) := by have h := lgt_fl HL.out; exact h
      obtain ⟨t0, t1, t2, _, _, _⟩ := HT.out.facts
      have htl := HT.out.lt
      go_wp2_with fail
      clear t0 t1 t2 htl
      refine (fcheck_any _ (growF ⟨y0, y1, y2, y3⟩ F) _ HGV.out).mono ?_
      rintro e w3 ⟨rfl, hb⟩
      have HB3 := Lib.hid (bchain HBX.out hb)
      have HB3r := Lib.hid hb
      clear hb
      by_cases hc : chk (growF ⟨y0, y1, y2, y3⟩ F) = 0
      · have HGG : Hid (FinOk (growF ⟨y0, y1, y2, y3⟩ F)) := good_fin ((chk_ok _).1 hc)
        rw [hc]
        clear hc
        go_upto_region 10 with (fail)
        obtain ⟨At, ct, hsl⟩ : ∃ (At : Option Addr) (ct : Nat), (.slice At n1 ct : Value) = .slice (if cg = 1 then Ag else Ag.map (·.add 4)) n1 (cg - 1) := ⟨_, _, rfl⟩
        have hT : At = (if cg = 1 then Ag else Ag.map (·.add 4)) ∧ ct = cg - 1 := by cases hsl; exact ⟨rfl, rfl⟩
        have HPw := Lib.hid (HPr.out.below HB3r.out)
        have HTw := Lib.hid (HT.out.below HB3r.out)
        have HTU : Hid (RdF w3 (.agg #[.int .i64 F.states, .slice At n1 ct, .slice A2 n2 c2]) (turnF F)) := ⟨_, _, rfl, by rw [hsl]; exact HTL.out.below HB3r.out, HFR.out.below HB3.out⟩
        have HHT := Lib.hid hT
        have hs1 : ∀ W, (Instr.slice 22 (.slice Ag (n1 + 1) cg) (some (.int .i64 1)) none none).run Try.prog W = .ok (.slice At n1 ct) W := fun W => by rw [hsl]; exact slice_one Ag n1 cg W
        have hs2 : ∀ W, (Instr.sliceAt 22 (.slice Ag (n1 + 1) cg) (some (.int .i64 1)) none none).run Try.prog W = .ok (.slice At n1 ct) W := fun W => by rw [hsl]; exact slice_at_one Ag n1 cg W
        clear hT hsl
        refine wp_region_ord 9 [0, 1, 2, 3, 4, 5, 6, 7, 8] [] [0, 1, 2, 3, 4, 5, 6, 7] [8, 9] (fun w' => Below w3.heap.size w3 w') (by kernel_rfl) (by kernel_rfl) ?_
        rintro Z hZ
        have HBZ : Hid (Below w3.heap.size w3 Z) := by rw [hZ]; exact (Below.refl _ _).drew
        clear hZ
        refine ⟨HBZ.out, ?_⟩
        have HS : Hid (∀ w' : World, Below w3.heap.size w3 w' → w'.cell? ⟨w.heap.size, 0, none⟩ = some (.int .i64 F.states) ∧ w'.cell? ⟨w.heap.size, 2, none⟩ = some (.slice A2 n2 c2) ∧ w'.cell? ⟨w1.heap.size + 1, 1, none⟩ = some (.slice Ag (n1 + 1) cg)) := by
          intro w' h
          obtain ⟨f0, _, f2, _⟩ := (HPw.out.below h).facts
          obtain ⟨_, g1, _, _⟩ := (HTw.out.below h).facts
          exact ⟨f0, f2, g1⟩
        iterate 8 (refine wpHead_cons (v := ?_) rfl rfl (fun w' hS => ?_) ?_; rotate_left; (focus ((try obtain ⟨f0, f2, g1⟩ := HS.out _ (hS rfl)); clear hS; go_simp; try with_reducible rfl; done)); (try simp only [Act.put, List.setIfInBounds_toArray, List.set_cons_zero, List.set_cons_succ]))
        clear hs1 hs2
        refine wpHead_nil ?_
        refine wpTail_cons rfl rfl (fun K hK => ?_)
        go_simp
        refine hK.out _ _ (fun _ => bchain HBZ.out (al_below _ _)) ?_
        clear hK K
        (try simp only [Act.put, List.setIfInBounds_toArray, List.set_cons_zero, List.set_cons_succ])
        refine wpTail_rest 9 rfl ?_
        simp only [List.drop_succ_cons, List.drop_zero]
        go_wp2_with fail
        refine NoPanic.normal ?_
        clear HS
        generalize hW : World.alloc Z _ = V
        have HBV : Hid (Below w3.heap.size w3 V) := by rw [← hW]; exact bchain HBZ.out (al_below _ _)
        have HUV : Hid (FBlk V Z.heap.size (.int .i64 F.states) (.slice At n1 ct) (.slice A2 n2 c2)) := by rw [← hW]; exact heap_alloc_new Z _
        have HBV0 := Lib.hid (bchain HB3.out HBV.out)
        have HPv := Lib.hid (HPw.out.below HBV.out)
        have HTv := Lib.hid (HTw.out.below HBV.out)
        have HQv := Lib.hid (HQ1.out.below (bchain (bchain HBR.out HB3r.out) HBV.out))
        clear hW HBZ
        obtain ⟨p0, p1, p2, _, _, _⟩ := HPv.out.facts
        have hpl := HPv.out.lt
        obtain ⟨q0, q1, ql⟩ := HQv.out.facts
        go_wp2_with fail
        clear p0 p1 p2 hpl q0 q1 ql
        refine (faccepts_any _ _ _ F xs ys _ (HV.out.below HBV0.out) (HX.out.below HBV0.out) (HY.out.below HBV0.out) HL.out.fin.right HL.out.fin.ord HL.out.fin.st HL.out.fin.al (lgt_fl HL.out) hx24 hy24).mono ?_
        rintro e w5 ⟨rfl, hb⟩
        have HB5 := Lib.hid (bchain HBV0.out hb)
        have HT5 := Lib.hid (HTv.out.below hb)
        have HU5 := Lib.hid (HUV.out.below hb)
        have HQ5 := Lib.hid (HQv.out.below hb)
        have HTU5 := Lib.hid (HTU.out.below (bchain HBV.out hb))
        have HGV5 := Lib.hid (HGV.out.below (bchain HB3r.out (bchain HBV.out hb)))
        clear hb
        obtain ⟨u0, u1, u2, _, _, _⟩ := HU5.out.facts
        have hul := HU5.out.lt
        obtain ⟨q0, q1, ql⟩ := HQ5.out.facts
        go_wp2_with fail
        clear u0 u1 u2 hul q0 q1 ql
        refine (faccepts_any _ _ _ (turnF F) xs ys _ HTU5.out (HX.out.below HB5.out) (HY.out.below HB5.out) HTG.out.right HTG.out.ord HTG.out.st HTG.out.al HTF.out hx24 hy24).mono ?_
        rintro e w6 ⟨rfl, hb⟩
        rw [HTA.out]
        have HB6 := Lib.hid (bchain HB5.out hb)
        have HT6 := Lib.hid (HT5.out.below hb)
        have HQ6 := Lib.hid (HQ5.out.below hb)
        have HGV6 := Lib.hid (HGV5.out.below hb)
        clear hb
        have hq : (accB F xs ys == accB F xs ys) = true := by simp
        cases hac : accB F xs ys
        · clear hac hq
          go_wp2_with fail
          refine (awake_any _).mono ?_
          rintro e wz ⟨rfl, hbz⟩
          have HBZ : Hid (Below w.heap.size w wz) := bchain (HB6.out) hbz
          clear hbz
          go_wp2_with fail
          go_ret
          exact ⟨rfl, HBZ.out⟩
        · have HGY := Lib.hid (HGA.out hac)
          clear hac hq
          obtain ⟨t0, t1, t2, _, _, _⟩ := HT6.out.facts
          have htl := HT6.out.lt
          obtain ⟨q0, q1, ql⟩ := HQ6.out.facts
          go_wp2_with fail
          clear t0 t1 t2 htl q0 q1 ql
          refine (faccepts_any _ _ _ (growF ⟨y0, y1, y2, y3⟩ F) xs ys _ HGV6.out (HX.out.below HB6.out) (HY.out.below HB6.out) HGG.out.right HGG.out.ord HGG.out.st HGG.out.al HGF.out hx24 hy24).mono ?_
          rintro e w7 ⟨rfl, hb⟩
          rw [HGY.out]
          have HB7 := Lib.hid (bchain HB6.out hb)
          clear hb
          go_wp2_with fail
          refine (awake_any _).mono ?_
          rintro e wz ⟨rfl, hbz⟩
          have HBZ : Hid (Below w.heap.size w wz) := bchain (HB7.out) hbz
          clear hbz
          go_wp2_with fail
          go_ret
          exact ⟨rfl, HBZ.out⟩
      · have d1 : (chk (growF ⟨y0, y1, y2, y3⟩ F) == 0) = false := by simpa using hc
        have d2 : (chk (growF ⟨y0, y1, y2, y3⟩ F) != 0) = true := by simpa using hc
        go_wp2_with fail
        refine (awake_any _).mono ?_
        rintro e wz ⟨rfl, hbz⟩
        have HBZ : Hid (Below w.heap.size w wz) := bchain (HB3.out) hbz
        clear hbz
        go_wp2_with fail
        go_ret
        exact ⟨rfl, HBZ.out⟩
    · obtain ⟨j, rfl⟩ : ∃ j, k = j + 1 := ⟨k - 1, by omega⟩
      obtain rfl : z = (j : Int) := by omega
      have hj : j < n1 := by omega
      clear hz hk0
      obtain ⟨bb, off, x0, x1, x2, x3, rfl, hbb, hdr, e0, e1, e2, e3⟩ := (HR1.out j hj).below HBX.out
      have HLN : Hid ((⟨y0, y1, y2, y3⟩ :: (F.arcs.drop (j + 1)).reverse : List PArc).length ≤ 1000000) := by unfold Hid; simp; have := HN1.out; omega
      have HRS := Lib.hid (rev_snoc hdr.out ⟨y0, y1, y2, y3⟩)
      generalize (⟨y0, y1, y2, y3⟩ :: (F.arcs.drop (j + 1)).reverse : List PArc) = L at HLN HRS HO
      have HE : Hid (wr.cell? ⟨bb, off + j * 4, none⟩ = some (.int .i64 x0) ∧ wr.cell? ⟨bb, off + j * 4 + 1, none⟩ = some (.int .i64 x1) ∧ wr.cell? ⟨bb, off + j * 4 + 2, none⟩ = some (.int .i64 x2) ∧ wr.cell? ⟨bb, off + j * 4 + 3, none⟩ = some (.int .i64 x3)) := ⟨e0, e1, e2, e3⟩
      have hj0 : (0 : Int) ≤ (j : Int) := by omega
      clear e0 e1 e2 e3
      go_upto_region 7 with (fail)
      refine wp_region_ord 8 [0, 1, 2, 3, 4, 5, 6, 7] [] [0, 1, 2, 3, 4, 5, 6] [7, 8, 9, 10] (fun w' => Below wr.heap.size wr w') (by kernel_rfl) (by kernel_rfl) ?_
      rintro Z hZ
      have HBZ : Hid (Below wr.heap.size wr Z) := by rw [hZ]; exact (Below.refl _ _).drew
      clear hZ
      refine ⟨HBZ.out, ?_⟩
      have HS : Hid (∀ w' : World, Below wr.heap.size wr w' → w'.cell? ⟨w1.heap.size + 1, 1, none⟩ = some (.slice Ag m cg) ∧ w'.cell? ⟨w.heap.size, 1, none⟩ = some (.slice (some ⟨bb, off, none⟩) n1 c1) ∧ w'.cell? ⟨bb, off + j * 4, none⟩ = some (.int .i64 x0) ∧ w'.cell? ⟨bb, off + j * 4 + 1, none⟩ = some (.int .i64 x1) ∧ w'.cell? ⟨bb, off + j * 4 + 2, none⟩ = some (.int .i64 x2) ∧ w'.cell? ⟨bb, off + j * 4 + 3, none⟩ = some (.int .i64 x3)) := by
        intro w' h
        obtain ⟨_, g1, _, _⟩ := (HT.out.below h).facts
        obtain ⟨_, f1, _, _⟩ := (HPr.out.below h).facts
        exact ⟨g1, f1, (h.cell hbb).trans HE.out.1, (h.cell hbb).trans HE.out.2.1, (h.cell hbb).trans HE.out.2.2.1, (h.cell hbb).trans HE.out.2.2.2⟩
      iterate 7 (refine wpHead_cons (v := ?_) rfl rfl (fun w' hS => ?_) ?_; rotate_left; (focus ((try obtain ⟨g1, f1, u0, u1, u2, u3⟩ := HS.out _ (hS rfl)); clear hS; go_simp; try with_reducible rfl; done)); (try simp only [Act.put, List.setIfInBounds_toArray, List.set_cons_zero, List.set_cons_succ]))
      refine wpHead_nil ?_
      refine wpTail_cons rfl rfl (fun K hK => ?_)
      go_simp
      have HOZ : Hid (OwnA Z w1.heap.size (.slice Ag m cg) L) := own_below HO.out HBZ.out
      have HTZ := Lib.hid (HT.out.below HBZ.out)
      have hbt := HTZ.out.lt
      have hbZ : w1.heap.size ≤ Z.heap.size := Nat.le_trans HBR.out.size HBZ.out.size
      refine hK.out _ _ (fun _ => bchain HBZ.out (al_below _ _)) ?_
      clear hK K
      (try simp only [Act.put, List.setIfInBounds_toArray, List.set_cons_zero, List.set_cons_succ])
      refine wpTail_cons rfl rfl (fun K hK => ?_)
      refine wp_app_arc1 (.tmp 39) (.tmp 45) rfl w1.heap.size (.slice Ag m cg) L rfl HOZ.out x0 x1 x2 x3 HLN.out hbZ rfl ?_
      intro g8 c8 w8 ho8 hg8 hloc8 hlt8
      refine hK.out _ _ (fun h => absurd h (by decide)) ?_
      clear hK K
      (try simp only [Act.put, List.setIfInBounds_toArray, List.set_cons_zero, List.set_cons_succ])
      have HT8 : Hid (FBlk w8 (w1.heap.size + 1) (.int .i64 F.states) (.slice Ag m cg) (.slice A2 n2 c2)) := (hg8.block _ hbt (Ne.symm (row_ne_fblk HOZ.out HTZ.out (by decide)))).trans HTZ.out
      have HO8 := Lib.hid ho8
      have HB8 : Hid (Below w1.heap.size w1 w8) := Below.grown (bchain HBR.out HBZ.out) hg8 hbZ (fun i hi => (World.ownsRow.lt HOZ.out i hi).1)
      clear ho8 hg8 hloc8 hlt8 HS hbt
      obtain ⟨t0, t1, t2, _, tf1, _⟩ := HT8.out.facts
      have htl := HT8.out.lt
      refine wpTail_rest 9 rfl ?_
      simp only [List.drop_succ_cons, List.drop_zero]
      go_wp2_with fail
      refine NoPanic.normal ?_
      go_wp2_with fail
      clear t0 t1 t2 tf1 htl
      go_roundg j
      case measure => rw [HG.out]; omega
      case rel => exact ⟨j, _, _, _, _, by omega, rfl, rfl, by go_num, by rw [← HRS.out]; exact own_setCell HO8.out (row_ne_fblk HO8.out HT8.out (by decide)) _ _, HT8.out.set1 _, HB8.out.setCell (by simp) _⟩
end Go.Proofs.Ytmejihlplbeekaa
