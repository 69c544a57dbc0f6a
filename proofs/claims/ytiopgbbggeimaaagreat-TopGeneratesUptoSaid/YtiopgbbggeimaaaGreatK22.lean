/-
  analyze: run.
-/
import Derived.Test.YtiopgbbggeimaaaGreatK21
namespace Go.Proofs.YtiopgbbggeimaaaGreat
open Go.ChangeShapes Go.WideShapes Go.ChangeAt Go.RowKit
def schV (g : GV) (ws : Sl) (shr : Bool) (fin bm bg ba : Nat) : Sch := ⟨g, ws, shr, fin, bm, bg, ba⟩
theorem al_belowM (w : World) : Below w.heap.size w (w.alloc (.map #[] 0)) := (Below.refl _ _).alloc (Nat.le_refl _) _
theorem TrM.made (G : PLang) (wl : List Int) (w : World) : TrM G wl w.heap.size (w.alloc (.map #[] 0)) := ⟨_, OwnM.made SK w (keysL G), fun _ _ _ h => by cases h⟩
theorem SrBlk.free {w : World} {B : Nat} {s : Sch} (h : SrBlk w B s) (o : Nat) : w.frozen? ⟨B, o, none⟩ = false := by
  unfold SrBlk at h
  simp [World.frozen?, h]
theorem SrBlk.setFin {w : World} {B bm bg ba fin : Nat} {g : GV} {ws : Sl} {shr : Bool} (h : SrBlk w B (schV g ws shr fin bm bg ba)) (m : Nat) : SrBlk (w.setCell ⟨B, 11, none⟩ (.int .u32 (m : Int))) B (schV g ws shr m bm bg ba) := by
  unfold SrBlk at h ⊢
  rw [set_block h]
  rfl
/-- one search block changes -/
def SF (B : Nat) (w w' : World) : Prop := w.grownBy w' (some B) ∧ ∃ s, SrBlk w B s
theorem SF.cells {B : Nat} {w w' : World} (h : SF B w w') {k : Nat} {cs : Array Value} {t : TypeId} {m : Nat × Nat} (hk : w.heap[k]? = some (.cells cs t m)) (ht : t ≠ 163) : w'.heap[k]? = w.heap[k]? := by
  obtain ⟨h1, s, h2⟩ := h
  refine h1.block k (Array.getElem?_eq_some_iff.1 hk).1 fun e => ?_
  cases e
  unfold SrBlk at h2
  rw [hk] at h2
  cases h2
  exact ht rfl
theorem SF.tr {B : Nat} {w w' : World} (h : SF B w w') {G : PLang} {wl : List Int} {bm : Nat} (hm : TrM G wl bm w) : TrM G wl bm w' := by
  obtain ⟨h1, s, h2⟩ := h
  obtain ⟨f, h3, h4⟩ := hm
  obtain ⟨es, cl, h5⟩ := h3.block
  refine ⟨f, h3.same (h1.block bm (Array.getElem?_eq_some_iff.1 h5).1 fun e => ?_), h4⟩
  cases e
  unfold SrBlk at h2
  rw [h5] at h2
  cases h2
theorem SF.sta {B : Nat} {w w' : World} (h : SF B w w') {n0 bo bf : Nat} {st : Fnd} (hs : StA n0 bo bf st w) : StA n0 bo bf st w' := by
  obtain ⟨v, g1, ⟨us, a1, a2, a3⟩, g3, g4, g5, g6⟩ := hs
  exact ⟨v, (h.cells g1 (by decide)).trans g1, ⟨us, own_keepQ a1 fun _ _ _ _ hc _ => h.cells hc (by decide), a2, fun x hx => own_keepQ (a3 x hx) fun _ _ _ _ hc _ => h.cells hc (by decide)⟩, (h.cells g3 (by decide)).trans g3, g4, g5, g6⟩
set_option maxHeartbeats 32000000 in
set_option maxRecDepth 100000 in
theorem srun_any (w0 : World) (g : GV) (G : PLang) (ws : Sl) (wl : List Int) (bo bf bg ba : Nat) (st : Fnd) (w : World) (hg : DpG w0 g G) (hl : LightOk G) (hw : RdI w0 (.slice ws.A ws.n ws.c) wl) (hw1 : 1 ≤ wl.length) (hw2 : wl.length ≤ 24) (h0 : Below w0.heap.size w0 w) (hS : StA w0.heap.size bo bf st w) (hlg : LgBlk w bg g) (had : Boxed w ba 120 (addV bo bf)) :
    Calls Tryz.prog 55 #[.agg #[.slice g.i.A g.i.n g.i.c, .string g.on, .slice g.u.A g.u.n g.u.c, .slice g.l.A g.l.n g.l.c, .slice g.r.A g.r.n g.r.c, .int .i64 g.q, .slice g.s.A g.s.n g.s.c, .slice g.f.A g.f.n g.f.c, .slice g.x.A g.x.n g.x.c], .slice ws.A ws.n ws.c, .func (.func 56) #[] #[.pointer (some ⟨bg, 0, none⟩), .pointer (some ⟨ba, 0, none⟩)]] w fun e w' =>
      e = .returned (.tuple #[]) ∧ StA w0.heap.size bo bf (foldE addF st (hits G wl 4 [] 1 [])).1 w' ∧ Gw w0.heap.size w w' := by
  have HG := Lib.hid hg
  have HL := Lib.hid hl
  have HW := Lib.hid hw
  have HB0 := Lib.hid h0
  have HST := Lib.hid hS
  have HLG := Lib.hid hlg
  have HAD := Lib.hid had
  obtain ⟨S, hs⟩ := hl.st
  have HSS := Lib.hid hs
  have hS24 : S ≤ 24 := by have := hl.net.s2; omega
  have hS1 : 1 ≤ S := by have := hl.net.s1; omega
  have HNWS : Hid (ws.n = wl.length) := rd_len hw
  have hn1 : 1 ≤ ws.n := by rw [HNWS.out]; exact hw1
  have hn2 : ws.n ≤ 24 := by rw [HNWS.out]; exact hw2
  have hn0 : w0.heap.size ≤ w.heap.size := h0.size
  clear hg hl hw h0 hS hlg had hs hw1 hw2
  go_enter Tryz.func55, Tryz.ntmps55
  go_upto_region 1 with (fail)
  generalize hW : World.alloc w _ = W
  have HBW : Hid (Below w.heap.size w W) := by rw [← hW]; exact al_below _ _
  have HQ : Hid (LgBlk W w.heap.size g) := by rw [← hW]; exact heap_alloc_new w _
  clear hW
  have HB0W : Hid (Below w0.heap.size w0 W) := HB0.out.trans (HBW.out.mono hn0)
  have HSW := Lib.hid (HST.out.below HBW.out)
  have HLW := Lib.hid (HLG.out.below HBW.out)
  have HAW := Lib.hid (boxed_below HAD.out HBW.out)
  have hn0W : w0.heap.size ≤ W.heap.size := HB0W.out.size
  have d1 : ((ws.n : Int) == 0) = false := by simp; omega
  have d1' : (ws.n == 0) = false := by simp; omega
  have d2 : decide ((24 : Int) < (ws.n : Int)) = false := by simp; omega
  have d2' : decide (24 < ws.n) = false := by simp; omega
  go_upto_region 2 with (fail)
  clear d1 d1' d2 d2'
  go_cut [6] (fun s6 wx => ∃ (gb gm : Nat), s6 = .pointer (some ⟨gb, 0, none⟩) ∧ W.heap.size ≤ gb ∧ W.heap.size ≤ gm ∧ Hid (SrBlk wx gb (schV g ws (shrB G.rules) 0 gm bg ba)) ∧ Hid (TrM G wl gm wx) ∧ Hid (Below W.heap.size W wx))
  case first =>
    refine wp_region_all 10 (fun w' => Below W.heap.size W w') (by kernel_rfl) (by kernel_rfl) ?_
    rintro D hD
    have HSD : Hid (Below W.heap.size W D) := by rw [hD]; exact (Below.refl _ _).drew
    clear hD
    have HS : Hid (∀ w' : World, Below W.heap.size W w' → w'.cell? ⟨w.heap.size, 0, none⟩ = some (.slice g.i.A g.i.n g.i.c) ∧ w'.cell? ⟨w.heap.size, 1, none⟩ = some (.string g.on) ∧ w'.cell? ⟨w.heap.size, 2, none⟩ = some (.slice g.u.A g.u.n g.u.c) ∧ w'.cell? ⟨w.heap.size, 3, none⟩ = some (.slice g.l.A g.l.n g.l.c) ∧ w'.cell? ⟨w.heap.size, 4, none⟩ = some (.slice g.r.A g.r.n g.r.c) ∧
        w'.cell? ⟨w.heap.size, 5, none⟩ = some (.int .i64 g.q) ∧ w'.cell? ⟨w.heap.size, 6, none⟩ = some (.slice g.s.A g.s.n g.s.c) ∧ w'.cell? ⟨w.heap.size, 7, none⟩ = some (.slice g.f.A g.f.n g.f.c) ∧ w'.cell? ⟨w.heap.size, 8, none⟩ = some (.slice g.x.A g.x.n g.x.c) ∧ w.heap.size < w'.heap.size) :=
      fun w' h => (HQ.out.below h).facts
    (refine wpS_take 0 (v := ?_) (by kernel_rfl) rfl rfl (by exact HSD.out) (fun w' hS => ?_) ?_; rotate_left; (focus ((try obtain ⟨s0, s1, s2, s3, s4, s5, s6, s7, s8, s9⟩ := HS.out _ hS); clear hS; go_simp; try with_reducible rfl; done)); (try simp only [Act.put, List.setIfInBounds_toArray, List.set_cons_zero, List.set_cons_succ]))
    (refine wpS_take 1 (v := ?_) (by kernel_rfl) rfl rfl (by exact HSD.out) (fun w' hS => ?_) ?_; rotate_left; (focus (clear hS; go_simp; try with_reducible rfl; done)); (try simp only [Act.put, List.setIfInBounds_toArray, List.set_cons_zero, List.set_cons_succ]))
    (refine wpS_take 2 (v := ?_) (by kernel_rfl) rfl rfl (by exact HSD.out) (fun w' hS => ?_) ?_; rotate_left; (focus (clear hS; go_simp; try with_reducible rfl; done)); (try simp only [Act.put, List.setIfInBounds_toArray, List.set_cons_zero, List.set_cons_succ]))
    (refine wpS_take 3 (v := ?_) (by kernel_rfl) rfl rfl (by exact HSD.out) (fun w' hS => ?_) ?_; rotate_left; (focus ((try obtain ⟨s0, s1, s2, s3, s4, s5, s6, s7, s8, s9⟩ := HS.out _ hS); clear hS; go_simp; try with_reducible rfl; done)); (try simp only [Act.put, List.setIfInBounds_toArray, List.set_cons_zero, List.set_cons_succ]))
    (refine wpS_take 6 (v := ?_) (by kernel_rfl) rfl rfl (by exact HSD.out) (fun w' hS => ?_) ?_; rotate_left; (focus (clear hS; go_simp; try with_reducible rfl; done)); (try simp only [Act.put, List.setIfInBounds_toArray, List.set_cons_zero, List.set_cons_succ]))
    clear HS
    refine wpS_br [4, 5] (by kernel_rfl) ?_
    refine AllS.cons rfl rfl (fun K hK => ?_) (AllS.cons rfl rfl (fun K hK => ?_) AllS.nil)
    · skip
      go_simp
      refine (shrinks_any _ G.rules D ((HG.out.below (HB0W.out.trans (HSD.out.mono hn0W))).r)).mono ?_
      rintro e Y1 ⟨rfl, hb⟩
      have HXY1 := Lib.hid hb
      have HSY1 := Lib.hid (bchain HSD.out hb)
      refine hK.out _ _ HSY1.out ?_
      clear hK K hb
      (try simp only [Act.put, List.setIfInBounds_toArray, List.set_cons_zero, List.set_cons_succ])
      refine wpS_br [5] (by kernel_rfl) ?_
      refine AllS.cons rfl rfl (fun K hK => ?_) AllS.nil
      have hmm := @run_makeMap Tryz.prog
      go_simp
      refine hK.out _ _ (HSY1.out.alloc HSY1.out.size _) ?_
      clear hK K hmm
      (try simp only [Act.put, List.setIfInBounds_toArray, List.set_cons_zero, List.set_cons_succ])
      have HXY2 : Hid (Below Y1.heap.size Y1 (Y1.alloc (.map #[] 0))) := al_belowM _
      have HMY2 : Hid (TrM G wl Y1.heap.size (Y1.alloc (.map #[] 0))) := TrM.made _ _ _
      have hmY2 : W.heap.size ≤ Y1.heap.size := HSY1.out.size
      generalize World.alloc Y1 _ = Y2 at HXY2 HMY2 ⊢
      have HSY2 := Lib.hid (bchain HSY1.out HXY2.out)
      generalize Y1.heap.size = gm at HMY2 hmY2 ⊢
      have hmm9 : W.heap.size ≤ gm := hmY2
      (refine wpS_take 7 (v := ?_) (by kernel_rfl) rfl rfl (by exact HSY2.out) (fun w' hS => ?_) ?_; rotate_left; (focus (clear hS; go_simp; try with_reducible rfl; done)); (try simp only [Act.put, List.setIfInBounds_toArray, List.set_cons_zero, List.set_cons_succ]))
      refine wpS_br [8] (by kernel_rfl) ?_
      refine AllS.cons rfl rfl (fun K hK => ?_) AllS.nil
      go_simp
      refine hK.out _ _ (HSY2.out.alloc HSY2.out.size _) ?_
      clear hK K
      (try simp only [Act.put, List.setIfInBounds_toArray, List.set_cons_zero, List.set_cons_succ])
      generalize hY : World.alloc Y2 _ = Y9
      have HX9 : Hid (Below Y2.heap.size Y2 Y9) := by rw [← hY]; exact al_below _ _
      have HY9 : Hid (SrBlk Y9 Y2.heap.size (schV g ws (shrB G.rules) 0 gm bg ba)) := by rw [← hY]; exact heap_alloc_new Y2 _
      clear hY
      have HS9 := Lib.hid (bchain HSY2.out HX9.out)
      (refine wpS_take 9 (v := ?_) (by kernel_rfl) rfl rfl (by exact HS9.out) (fun w' hS => ?_) ?_; rotate_left; (focus (clear hS; go_simp; try with_reducible rfl; done)); (try simp only [Act.put, List.setIfInBounds_toArray, List.set_cons_zero, List.set_cons_succ]))
      refine wpS_nil (by kernel_rfl) ?_
      refine NoPanic.normal ?_
      go_wp2_with fail
      go_meet
      exact ⟨_, _, rfl, HSY2.out.size, hmm9, HY9.out, HMY2.out.below HX9.out, HS9.out⟩
    · skip
      have hmm := @run_makeMap Tryz.prog
      go_simp
      refine hK.out _ _ (HSD.out.alloc HSD.out.size _) ?_
      clear hK K hmm
      (try simp only [Act.put, List.setIfInBounds_toArray, List.set_cons_zero, List.set_cons_succ])
      have HXY1 : Hid (Below D.heap.size D (D.alloc (.map #[] 0))) := al_belowM _
      have HMY1 : Hid (TrM G wl D.heap.size (D.alloc (.map #[] 0))) := TrM.made _ _ _
      have hmY1 : W.heap.size ≤ D.heap.size := HSD.out.size
      generalize World.alloc D _ = Y1 at HXY1 HMY1 ⊢
      have HSY1 := Lib.hid (bchain HSD.out HXY1.out)
      generalize D.heap.size = gm at HMY1 hmY1 ⊢
      have hmm9 : W.heap.size ≤ gm := hmY1
      refine wpS_br [4] (by kernel_rfl) ?_
      refine AllS.cons rfl rfl (fun K hK => ?_) AllS.nil
      go_simp
      refine (shrinks_any _ G.rules Y1 ((HG.out.below (HB0W.out.trans (HSY1.out.mono hn0W))).r)).mono ?_
      rintro e Y2 ⟨rfl, hb⟩
      have HXY2 := Lib.hid hb
      have HSY2 := Lib.hid (bchain HSY1.out hb)
      refine hK.out _ _ HSY2.out ?_
      clear hK K hb
      (try simp only [Act.put, List.setIfInBounds_toArray, List.set_cons_zero, List.set_cons_succ])
      (refine wpS_take 7 (v := ?_) (by kernel_rfl) rfl rfl (by exact HSY2.out) (fun w' hS => ?_) ?_; rotate_left; (focus (clear hS; go_simp; try with_reducible rfl; done)); (try simp only [Act.put, List.setIfInBounds_toArray, List.set_cons_zero, List.set_cons_succ]))
      refine wpS_br [8] (by kernel_rfl) ?_
      refine AllS.cons rfl rfl (fun K hK => ?_) AllS.nil
      go_simp
      refine hK.out _ _ (HSY2.out.alloc HSY2.out.size _) ?_
      clear hK K
      (try simp only [Act.put, List.setIfInBounds_toArray, List.set_cons_zero, List.set_cons_succ])
      generalize hY : World.alloc Y2 _ = Y9
      have HX9 : Hid (Below Y2.heap.size Y2 Y9) := by rw [← hY]; exact al_below _ _
      have HY9 : Hid (SrBlk Y9 Y2.heap.size (schV g ws (shrB G.rules) 0 gm bg ba)) := by rw [← hY]; exact heap_alloc_new Y2 _
      clear hY
      have HS9 := Lib.hid (bchain HSY2.out HX9.out)
      (refine wpS_take 9 (v := ?_) (by kernel_rfl) rfl rfl (by exact HS9.out) (fun w' hS => ?_) ?_; rotate_left; (focus (clear hS; go_simp; try with_reducible rfl; done)); (try simp only [Act.put, List.setIfInBounds_toArray, List.set_cons_zero, List.set_cons_succ]))
      refine wpS_nil (by kernel_rfl) ?_
      refine NoPanic.normal ?_
      go_wp2_with fail
      go_meet
      exact ⟨_, _, rfl, HSY2.out.size, hmm9, HY9.out, (HMY1.out.below HXY2.out).below HX9.out, HS9.out⟩
  case rest =>
    obtain ⟨gb, gm, rfl, hgb, hgm, HSR, HTM, HBX⟩ := hcut
    have HGC : Hid (LgBlk wc bg g) := HLW.out.below HBX.out
    have HAC : Hid (Boxed wc ba 120 (addV bo bf)) := boxed_below HAW.out HBX.out
    have HSC := Lib.hid (HSW.out.below HBX.out)
    have HBC : Hid (Below w0.heap.size w0 wc) := HB0W.out.trans (HBX.out.mono hn0W)
    have HBO : Hid (Below w.heap.size w wc) := bchain HBW.out HBX.out
    have hnw : w.heap.size ≤ W.heap.size := HBW.out.size
    have hnc : W.heap.size ≤ wc.heap.size := HBX.out.size
    obtain ⟨z0, z1, z2, z3, z4, z5, z6, z7, z8, zl⟩ := (HQ.out.below HBX.out).facts
    obtain ⟨Af, nf, cf, hef, hf1, hf2, HNF, HRF⟩ := HG.out.f.op
    rw [hef] at z7
    clear hef
    go_wp2_with fail
    clear z0 z1 z2 z3 z4 z5 z6 z7 z8 zl
    go_loopw [30] (fun v30 wr => ∃ (i o : Nat), i ≤ nf ∧ v30 = .int .i64 i ∧ o < 2 ^ S ∧ Hid ((G.net.final.drop i).foldl withB o = finalF G.net.final) ∧ Hid (SrBlk wr gb (schV g ws (shrB G.rules) o gm bg ba)) ∧ Hid (wc.grownBy wr (some gb))) (fun v30 _ => nf - (intOf v30).toNat)
    case atStart => exact ⟨0, 0, Nat.zero_le _, rfl, Nat.two_pow_pos S, rfl, HSR.out, World.grownBy.refl _ _⟩
    case round =>
      obtain ⟨i, o, hi, rfl, ho, HFO, HSB, HGR⟩ := hrel
      by_cases hlt : i < nf
      · have HBR : Hid (Below w0.heap.size w0 wr) := HBC.out.grown HGR.out HBC.out.size (fun k hk => by cases hk; omega)
        obtain ⟨b, off, x, rfl, hb, hd, hck⟩ := (HRF.out i hlt).below HBR.out
        obtain ⟨hx0, hx1⟩ := HL.out.net.fin x (List.mem_of_mem_drop (by rw [hd.out]; exact List.mem_cons_self))
        obtain ⟨q, rfl⟩ : ∃ q : Nat, x = (q : Int) := ⟨x.toNat, by omega⟩
        have hqS : q < S := by have := HSS.out; omega
        have hq : q < 32 := by omega
        have ho32 := lt32 hS24 ho
        have HF2 : Hid ((G.net.final.drop (i + 1)).foldl withB (o ||| 1 <<< q) = finalF G.net.final) := by
          have h := HFO.out
          rw [hd.out, List.foldl_cons] at h
          exact h
        have hor : bits .or .u32 (o : Int) ((2 : Int) ^ q % 4294967296) = ((o ||| 1 <<< q : Nat) : Int) := by rw [shl_cast q (by omega), bits_or _ _ ho32 (by rw [Nat.one_shiftLeft]; exact two_pow_lt (by omega))]
        have HLT : Hid ((o ||| 1 <<< q) < 2 ^ S) := Nat.or_lt_two_pow ho (by rw [Nat.one_shiftLeft]; exact Nat.pow_lt_pow_right (by decide) hqS)
        have hi0 : (0 : Int) ≤ (i : Int) := by omega
        have hq0 : (0 : Int) ≤ (q : Int) := by omega
        clear hd HFO hx0 hx1 ho32
        go_upto_region 6 with (fail)
        clear hck hb
        refine wp_region_ord 6 [0, 1, 2, 3, 4, 5] [] [0, 1, 2, 3, 4, 5] [6, 7, 8, 9] (fun w' => Below wr.heap.size wr w') (by kernel_rfl) (by kernel_rfl) ?_
        rintro D hD
        have HSD : Hid (Below wr.heap.size wr D) := by rw [hD]; exact (Below.refl _ _).drew
        clear hD
        refine ⟨HSD.out, ?_⟩
        have HS : Hid (∀ w' : World, Below wr.heap.size wr w' → w'.cell? ⟨gb, 11, none⟩ = some (.int .u32 (o : Int)) ∧ gb < w'.heap.size) :=
          fun w' h => ⟨(HSB.out.below h).facts.2.2.2.2.2.2.1, (HSB.out.below h).lt⟩
        iterate 6 (refine wpHead_cons (v := ?_) rfl rfl (fun w' hS => ?_) ?_; rotate_left; (focus ((try obtain ⟨s0, s1⟩ := HS.out _ (hS rfl)); clear hS; go_simp; try with_reducible rfl; done)); (try simp only [Act.put, List.setIfInBounds_toArray, List.set_cons_zero, List.set_cons_succ]))
        refine wpHead_nil ?_
        refine wpTail_rest 6 rfl ?_
        simp only [List.drop_succ_cons, List.drop_zero]
        clear HS
        have HSD2 := Lib.hid (HSB.out.below HSD.out)
        have hcD := HSD2.out.facts.2.2.2.2.2.2.1
        have hfD := HSD2.out.free 11
        have hlD := HSD2.out.lt
        have HSX : Hid (SrBlk (D.setCell ⟨gb, 11, none⟩ (.int .u32 ((o ||| 1 <<< q : Nat) : Int))) gb (schV g ws (shrB G.rules) (o ||| 1 <<< q) gm bg ba)) := HSD2.out.setFin _
        have HGX : Hid (wc.grownBy (D.setCell ⟨gb, 11, none⟩ (.int .u32 ((o ||| 1 <<< q : Nat) : Int))) (some gb)) := grown_tr HGR.out (grown_tr (grown_of_below HSD.out) (setCell_grown _ _ _ _))
        go_wp2_with fail
        refine NoPanic.normal ?_
        go_wp2_with fail
        go_roundw
        case rel => exact ⟨i + 1, _, by omega, by go_num, HLT.out, HF2.out, HSX.out, HGX.out⟩
        case measure => simp [intOf]; omega
      · have HOF : Hid (o = finalF G.net.final) := by
          have h := HFO.out
          rw [List.drop_of_length_le (by rw [HNF.out]; omega)] at h
          exact h
        have h := HOF.out
        subst h
        have HSF : Hid (SF gb wc wr) := ⟨HGR.out, _, HSR.out⟩
        have HSE : Hid (SE w0 (schV g ws (shrB G.rules) (finalF G.net.final) gm bg ba) G wl) := ⟨HG.out, HW.out, rfl, rfl, HL.out, Nat.le_trans hn0W hgm⟩
        have HBR : Hid (Below w0.heap.size w0 wr) := HBC.out.grown HGR.out HBC.out.size (fun k hk => by cases hk; omega)
        have HWE : Hid (WE wr (schV g ws (shrB G.rules) (finalF G.net.final) gm bg ba) gb bo bf) := ⟨HSB.out, (HSF.out.cells HGC.out (by decide)).trans HGC.out, (HSF.out.cells HAC.out (by decide)).trans HAC.out⟩
        have HWS : Hid (WS w0 G wl gm bo bf st wr) := ⟨HBR.out, HSF.out.sta HSC.out, HSF.out.tr HTM.out⟩
        have hcall := walk_any w0 (schV g ws (shrB G.rules) (finalF G.net.final) gm bg ba) G wl gb bo bf S HSE.out HSS.out 4 (.slice none 0 0) (.slice none 0 0) [] 1 [] st wr rfl (by have := Nat.pow_le_pow_right (n := 2) (by decide) hS1; omega) (World.ownsRow_nil _ _ _ _) (World.ownsRow_nil _ _ _ _) (by simp [basesL]) (fun y hy => by cases hy) (by simp) HWE.out HWS.out
        have HGW : Hid (Gw w0.heap.size w wr) := by
          refine ⟨((HBO.out.mono hn0).grown HGR.out (by have := HBO.out.size; omega) (fun k hk => by cases hk; omega)), fun k cs t m h1 _ _ _ => ?_⟩
          have hk := (Array.getElem?_eq_some_iff.1 h1).1
          exact (HGR.out.block k (by have := HBO.out.size; omega) (fun e => by cases e; omega)).trans ((HBO.out.block k hk).trans h1)
        obtain ⟨r, hr⟩ : ∃ r, foldE addF st (hits G wl 4 [] 1 []) = r := ⟨_, rfl⟩
        have HRR := Lib.hid hr
        rw [hr] at hcall
        have HC := Lib.hid hcall
        clear hcall hr
        go_wp2_with fail
        refine HC.out.mono ?_
        rintro e w9 ⟨rfl, hs9, hg9⟩
        have HS9 := Lib.hid hs9.st
        have HG9 : Hid (Gw w0.heap.size w w9) := HGW.out.trans hg9
        clear hs9 hg9 HC
        go_wp2_with fail
        refine bodyPost_end (v := .tuple #[]) ?_ rfl ?_
        · simp [results, Tryz.results55]
        exact ⟨rfl, by rw [HRR.out]; exact HS9.out, HG9.out⟩
end Go.Proofs.YtiopgbbggeimaaaGreat
