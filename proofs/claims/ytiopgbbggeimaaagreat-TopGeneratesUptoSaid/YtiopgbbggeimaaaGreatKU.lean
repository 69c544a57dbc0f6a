/-
  The reference of surface forms: Classes and Base.
-/
import Derived.Test.YtiopgbbggeimaaaGreatKT
namespace Go.Proofs.YtiopgbbggeimaaaGreat
open Go.ChangeShapes Go.WideShapes Go.ChangeAt Go.RowKit
set_option maxHeartbeats 16000000 in
set_option maxRecDepth 100000 in
theorem rclasses_any (g : GV) (G : PLang) (v : Value) (a : List PPt) (w : World) (hg : DpG w g G) (ha : RdPt w v a) (hn : a.length ≤ 1000) (hlx : LxB G.lex) :
    Calls Tryz.prog 28 #[.agg #[.slice g.i.A g.i.n g.i.c, .string g.on, .slice g.u.A g.u.n g.u.c, .slice g.l.A g.l.n g.l.c, .slice g.r.A g.r.n g.r.c, .int .i64 g.q, .slice g.s.A g.s.n g.s.c, .slice g.f.A g.f.n g.f.c, .slice g.x.A g.x.n g.x.c], .agg #[v]] w fun e' w' => (∃ v', e' = .returned v' ∧ RdI w' v' (clsA G.lex a)) ∧ Below w.heap.size w w' := by
  have HG := Lib.hid hg
  obtain ⟨A, n, c, rfl, _, hc63, HN, HR⟩ := ha.op
  have HAN := Lib.hid hn
  have HLX := Lib.hid hlx
  clear hg hn ha hlx
  go_enter Tryz.func28, Tryz.ntmps28
  go_upto_region 1 with (fail)
  generalize hW : World.alloc (World.alloc w _) _ = W
  have HBW : Hid (Below w.heap.size w W) := by rw [← hW]; exact bchain (al_below _ _) (al_below _ _)
  have HQ : Hid (LgBlk W w.heap.size g) := by rw [← hW]; exact LgBlk.below (heap_alloc_new w _) (al_below _ _)
  have HP : Hid (AnBlk W (w.heap.size + 1) (.slice A n c)) := by
    have h := heap_alloc_new (w.alloc (.cells #[.slice g.i.A g.i.n g.i.c, .string g.on, .slice g.u.A g.u.n g.u.c, .slice g.l.A g.l.n g.l.c, .slice g.r.A g.r.n g.r.c, .int .i64 g.q, .slice g.s.A g.s.n g.s.c, .slice g.f.A g.f.n g.f.c, .slice g.x.A g.x.n g.x.c] 36)) (.cells #[.slice A n c] 39)
    rw [World.size_alloc] at h
    rw [← hW]; exact h
  clear hW
  go_wp2_with fail
  go_loopw [5, 6] (fun v5 v6 wr => ∃ k : Nat, k ≤ n ∧ v6 = .int .i64 k ∧ Hid (OwnI wr W.heap.size v5 (clsA G.lex (a.take k))) ∧ Hid (Below W.heap.size W wr)) (fun _ v6 _ => n - (intOf v6).toNat)
  case atStart => exact ⟨0, Nat.zero_le _, rfl, World.ownsRow_nil _ _ _ _, Below.refl _ _⟩
  case round =>
    obtain ⟨k, hk, rfl, HO, HBR⟩ := hrel
    obtain ⟨Ao, no, co, rfl, _, _, HNO, _⟩ := HO.out.rd.op
    have pc := (HP.out.below HBR.out).cell
    by_cases hlt : k < n
    · obtain ⟨b, off, p, hA, hb, hd, c0, c1, c2⟩ := (HR.out k hlt).below (bchain HBW.out HBR.out)
      have HTK := Lib.hid (take_snoc hd.out)
      have hk0 : (0 : Int) ≤ (k : Int) := by omega
      subst hA
      have hno : no ≤ 1000000 := by
        have h1 := clsA_len G.lex (a.take k)
        rw [HNO.out, List.length_take] at h1
        have := HAN.out
        have := HN.out
        omega
      obtain ⟨L, x, pe, ok, hL, hgv, hdp, hal, hok⟩ := get_two (HG.out.below (bchain HBW.out HBR.out)).x p.e HLX.out.alts
      have HOK := Lib.hid hok
      have HL := Lib.hid hL
      have HGV := Lib.hid hgv
      have HD := Lib.hid hdp
      have HAL := Lib.hid hal
      clear hok hL hgv hdp hal
      go_upto_region 5 with (fail)
      clear pc
      go_cut [7, 8] (fun s7 s8 wx => ∃ gy, s7 = .pointer (some ⟨gy, 0, none⟩) ∧ s8 = .bool ok ∧ Hid (EBlk wx gy x) ∧ Hid (Below wr.heap.size wr wx))
      case first =>
        refine wp_region_steps 15 14 [0, 1, 2, 3, 4, 5, 6, 7, 8, 9, 10, 11, 12, 13] [] (fun w' => Below wr.heap.size wr w') (by kernel_rfl) (by kernel_rfl) ?_
        rintro D hD
        have HSD : Hid (Below wr.heap.size wr D) := by rw [hD]; exact (Below.refl _ _).drew
        clear hD
        have HS : Hid (∀ w' : World, Below wr.heap.size wr w' → w'.cell? ⟨w.heap.size, 8, none⟩ = some (.slice g.x.A g.x.n g.x.c) ∧ w'.cell? ⟨w.heap.size + 1, 0, none⟩ = some (.slice (some ⟨b, off, none⟩) n c) ∧ w'.cell? ⟨b, off + k * 3, none⟩ = some (.int .i64 p.e)) :=
          fun w' h => ⟨(HQ.out.below (bchain HBR.out h)).facts.2.2.2.2.2.2.2.2.1, (HP.out.below (bchain HBR.out h)).cell, (h.cell (p := ⟨b, off + k * 3, none⟩) hb).trans c0⟩
        clear c0 c1 c2
        (refine wpE_take 0 (v := ?_) (by kernel_rfl) rfl rfl (by exact HSD.out) (fun w' hS => ?_) ?_; rotate_left; (focus ((try obtain ⟨s0, s1, s2⟩ := HS.out _ (hS rfl)); clear hS; go_simp; try with_reducible rfl; done)); (try simp only [Act.put, List.setIfInBounds_toArray, List.set_cons_zero, List.set_cons_succ]))
        (refine wpE_take 1 (v := ?_) (by kernel_rfl) rfl rfl (by exact HSD.out) (fun w' hS => ?_) ?_; rotate_left; (focus ((try obtain ⟨s0, s1, s2⟩ := HS.out _ (hS rfl)); clear hS; go_simp; try with_reducible rfl; done)); (try simp only [Act.put, List.setIfInBounds_toArray, List.set_cons_zero, List.set_cons_succ]))
        (refine wpE_take 2 (v := ?_) (by kernel_rfl) rfl rfl (by exact HSD.out) (fun w' hS => ?_) ?_; rotate_left; (focus ((try obtain ⟨s0, s1, s2⟩ := HS.out _ (hS rfl)); clear hS; go_simp; try with_reducible rfl; done)); (try simp only [Act.put, List.setIfInBounds_toArray, List.set_cons_zero, List.set_cons_succ]))
        (refine wpE_take 3 (v := ?_) (by kernel_rfl) rfl rfl (by exact HSD.out) (fun w' hS => ?_) ?_; rotate_left; (focus ((try obtain ⟨s0, s1, s2⟩ := HS.out _ (hS rfl)); clear hS; go_simp; try with_reducible rfl; done)); (try simp only [Act.put, List.setIfInBounds_toArray, List.set_cons_zero, List.set_cons_succ]))
        (refine wpE_take 4 (v := ?_) (by kernel_rfl) rfl rfl (by exact HSD.out) (fun w' hS => ?_) ?_; rotate_left; (focus ((try obtain ⟨s0, s1, s2⟩ := HS.out _ (hS rfl)); clear hS; go_simp; try with_reducible rfl; done)); (try simp only [Act.put, List.setIfInBounds_toArray, List.set_cons_zero, List.set_cons_succ]))
        (refine wpE_take 5 (v := ?_) (by kernel_rfl) rfl rfl (by exact HSD.out) (fun w' hS => ?_) ?_; rotate_left; (focus ((try obtain ⟨s0, s1, s2⟩ := HS.out _ (hS rfl)); clear hS; go_simp; try with_reducible rfl; done)); (try simp only [Act.put, List.setIfInBounds_toArray, List.set_cons_zero, List.set_cons_succ]))
        (refine wpE_take 6 (v := ?_) (by kernel_rfl) rfl rfl (by exact HSD.out) (fun w' hS => ?_) ?_; rotate_left; (focus ((try obtain ⟨s0, s1, s2⟩ := HS.out _ (hS rfl)); clear hS; go_simp; try with_reducible rfl; done)); (try simp only [Act.put, List.setIfInBounds_toArray, List.set_cons_zero, List.set_cons_succ]))
        (refine wpE_take 7 (v := ?_) (by kernel_rfl) rfl rfl (by exact HSD.out) (fun w' hS => ?_) ?_; rotate_left; (focus ((try obtain ⟨s0, s1, s2⟩ := HS.out _ (hS rfl)); clear hS; go_simp; try with_reducible rfl; done)); (try simp only [Act.put, List.setIfInBounds_toArray, List.set_cons_zero, List.set_cons_succ]))
        refine wpE_br [8, 12] (by kernel_rfl) ?_
        refine AllE.cons rfl rfl (fun K hK => ?_) (AllE.cons rfl rfl (fun K hK => ?_) AllE.nil)
        · go_simp
          refine (rget_any _ L p.e _ (HL.out.below HSD.out)).mono ?_
          rintro e' Y1 ⟨rfl, hb1⟩
          rw [HGV.out]
          have HS1 := Lib.hid (bchain HSD.out hb1)
          refine hK.out _ _ (bchain HSD.out hb1) ?_
          clear hK K hb1
          (try simp only [Act.put, List.setIfInBounds_toArray, List.set_cons_zero, List.set_cons_succ])
          (refine wpE_take 9 (v := ?_) (by kernel_rfl) rfl rfl (by exact HS1.out) (fun w' hS => ?_) ?_; rotate_left; (focus ((try obtain s0 := HS.out _ (hS rfl)); clear hS; go_simp; try with_reducible rfl; done)); (try simp only [Act.put, List.setIfInBounds_toArray, List.set_cons_zero, List.set_cons_succ]))
          (refine wpE_take 10 (v := ?_) (by kernel_rfl) rfl rfl (by exact HS1.out) (fun w' hS => ?_) ?_; rotate_left; (focus ((try obtain s0 := HS.out _ (hS rfl)); clear hS; go_simp; try with_reducible rfl; done)); (try simp only [Act.put, List.setIfInBounds_toArray, List.set_cons_zero, List.set_cons_succ]))
          (refine wpE_take 11 (v := ?_) (by kernel_rfl) rfl rfl (by exact HS1.out) (fun w' hS => ?_) ?_; rotate_left; (focus ((try obtain s0 := HS.out _ (hS rfl)); clear hS; go_simp; try with_reducible rfl; done)); (try simp only [Act.put, List.setIfInBounds_toArray, List.set_cons_zero, List.set_cons_succ]))
          refine wpE_br [12] (by kernel_rfl) ?_
          refine AllE.cons rfl rfl (fun K hK => ?_) AllE.nil
          have hs1 : wr.heap.size ≤ Y1.heap.size := HS1.out.size
          go_simp
          refine hK.out _ _ (HS1.out.alloc HS1.out.size _) ?_
          clear hK K
          (try simp only [Act.put, List.setIfInBounds_toArray, List.set_cons_zero, List.set_cons_succ])
          generalize hX : World.alloc Y1 _ = Y2
          have HS2 : Hid (Below wr.heap.size wr Y2) := by rw [← hX]; exact HS1.out.alloc HS1.out.size _
          have HZ2 : Hid (EBlk Y2 Y1.heap.size evz) := by rw [← hX]; exact heap_alloc_new Y1 _
          clear hX
          generalize Y1.heap.size = gy at HZ2 hs1 ⊢
          refine wpE_br [13] (by kernel_rfl) ?_
          refine AllE.cons rfl rfl (fun K hK => ?_) AllE.nil
          have hf := HZ2.out.free
          obtain ⟨x0, x1, x2, x3, x4, x5, x6, x7, xl⟩ := HZ2.out.facts
          go_simp
          generalize hX : World.setCell _ _ _ = Y
          have hX' : put8 Y2 gy x = Y := by rw [← hX]; simp only [put8]
          have HX : Hid (EBlk Y gy x) := by rw [Hid, ← hX']; exact HZ2.out.put x
          have HXB : Hid (Below wr.heap.size wr Y) := by rw [Hid, ← hX']; exact put8_below HS2.out hs1 _
          refine hK.out _ _ HXB.out ?_
          clear hX hX' hf x0 x1 x2 x3 x4 x5 x6 x7 xl hK K
          (try simp only [Act.put, List.setIfInBounds_toArray, List.set_cons_zero, List.set_cons_succ])
          refine wpE_rest 14 (by kernel_rfl) ?_
          simp only [List.drop_succ_cons, List.drop_zero]
          go_wp2_with fail
          refine NoPanic.normal ?_
          go_wp2_with fail
          go_meet
          exact ⟨gy, rfl, rfl, HX.out, HXB.out⟩
        · go_simp
          have hs1 : wr.heap.size ≤ D.heap.size := HSD.out.size
          refine hK.out _ _ (HSD.out.alloc HSD.out.size _) ?_
          clear hK K
          (try simp only [Act.put, List.setIfInBounds_toArray, List.set_cons_zero, List.set_cons_succ])
          generalize hX : World.alloc D _ = Y1
          have HS1 : Hid (Below wr.heap.size wr Y1) := by rw [← hX]; exact HSD.out.alloc HSD.out.size _
          have HZ1 : Hid (EBlk Y1 D.heap.size evz) := by rw [← hX]; exact heap_alloc_new D _
          clear hX
          generalize D.heap.size = gy at HZ1 hs1 ⊢
          refine wpE_br [8] (by kernel_rfl) ?_
          refine AllE.cons rfl rfl (fun K hK => ?_) AllE.nil
          go_simp
          refine (rget_any _ L p.e _ (HL.out.below HS1.out)).mono ?_
          rintro e' Y2 ⟨rfl, hb1⟩
          rw [HGV.out]
          have HS2 := Lib.hid (bchain HS1.out hb1)
          have HZ2 := Lib.hid (HZ1.out.below hb1)
          refine hK.out _ _ (bchain HS1.out hb1) ?_
          clear hK K hb1
          (try simp only [Act.put, List.setIfInBounds_toArray, List.set_cons_zero, List.set_cons_succ])
          (refine wpE_take 9 (v := ?_) (by kernel_rfl) rfl rfl (by exact HS2.out) (fun w' hS => ?_) ?_; rotate_left; (focus ((try obtain s0 := HS.out _ (hS rfl)); clear hS; go_simp; try with_reducible rfl; done)); (try simp only [Act.put, List.setIfInBounds_toArray, List.set_cons_zero, List.set_cons_succ]))
          (refine wpE_take 10 (v := ?_) (by kernel_rfl) rfl rfl (by exact HS2.out) (fun w' hS => ?_) ?_; rotate_left; (focus ((try obtain s0 := HS.out _ (hS rfl)); clear hS; go_simp; try with_reducible rfl; done)); (try simp only [Act.put, List.setIfInBounds_toArray, List.set_cons_zero, List.set_cons_succ]))
          (refine wpE_take 11 (v := ?_) (by kernel_rfl) rfl rfl (by exact HS2.out) (fun w' hS => ?_) ?_; rotate_left; (focus ((try obtain s0 := HS.out _ (hS rfl)); clear hS; go_simp; try with_reducible rfl; done)); (try simp only [Act.put, List.setIfInBounds_toArray, List.set_cons_zero, List.set_cons_succ]))
          refine wpE_br [13] (by kernel_rfl) ?_
          refine AllE.cons rfl rfl (fun K hK => ?_) AllE.nil
          have hf := HZ2.out.free
          obtain ⟨x0, x1, x2, x3, x4, x5, x6, x7, xl⟩ := HZ2.out.facts
          go_simp
          generalize hX : World.setCell _ _ _ = Y
          have hX' : put8 Y2 gy x = Y := by rw [← hX]; simp only [put8]
          have HX : Hid (EBlk Y gy x) := by rw [Hid, ← hX']; exact HZ2.out.put x
          have HXB : Hid (Below wr.heap.size wr Y) := by rw [Hid, ← hX']; exact put8_below HS2.out hs1 _
          refine hK.out _ _ HXB.out ?_
          clear hX hX' hf x0 x1 x2 x3 x4 x5 x6 x7 xl hK K
          (try simp only [Act.put, List.setIfInBounds_toArray, List.set_cons_zero, List.set_cons_succ])
          refine wpE_rest 14 (by kernel_rfl) ?_
          simp only [List.drop_succ_cons, List.drop_zero]
          go_wp2_with fail
          refine NoPanic.normal ?_
          go_wp2_with fail
          go_meet
          exact ⟨gy, rfl, rfl, HX.out, HXB.out⟩
      case rest =>
        obtain ⟨gy, rfl, rfl, HY, hb1⟩ := hcut
        have HB1 := Lib.hid (bchain HBR.out hb1.out)
        have HB1' := Lib.hid hb1.out
        have HO1 := Lib.hid (own_below HO.out hb1.out)
        have hbw : b < wc.heap.size := by have := hb1.out.size; omega
        have d1 := (hb1.out.cell (p := ⟨b, off + k * 3 + 1, none⟩) hb).trans c1
        have hbs : W.heap.size ≤ wc.heap.size := HB1.out.size
        clear hb1 c0 c1 c2
        go_upto_region 6 with (fail)
        refine wp_region_mix 9 [0, 1, 2, 3, 4, 5, 6, 7, 8] [] [(true, 0), (true, 1), (true, 2), (true, 3), (true, 4), (true, 5), (true, 6), (true, 7), (true, 8), (false, 9), (false, 10)] (fun w' => Below wc.heap.size wc w') (by kernel_rfl) (by kernel_rfl) ?_
        rintro D hD
        have HSD : Hid (Below wc.heap.size wc D) := by rw [hD]; exact (Below.refl _ _).drew
        clear hD
        refine ⟨HSD.out, ?_⟩
        have HPC := Lib.hid (HP.out.below HB1.out)
        have HS : Hid (∀ w' : World, Below wc.heap.size wc w' → w'.cell? ⟨w.heap.size + 1, 0, none⟩ = some (.slice (some ⟨b, off, none⟩) n c) ∧ w'.cell? ⟨b, off + k * 3 + 1, none⟩ = some (.int .i64 p.a) ∧ (w'.cell? ⟨gy, 0, none⟩ = some (.int .i64 x.id) ∧ w'.cell? ⟨gy, 1, none⟩ = some (.slice x.f.A x.f.n x.f.c) ∧ w'.cell? ⟨gy, 2, none⟩ = some (.int .i64 x.cls) ∧ w'.cell? ⟨gy, 3, none⟩ = some (.slice x.a.A x.a.n x.a.c) ∧
            w'.cell? ⟨gy, 4, none⟩ = some (.int .i64 x.main) ∧ w'.cell? ⟨gy, 5, none⟩ = some (.slice x.s.A x.s.n x.s.c) ∧ w'.cell? ⟨gy, 6, none⟩ = some (.slice x.l.A x.l.n x.l.c) ∧ w'.cell? ⟨gy, 7, none⟩ = some (.slice x.r.A x.r.n x.r.c) ∧ gy < w'.heap.size)) :=
          fun w' h => ⟨(HPC.out.below h).cell, (h.cell (p := ⟨b, off + k * 3 + 1, none⟩) hbw).trans d1, (HY.out.below h).facts⟩
        clear d1
        cases ok
        · have HS2 : Hid (clsA G.lex (a.take (k + 1)) = clsA G.lex (a.take k)) := by
            rcases HOK.out with h | h
            · rw [Hid, HTK.out, clsA_snoc, clsOf_none (formAt_none h.2), List.append_nil]
            · exact absurd h.1 (by decide)
          iterate 2 (refine wpMix_q (v := ?_) rfl rfl (fun w' hS => ?_) ?_; rotate_left; (focus ((try obtain _ := HS.out _ (hS rfl)); clear hS; go_simp; try with_reducible rfl; done)); (try simp only [Act.put, List.setIfInBounds_toArray, List.set_cons_zero, List.set_cons_succ]))
          iterate 7 (refine wpMix_qskip rfl rfl ?_; (try simp only [Act.put, List.setIfInBounds_toArray, List.set_cons_zero, List.set_cons_succ]))
          (refine wpMix_eskip rfl rfl (HSD).out ?_; (try simp only [Act.put, List.setIfInBounds_toArray, List.set_cons_zero, List.set_cons_succ]))
          (refine wpMix_e rfl rfl (fun K hK => ?_); go_simp; refine hK.out _ _ (fun h => absurd h (by decide)) ?_; clear hK K; (try simp only [Act.put, List.setIfInBounds_toArray, List.set_cons_zero, List.set_cons_succ]))
          refine wpMix_nil ?_
          refine NoPanic.normal ?_
          clear HS HOK
          go_wp2_with fail
          go_roundw
          case rel => exact ⟨k + 1, by omega, by go_num, by rw [Hid, HS2.out]; exact own_below HO1.out HSD.out, bchain HB1.out HSD.out⟩
          case measure => simp [intOf]; omega
        have HPS : Hid (getP G.lex p.e = some pe) := by
          rcases HOK.out with h | h
          · exact absurd h.1 (by decide)
          · exact h.2
        have HFA := Lib.hid (formAt_eq HPS.out)
        clear HOK
        iterate 9 (refine wpMix_q (v := ?_) rfl rfl (fun w' hS => ?_) ?_; rotate_left; (focus ((try obtain ⟨s0, s1, t0, t1, t2, t3, t4, t5, t6, t7, t8⟩ := HS.out _ (hS rfl)); clear hS; go_simp; try with_reducible rfl; done)); (try simp only [Act.put, List.setIfInBounds_toArray, List.set_cons_zero, List.set_cons_succ]))
        refine wpMix_e rfl rfl (fun K hK => ?_)
        go_simp
        refine (rform_any x pe p.a _ (HD.out.below (bchain HB1'.out HSD.out)) HAL.out).mono ?_
        rintro e' w2 ⟨rfl, hb2⟩
        have HB2 := Lib.hid (bchain HSD.out hb2)
        refine hK.out _ _ (fun h => absurd h (by decide)) ?_
        clear hK K hb2
        (try simp only [Act.put, List.setIfInBounds_toArray, List.set_cons_zero, List.set_cons_succ])
        (refine wpMix_e rfl rfl (fun K hK => ?_); go_simp; refine hK.out _ _ (fun h => absurd h (by decide)) ?_; clear hK K; (try simp only [Act.put, List.setIfInBounds_toArray, List.set_cons_zero, List.set_cons_succ]))
        refine wpMix_nil ?_
        refine NoPanic.normal ?_
        have HO2 := Lib.hid (own_below HO1.out HB2.out)
        have HBB := Lib.hid (bchain HB1.out HB2.out)
        have HD2 := Lib.hid (HD.out.below (bchain HB1'.out HB2.out))
        have HY2 := Lib.hid (HY.out.below HB2.out)
        have hbs2 : W.heap.size ≤ w2.heap.size := HBB.out.size
        cases hal : altB pe p.a
        · have HS2 : Hid (clsA G.lex (a.take (k + 1)) = clsA G.lex (a.take k)) := by rw [Hid, HTK.out, clsA_snoc, clsOf_none (by rw [HFA.out, hal]; rfl), List.append_nil]
          clear HS hal
          go_wp2_with fail
          go_roundw
          case rel => exact ⟨k + 1, by omega, by go_num, by rw [Hid, HS2.out]; exact HO2.out, HBB.out⟩
          case measure => simp [intOf]; omega
        have HFS : Hid (formAt G.lex p = some (pe, (formsP pe).getD p.a.toNat [])) := by rw [Hid, HFA.out, hal]; rfl
        have HALB := Lib.hid hal
        clear hal
        obtain ⟨y0, y1, y2, y3, y4, y5, y6, y7, yl⟩ := HY2.out.facts
        clear HS
        go_wp2_with (at_builtin; refine wpList_app_int rfl (.tmp 39) (.tmp 42) rfl W.heap.size (.slice Ao no co) (clsA G.lex (a.take k)) rfl HO2.out x.cls no HNO hno hbs2 rfl ?_; intro g' cap' w5 ho hge hg; have HO5 : Hid (OwnI w5 W.heap.size (.slice (some ⟨g', 0, none⟩) (no + 1) cap') (clsA G.lex (a.take k) ++ [pe.cls])) := (by rw [← HD2.out.cls]; exact ho); have HB5 := Lib.hid (below_grown HBB.out (Nat.le_refl _) HO2.out hg); clear ho hg)
        go_roundw
        case rel => exact ⟨k + 1, by omega, by go_num, by rw [Hid, HTK.out, clsA_snoc, clsOf_some HFS.out]; exact HO5.out, HB5.out⟩
        case measure => simp [intOf]; omega
    · obtain rfl : n = k := by omega
      have HTF : Hid (a.take n = a) := by rw [Hid, ← HN.out, List.take_length]
      go_wp2_with fail
      go_ret
      refine ⟨⟨_, rfl, ?_⟩, bchain HBW.out HBR.out⟩
      have h := HO.out.rd
      rw [HTF.out] at h
      exact h
set_option maxHeartbeats 16000000 in
set_option maxRecDepth 100000 in
theorem rbase_any (g : GV) (G : PLang) (v : Value) (a : List PPt) (w : World) (hg : DpG w g G) (ha : RdPt w v a) (hn : a.length ≤ 1000) (hlx : LxB G.lex) :
    Calls Tryz.prog 29 #[.agg #[.slice g.i.A g.i.n g.i.c, .string g.on, .slice g.u.A g.u.n g.u.c, .slice g.l.A g.l.n g.l.c, .slice g.r.A g.r.n g.r.c, .int .i64 g.q, .slice g.s.A g.s.n g.s.c, .slice g.f.A g.f.n g.f.c, .slice g.x.A g.x.n g.x.c], .agg #[v]] w fun e' w' => (∃ v', e' = .returned v' ∧ RdI w' v' (baseA G.lex a)) ∧ Below w.heap.size w w' := by
  have HG := Lib.hid hg
  obtain ⟨A, n, c, rfl, _, hc63, HN, HR⟩ := ha.op
  have HAN := Lib.hid hn
  have HLX := Lib.hid hlx
  clear hg hn ha hlx
  go_enter Tryz.func29, Tryz.ntmps29
  go_upto_region 1 with (fail)
  generalize hW : World.alloc (World.alloc w _) _ = W
  have HBW : Hid (Below w.heap.size w W) := by rw [← hW]; exact bchain (al_below _ _) (al_below _ _)
  have HQ : Hid (LgBlk W w.heap.size g) := by rw [← hW]; exact LgBlk.below (heap_alloc_new w _) (al_below _ _)
  have HP : Hid (AnBlk W (w.heap.size + 1) (.slice A n c)) := by
    have h := heap_alloc_new (w.alloc (.cells #[.slice g.i.A g.i.n g.i.c, .string g.on, .slice g.u.A g.u.n g.u.c, .slice g.l.A g.l.n g.l.c, .slice g.r.A g.r.n g.r.c, .int .i64 g.q, .slice g.s.A g.s.n g.s.c, .slice g.f.A g.f.n g.f.c, .slice g.x.A g.x.n g.x.c] 36)) (.cells #[.slice A n c] 39)
    rw [World.size_alloc] at h
    rw [← hW]; exact h
  clear hW
  go_wp2_with fail
  go_loopw [5, 6] (fun v5 v6 wr => ∃ k : Nat, k ≤ n ∧ v6 = .int .i64 k ∧ Hid (OwnI wr W.heap.size v5 (baseA G.lex (a.take k))) ∧ Hid (Below W.heap.size W wr)) (fun _ v6 _ => n - (intOf v6).toNat)
  case atStart => exact ⟨0, Nat.zero_le _, rfl, World.ownsRow_nil _ _ _ _, Below.refl _ _⟩
  case round =>
    obtain ⟨k, hk, rfl, HO, HBR⟩ := hrel
    obtain ⟨Ao, no, co, rfl, _, _, HNO, _⟩ := HO.out.rd.op
    have pc := (HP.out.below HBR.out).cell
    by_cases hlt : k < n
    · obtain ⟨b, off, p, hA, hb, hd, c0, c1, c2⟩ := (HR.out k hlt).below (bchain HBW.out HBR.out)
      have HTK := Lib.hid (take_snoc hd.out)
      have hk0 : (0 : Int) ≤ (k : Int) := by omega
      subst hA
      have hno : no ≤ 1000000 := by
        have h1 := baseA_len HLX.out (a.take k)
        rw [HNO.out, List.length_take] at h1
        have := HAN.out
        have := HN.out
        omega
      obtain ⟨L, x, pe, ok, hL, hgv, hdp, hal, hok⟩ := get_two (HG.out.below (bchain HBW.out HBR.out)).x p.e HLX.out.alts
      have HOK := Lib.hid hok
      have HL := Lib.hid hL
      have HGV := Lib.hid hgv
      have HD := Lib.hid hdp
      have HAL := Lib.hid hal
      clear hok hL hgv hdp hal
      go_upto_region 5 with (fail)
      clear pc
      go_cut [7, 8] (fun s7 s8 wx => ∃ gy, s7 = .pointer (some ⟨gy, 0, none⟩) ∧ s8 = .bool ok ∧ Hid (EBlk wx gy x) ∧ Hid (Below wr.heap.size wr wx))
      case first =>
        refine wp_region_steps 15 14 [0, 1, 2, 3, 4, 5, 6, 7, 8, 9, 10, 11, 12, 13] [] (fun w' => Below wr.heap.size wr w') (by kernel_rfl) (by kernel_rfl) ?_
        rintro D hD
        have HSD : Hid (Below wr.heap.size wr D) := by rw [hD]; exact (Below.refl _ _).drew
        clear hD
        have HS : Hid (∀ w' : World, Below wr.heap.size wr w' → w'.cell? ⟨w.heap.size, 8, none⟩ = some (.slice g.x.A g.x.n g.x.c) ∧ w'.cell? ⟨w.heap.size + 1, 0, none⟩ = some (.slice (some ⟨b, off, none⟩) n c) ∧ w'.cell? ⟨b, off + k * 3, none⟩ = some (.int .i64 p.e)) :=
          fun w' h => ⟨(HQ.out.below (bchain HBR.out h)).facts.2.2.2.2.2.2.2.2.1, (HP.out.below (bchain HBR.out h)).cell, (h.cell (p := ⟨b, off + k * 3, none⟩) hb).trans c0⟩
        clear c0 c1 c2
        (refine wpE_take 0 (v := ?_) (by kernel_rfl) rfl rfl (by exact HSD.out) (fun w' hS => ?_) ?_; rotate_left; (focus ((try obtain ⟨s0, s1, s2⟩ := HS.out _ (hS rfl)); clear hS; go_simp; try with_reducible rfl; done)); (try simp only [Act.put, List.setIfInBounds_toArray, List.set_cons_zero, List.set_cons_succ]))
        (refine wpE_take 1 (v := ?_) (by kernel_rfl) rfl rfl (by exact HSD.out) (fun w' hS => ?_) ?_; rotate_left; (focus ((try obtain ⟨s0, s1, s2⟩ := HS.out _ (hS rfl)); clear hS; go_simp; try with_reducible rfl; done)); (try simp only [Act.put, List.setIfInBounds_toArray, List.set_cons_zero, List.set_cons_succ]))
        (refine wpE_take 2 (v := ?_) (by kernel_rfl) rfl rfl (by exact HSD.out) (fun w' hS => ?_) ?_; rotate_left; (focus ((try obtain ⟨s0, s1, s2⟩ := HS.out _ (hS rfl)); clear hS; go_simp; try with_reducible rfl; done)); (try simp only [Act.put, List.setIfInBounds_toArray, List.set_cons_zero, List.set_cons_succ]))
        (refine wpE_take 3 (v := ?_) (by kernel_rfl) rfl rfl (by exact HSD.out) (fun w' hS => ?_) ?_; rotate_left; (focus ((try obtain ⟨s0, s1, s2⟩ := HS.out _ (hS rfl)); clear hS; go_simp; try with_reducible rfl; done)); (try simp only [Act.put, List.setIfInBounds_toArray, List.set_cons_zero, List.set_cons_succ]))
        (refine wpE_take 4 (v := ?_) (by kernel_rfl) rfl rfl (by exact HSD.out) (fun w' hS => ?_) ?_; rotate_left; (focus ((try obtain ⟨s0, s1, s2⟩ := HS.out _ (hS rfl)); clear hS; go_simp; try with_reducible rfl; done)); (try simp only [Act.put, List.setIfInBounds_toArray, List.set_cons_zero, List.set_cons_succ]))
        (refine wpE_take 5 (v := ?_) (by kernel_rfl) rfl rfl (by exact HSD.out) (fun w' hS => ?_) ?_; rotate_left; (focus ((try obtain ⟨s0, s1, s2⟩ := HS.out _ (hS rfl)); clear hS; go_simp; try with_reducible rfl; done)); (try simp only [Act.put, List.setIfInBounds_toArray, List.set_cons_zero, List.set_cons_succ]))
        (refine wpE_take 6 (v := ?_) (by kernel_rfl) rfl rfl (by exact HSD.out) (fun w' hS => ?_) ?_; rotate_left; (focus ((try obtain ⟨s0, s1, s2⟩ := HS.out _ (hS rfl)); clear hS; go_simp; try with_reducible rfl; done)); (try simp only [Act.put, List.setIfInBounds_toArray, List.set_cons_zero, List.set_cons_succ]))
        (refine wpE_take 7 (v := ?_) (by kernel_rfl) rfl rfl (by exact HSD.out) (fun w' hS => ?_) ?_; rotate_left; (focus ((try obtain ⟨s0, s1, s2⟩ := HS.out _ (hS rfl)); clear hS; go_simp; try with_reducible rfl; done)); (try simp only [Act.put, List.setIfInBounds_toArray, List.set_cons_zero, List.set_cons_succ]))
        refine wpE_br [8, 12] (by kernel_rfl) ?_
        refine AllE.cons rfl rfl (fun K hK => ?_) (AllE.cons rfl rfl (fun K hK => ?_) AllE.nil)
        · go_simp
          refine (rget_any _ L p.e _ (HL.out.below HSD.out)).mono ?_
          rintro e' Y1 ⟨rfl, hb1⟩
          rw [HGV.out]
          have HS1 := Lib.hid (bchain HSD.out hb1)
          refine hK.out _ _ (bchain HSD.out hb1) ?_
          clear hK K hb1
          (try simp only [Act.put, List.setIfInBounds_toArray, List.set_cons_zero, List.set_cons_succ])
          (refine wpE_take 9 (v := ?_) (by kernel_rfl) rfl rfl (by exact HS1.out) (fun w' hS => ?_) ?_; rotate_left; (focus ((try obtain s0 := HS.out _ (hS rfl)); clear hS; go_simp; try with_reducible rfl; done)); (try simp only [Act.put, List.setIfInBounds_toArray, List.set_cons_zero, List.set_cons_succ]))
          (refine wpE_take 10 (v := ?_) (by kernel_rfl) rfl rfl (by exact HS1.out) (fun w' hS => ?_) ?_; rotate_left; (focus ((try obtain s0 := HS.out _ (hS rfl)); clear hS; go_simp; try with_reducible rfl; done)); (try simp only [Act.put, List.setIfInBounds_toArray, List.set_cons_zero, List.set_cons_succ]))
          (refine wpE_take 11 (v := ?_) (by kernel_rfl) rfl rfl (by exact HS1.out) (fun w' hS => ?_) ?_; rotate_left; (focus ((try obtain s0 := HS.out _ (hS rfl)); clear hS; go_simp; try with_reducible rfl; done)); (try simp only [Act.put, List.setIfInBounds_toArray, List.set_cons_zero, List.set_cons_succ]))
          refine wpE_br [12] (by kernel_rfl) ?_
          refine AllE.cons rfl rfl (fun K hK => ?_) AllE.nil
          have hs1 : wr.heap.size ≤ Y1.heap.size := HS1.out.size
          go_simp
          refine hK.out _ _ (HS1.out.alloc HS1.out.size _) ?_
          clear hK K
          (try simp only [Act.put, List.setIfInBounds_toArray, List.set_cons_zero, List.set_cons_succ])
          generalize hX : World.alloc Y1 _ = Y2
          have HS2 : Hid (Below wr.heap.size wr Y2) := by rw [← hX]; exact HS1.out.alloc HS1.out.size _
          have HZ2 : Hid (EBlk Y2 Y1.heap.size evz) := by rw [← hX]; exact heap_alloc_new Y1 _
          clear hX
          generalize Y1.heap.size = gy at HZ2 hs1 ⊢
          refine wpE_br [13] (by kernel_rfl) ?_
          refine AllE.cons rfl rfl (fun K hK => ?_) AllE.nil
          have hf := HZ2.out.free
          obtain ⟨x0, x1, x2, x3, x4, x5, x6, x7, xl⟩ := HZ2.out.facts
          go_simp
          generalize hX : World.setCell _ _ _ = Y
          have hX' : put8 Y2 gy x = Y := by rw [← hX]; simp only [put8]
          have HX : Hid (EBlk Y gy x) := by rw [Hid, ← hX']; exact HZ2.out.put x
          have HXB : Hid (Below wr.heap.size wr Y) := by rw [Hid, ← hX']; exact put8_below HS2.out hs1 _
          refine hK.out _ _ HXB.out ?_
          clear hX hX' hf x0 x1 x2 x3 x4 x5 x6 x7 xl hK K
          (try simp only [Act.put, List.setIfInBounds_toArray, List.set_cons_zero, List.set_cons_succ])
          refine wpE_rest 14 (by kernel_rfl) ?_
          simp only [List.drop_succ_cons, List.drop_zero]
          go_wp2_with fail
          refine NoPanic.normal ?_
          go_wp2_with fail
          go_meet
          exact ⟨gy, rfl, rfl, HX.out, HXB.out⟩
        · go_simp
          have hs1 : wr.heap.size ≤ D.heap.size := HSD.out.size
          refine hK.out _ _ (HSD.out.alloc HSD.out.size _) ?_
          clear hK K
          (try simp only [Act.put, List.setIfInBounds_toArray, List.set_cons_zero, List.set_cons_succ])
          generalize hX : World.alloc D _ = Y1
          have HS1 : Hid (Below wr.heap.size wr Y1) := by rw [← hX]; exact HSD.out.alloc HSD.out.size _
          have HZ1 : Hid (EBlk Y1 D.heap.size evz) := by rw [← hX]; exact heap_alloc_new D _
          clear hX
          generalize D.heap.size = gy at HZ1 hs1 ⊢
          refine wpE_br [8] (by kernel_rfl) ?_
          refine AllE.cons rfl rfl (fun K hK => ?_) AllE.nil
          go_simp
          refine (rget_any _ L p.e _ (HL.out.below HS1.out)).mono ?_
          rintro e' Y2 ⟨rfl, hb1⟩
          rw [HGV.out]
          have HS2 := Lib.hid (bchain HS1.out hb1)
          have HZ2 := Lib.hid (HZ1.out.below hb1)
          refine hK.out _ _ (bchain HS1.out hb1) ?_
          clear hK K hb1
          (try simp only [Act.put, List.setIfInBounds_toArray, List.set_cons_zero, List.set_cons_succ])
          (refine wpE_take 9 (v := ?_) (by kernel_rfl) rfl rfl (by exact HS2.out) (fun w' hS => ?_) ?_; rotate_left; (focus ((try obtain s0 := HS.out _ (hS rfl)); clear hS; go_simp; try with_reducible rfl; done)); (try simp only [Act.put, List.setIfInBounds_toArray, List.set_cons_zero, List.set_cons_succ]))
          (refine wpE_take 10 (v := ?_) (by kernel_rfl) rfl rfl (by exact HS2.out) (fun w' hS => ?_) ?_; rotate_left; (focus ((try obtain s0 := HS.out _ (hS rfl)); clear hS; go_simp; try with_reducible rfl; done)); (try simp only [Act.put, List.setIfInBounds_toArray, List.set_cons_zero, List.set_cons_succ]))
          (refine wpE_take 11 (v := ?_) (by kernel_rfl) rfl rfl (by exact HS2.out) (fun w' hS => ?_) ?_; rotate_left; (focus ((try obtain s0 := HS.out _ (hS rfl)); clear hS; go_simp; try with_reducible rfl; done)); (try simp only [Act.put, List.setIfInBounds_toArray, List.set_cons_zero, List.set_cons_succ]))
          refine wpE_br [13] (by kernel_rfl) ?_
          refine AllE.cons rfl rfl (fun K hK => ?_) AllE.nil
          have hf := HZ2.out.free
          obtain ⟨x0, x1, x2, x3, x4, x5, x6, x7, xl⟩ := HZ2.out.facts
          go_simp
          generalize hX : World.setCell _ _ _ = Y
          have hX' : put8 Y2 gy x = Y := by rw [← hX]; simp only [put8]
          have HX : Hid (EBlk Y gy x) := by rw [Hid, ← hX']; exact HZ2.out.put x
          have HXB : Hid (Below wr.heap.size wr Y) := by rw [Hid, ← hX']; exact put8_below HS2.out hs1 _
          refine hK.out _ _ HXB.out ?_
          clear hX hX' hf x0 x1 x2 x3 x4 x5 x6 x7 xl hK K
          (try simp only [Act.put, List.setIfInBounds_toArray, List.set_cons_zero, List.set_cons_succ])
          refine wpE_rest 14 (by kernel_rfl) ?_
          simp only [List.drop_succ_cons, List.drop_zero]
          go_wp2_with fail
          refine NoPanic.normal ?_
          go_wp2_with fail
          go_meet
          exact ⟨gy, rfl, rfl, HX.out, HXB.out⟩
      case rest =>
        obtain ⟨gy, rfl, rfl, HY, hb1⟩ := hcut
        have HB1 := Lib.hid (bchain HBR.out hb1.out)
        have HB1' := Lib.hid hb1.out
        have HO1 := Lib.hid (own_below HO.out hb1.out)
        have hbw : b < wc.heap.size := by have := hb1.out.size; omega
        have d1 := (hb1.out.cell (p := ⟨b, off + k * 3 + 1, none⟩) hb).trans c1
        have hbs : W.heap.size ≤ wc.heap.size := HB1.out.size
        clear hb1 c0 c1 c2
        go_upto_region 6 with (fail)
        refine wp_region_mix 9 [0, 1, 2, 3, 4, 5, 6, 7, 8] [] [(true, 0), (true, 1), (true, 2), (true, 3), (true, 4), (true, 5), (true, 6), (true, 7), (true, 8), (false, 9), (false, 10)] (fun w' => Below wc.heap.size wc w') (by kernel_rfl) (by kernel_rfl) ?_
        rintro D hD
        have HSD : Hid (Below wc.heap.size wc D) := by rw [hD]; exact (Below.refl _ _).drew
        clear hD
        refine ⟨HSD.out, ?_⟩
        have HPC := Lib.hid (HP.out.below HB1.out)
        have HS : Hid (∀ w' : World, Below wc.heap.size wc w' → w'.cell? ⟨w.heap.size + 1, 0, none⟩ = some (.slice (some ⟨b, off, none⟩) n c) ∧ w'.cell? ⟨b, off + k * 3 + 1, none⟩ = some (.int .i64 p.a) ∧ (w'.cell? ⟨gy, 0, none⟩ = some (.int .i64 x.id) ∧ w'.cell? ⟨gy, 1, none⟩ = some (.slice x.f.A x.f.n x.f.c) ∧ w'.cell? ⟨gy, 2, none⟩ = some (.int .i64 x.cls) ∧ w'.cell? ⟨gy, 3, none⟩ = some (.slice x.a.A x.a.n x.a.c) ∧
            w'.cell? ⟨gy, 4, none⟩ = some (.int .i64 x.main) ∧ w'.cell? ⟨gy, 5, none⟩ = some (.slice x.s.A x.s.n x.s.c) ∧ w'.cell? ⟨gy, 6, none⟩ = some (.slice x.l.A x.l.n x.l.c) ∧ w'.cell? ⟨gy, 7, none⟩ = some (.slice x.r.A x.r.n x.r.c) ∧ gy < w'.heap.size)) :=
          fun w' h => ⟨(HPC.out.below h).cell, (h.cell (p := ⟨b, off + k * 3 + 1, none⟩) hbw).trans d1, (HY.out.below h).facts⟩
        clear d1
        cases ok
        · have HS2 : Hid (baseA G.lex (a.take (k + 1)) = baseA G.lex (a.take k)) := by
            rcases HOK.out with h | h
            · rw [Hid, HTK.out, baseA_snoc, formOf_none (formAt_none h.2), List.append_nil]
            · exact absurd h.1 (by decide)
          iterate 2 (refine wpMix_q (v := ?_) rfl rfl (fun w' hS => ?_) ?_; rotate_left; (focus ((try obtain _ := HS.out _ (hS rfl)); clear hS; go_simp; try with_reducible rfl; done)); (try simp only [Act.put, List.setIfInBounds_toArray, List.set_cons_zero, List.set_cons_succ]))
          iterate 7 (refine wpMix_qskip rfl rfl ?_; (try simp only [Act.put, List.setIfInBounds_toArray, List.set_cons_zero, List.set_cons_succ]))
          (refine wpMix_eskip rfl rfl (HSD).out ?_; (try simp only [Act.put, List.setIfInBounds_toArray, List.set_cons_zero, List.set_cons_succ]))
          (refine wpMix_e rfl rfl (fun K hK => ?_); go_simp; refine hK.out _ _ (fun h => absurd h (by decide)) ?_; clear hK K; (try simp only [Act.put, List.setIfInBounds_toArray, List.set_cons_zero, List.set_cons_succ]))
          refine wpMix_nil ?_
          refine NoPanic.normal ?_
          clear HS HOK
          go_wp2_with fail
          go_roundw
          case rel => exact ⟨k + 1, by omega, by go_num, by rw [Hid, HS2.out]; exact own_below HO1.out HSD.out, bchain HB1.out HSD.out⟩
          case measure => simp [intOf]; omega
        have HPS : Hid (getP G.lex p.e = some pe) := by
          rcases HOK.out with h | h
          · exact absurd h.1 (by decide)
          · exact h.2
        have HFA := Lib.hid (formAt_eq HPS.out)
        clear HOK
        iterate 9 (refine wpMix_q (v := ?_) rfl rfl (fun w' hS => ?_) ?_; rotate_left; (focus ((try obtain ⟨s0, s1, t0, t1, t2, t3, t4, t5, t6, t7, t8⟩ := HS.out _ (hS rfl)); clear hS; go_simp; try with_reducible rfl; done)); (try simp only [Act.put, List.setIfInBounds_toArray, List.set_cons_zero, List.set_cons_succ]))
        refine wpMix_e rfl rfl (fun K hK => ?_)
        go_simp
        refine (rform_any x pe p.a _ (HD.out.below (bchain HB1'.out HSD.out)) HAL.out).mono ?_
        rintro e' w2 ⟨rfl, hb2⟩
        have HB2 := Lib.hid (bchain HSD.out hb2)
        refine hK.out _ _ (fun h => absurd h (by decide)) ?_
        clear hK K hb2
        (try simp only [Act.put, List.setIfInBounds_toArray, List.set_cons_zero, List.set_cons_succ])
        (refine wpMix_e rfl rfl (fun K hK => ?_); go_simp; refine hK.out _ _ (fun h => absurd h (by decide)) ?_; clear hK K; (try simp only [Act.put, List.setIfInBounds_toArray, List.set_cons_zero, List.set_cons_succ]))
        refine wpMix_nil ?_
        refine NoPanic.normal ?_
        have HO2 := Lib.hid (own_below HO1.out HB2.out)
        have HBB := Lib.hid (bchain HB1.out HB2.out)
        have HD2 := Lib.hid (HD.out.below (bchain HB1'.out HB2.out))
        have HY2 := Lib.hid (HY.out.below HB2.out)
        have hbs2 : W.heap.size ≤ w2.heap.size := HBB.out.size
        cases hal : altB pe p.a
        · have HS2 : Hid (baseA G.lex (a.take (k + 1)) = baseA G.lex (a.take k)) := by rw [Hid, HTK.out, baseA_snoc, formOf_none (by rw [HFA.out, hal]; rfl), List.append_nil]
          clear HS hal
          go_wp2_with fail
          go_roundw
          case rel => exact ⟨k + 1, by omega, by go_num, by rw [Hid, HS2.out]; exact HO2.out, HBB.out⟩
          case measure => simp [intOf]; omega
        have HFS : Hid (formAt G.lex p = some (pe, (formsP pe).getD p.a.toNat [])) := by rw [Hid, HFA.out, hal]; rfl
        have HALB := Lib.hid hal
        clear hal
        obtain ⟨ka, hka⟩ : ∃ ka : Nat, p.a = (ka : Int) := ⟨p.a.toNat, by have h := HALB.out; simp only [altB, Bool.and_eq_true, decide_eq_true_iff] at h; omega⟩
        have hkl : ka < (formsP pe).length := by have h := HALB.out; simp only [altB, Bool.and_eq_true, decide_eq_true_iff] at h; omega
        have HKA := Lib.hid hka
        have hka0 : (0 : Int) ≤ (ka : Int) := by omega
        have HSB : Hid (∀ w' : World, Below w2.heap.size w2 w' → w'.cell? ⟨w.heap.size + 1, 0, none⟩ = some (.slice (some ⟨b, off, none⟩) n c) ∧ w'.cell? ⟨b, off + k * 3 + 1, none⟩ = some (.int .i64 (ka : Int)) ∧ (w'.cell? ⟨gy, 0, none⟩ = some (.int .i64 x.id) ∧ w'.cell? ⟨gy, 1, none⟩ = some (.slice x.f.A x.f.n x.f.c) ∧ w'.cell? ⟨gy, 2, none⟩ = some (.int .i64 x.cls) ∧ w'.cell? ⟨gy, 3, none⟩ = some (.slice x.a.A x.a.n x.a.c) ∧
            w'.cell? ⟨gy, 4, none⟩ = some (.int .i64 x.main) ∧ w'.cell? ⟨gy, 5, none⟩ = some (.slice x.s.A x.s.n x.s.c) ∧ w'.cell? ⟨gy, 6, none⟩ = some (.slice x.l.A x.l.n x.l.c) ∧ w'.cell? ⟨gy, 7, none⟩ = some (.slice x.r.A x.r.n x.r.c) ∧ gy < w'.heap.size)) := by
          intro w' h
          have h1 := HS.out w' (bchain HB2.out h)
          rw [HKA.out] at h1
          exact h1
        clear hka HS
        have HS := HSB
        clear HSB
        go_wp2_with fail
        refine wp_region_ord 9 [1, 2, 3, 4, 5, 6, 7, 8] [0] [0, 1, 3, 4, 5, 6, 7, 8] [2, 9, 10, 11, 12] (fun w' => Below w2.heap.size w2 w') (by kernel_rfl) (by kernel_rfl) ?_
        rintro E hE
        have HSE : Hid (Below w2.heap.size w2 E) := by rw [hE]; exact (Below.refl _ _).drew
        clear hE
        refine ⟨HSE.out, ?_⟩
        refine wpHead_cons (v := ?_) rfl rfl (fun w' hS => ?_) ?_; rotate_left; (focus (clear hS; go_simp; try with_reducible rfl; done)); (try simp only [Act.put, List.setIfInBounds_toArray, List.set_cons_zero, List.set_cons_succ])
        iterate 7 (refine wpHead_cons (v := ?_) rfl rfl (fun w' hS => ?_) ?_; rotate_left; (focus ((try obtain ⟨s0, s1, t0, t1, t2, t3, t4, t5, t6, t7, t8⟩ := HS.out _ (hS rfl)); clear hS; go_simp; try with_reducible rfl; done)); (try simp only [Act.put, List.setIfInBounds_toArray, List.set_cons_zero, List.set_cons_succ]))
        refine wpHead_nil ?_
        refine wpTail_cons rfl rfl (fun K hK => ?_)
        go_simp
        refine (rforms_any w2 x pe E HD2.out HSE.out HAL.out).mono ?_
        rintro e' w3 ⟨⟨vf, rfl, hf⟩, hb3⟩
        have HB3 := Lib.hid (bchain HSE.out hb3)
        obtain ⟨gf, cf, rfl, hf1, hf2, hf3, hf4, HFR⟩ := hf.op
        obtain ⟨B, m, cm, hcell, hrd⟩ := HFR.out ka hkl
        have HRD := Lib.hid hrd
        obtain ⟨nf, hnf⟩ : ∃ nf, (formsP pe).length = nf := ⟨_, rfl⟩
        rw [hnf] at hf1 hkl ⊢
        have HNF := Lib.hid hnf
        refine hK.out _ _ (fun _ => HB3.out) ?_
        clear hK K hb3 hf hrd hnf HFR
        (try simp only [Act.put, List.setIfInBounds_toArray, List.set_cons_zero, List.set_cons_succ])
        refine wpTail_rest 9 rfl ?_
        simp only [List.drop_succ_cons, List.drop_zero]
        have HO3 := Lib.hid (own_below HO2.out HB3.out)
        have HBC := Lib.hid (bchain HBB.out HB3.out)
        have hbs3 : W.heap.size ≤ w3.heap.size := HBC.out.size
        have HR3 := Lib.hid (HRD.out.below HB3.out)
        have HLQ : Hid ((baseA G.lex (a.take k)).length + ((formsP pe).getD p.a.toNat []).length ≤ 300000000) := by
          have h1 := baseA_len HLX.out (a.take k)
          rw [List.length_take] at h1
          obtain ⟨_, _, _, _, h3, h4⟩ := formAt_mem HFS.out
          have h2 := HLX.out.form _ h3 _ h4
          have := HAN.out
          rw [Hid]
          simp only at h2
          omega
        rw [HKA.out, Int.toNat_natCast] at HLQ HFS
        go_wp2_with (at_builtin; refine wpList_app_ints rfl (.tmp 39) (.tmp 49) rfl W.heap.size (.slice Ao no co) (baseA G.lex (a.take k)) rfl HO3.out (.slice B m cm) ((formsP pe).getD ka []) rfl HR3.out HLQ.out hbs3 ?_; intro v5 w5 ho hg _; have HO5 : Hid (OwnI w5 W.heap.size v5 (baseA G.lex (a.take k) ++ (formsP pe).getD ka [])) := ho; have HB5 := Lib.hid (below_grown HBC.out (Nat.le_refl _) HO3.out hg); clear ho hg)
        refine NoPanic.normal ?_
        clear HS hcell
        go_wp2_with fail
        go_roundw
        case rel => exact ⟨k + 1, by omega, by go_num, by rw [Hid, HTK.out, baseA_snoc, formOf_some HFS.out]; exact HO5.out, HB5.out⟩
        case measure => simp [intOf]; omega
    · obtain rfl : n = k := by omega
      have HTF : Hid (a.take n = a) := by rw [Hid, ← HN.out, List.take_length]
      go_wp2_with fail
      go_ret
      refine ⟨⟨_, rfl, ?_⟩, bchain HBW.out HBR.out⟩
      have h := HO.out.rd
      rw [HTF.out] at h
      exact h
end Go.Proofs.YtiopgbbggeimaaaGreat
