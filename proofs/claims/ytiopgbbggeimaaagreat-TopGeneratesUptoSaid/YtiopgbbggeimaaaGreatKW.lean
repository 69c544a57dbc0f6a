/-
  The reference of surface forms: Right.
-/
import Derived.Test.YtiopgbbggeimaaaGreatKU
namespace Go.Proofs.YtiopgbbggeimaaaGreat
open Go.ChangeShapes Go.WideShapes Go.ChangeAt Go.RowKit
set_option maxHeartbeats 16000000 in
set_option maxRecDepth 100000 in
theorem rright_any (g : GV) (G : PLang) (v : Value) (a : List PPt) (w : World) (hg : DpG w g G) (ha : RdPt w v a) (hl : LightOk G) :
    Calls Tryz.prog 11 #[.agg #[.slice g.i.A g.i.n g.i.c, .string g.on, .slice g.u.A g.u.n g.u.c, .slice g.l.A g.l.n g.l.c, .slice g.r.A g.r.n g.r.c, .int .i64 g.q, .slice g.s.A g.s.n g.s.c, .slice g.f.A g.f.n g.f.c, .slice g.x.A g.x.n g.x.c], .agg #[v]] w fun e' w' => e' = .returned (.int .i64 (rightC G a)) ∧ Below w.heap.size w w' := by
  obtain ⟨rc, hrc⟩ : ∃ rc, rightC G a = rc := ⟨_, rfl⟩
  rw [hrc]
  unfold rightC at hrc
  have HLT := Lib.hid hl
  have HLX := Lib.hid hl.lx
  have HG := Lib.hid hg
  obtain ⟨A, n, c, rfl, _, hc63, HN, HR⟩ := ha.op
  have HA := Lib.hid ha
  rw [HN.out] at hrc
  clear hg ha hl
  go_enter Tryz.func11, Tryz.ntmps11
  go_upto_region 1 with (fail)
  generalize hW : World.alloc (World.alloc w _) _ = W
  have HBW : Hid (Below w.heap.size w W) := by rw [← hW]; exact bchain (al_below _ _) (al_below _ _)
  have HQ : Hid (LgBlk W w.heap.size g) := by rw [← hW]; exact LgBlk.below (heap_alloc_new w _) (al_below _ _)
  have HP : Hid (AnBlk W (w.heap.size + 1) (.slice A n c)) := by
    have h := heap_alloc_new (w.alloc (.cells #[.slice g.i.A g.i.n g.i.c, .string g.on, .slice g.u.A g.u.n g.u.c, .slice g.l.A g.l.n g.l.c, .slice g.r.A g.r.n g.r.c, .int .i64 g.q, .slice g.s.A g.s.n g.s.c, .slice g.f.A g.f.n g.f.c, .slice g.x.A g.x.n g.x.c] 36)) (.cells #[.slice A n c] 39)
    rw [World.size_alloc] at h
    rw [← hW]; exact h
  clear hW
  have pc := HP.out.cell
  by_cases hn0 : n = 0
  · have HRC : Hid (rc = 4) := by rw [Hid, ← hrc, if_pos hn0]
    subst hn0
    clear hrc
    go_wp2_with fail
    go_ret
    exact ⟨by rw [(HRC).out]; rfl, (HBW).out⟩
  rw [if_neg hn0] at hrc
  have d0 : ((n : Int) == 0) = false := by simp; omega
  have d0' : (n == 0) = false := by simp; omega
  by_cases hn4 : 4 < n
  · have HRC : Hid (rc = 11) := by rw [Hid, ← hrc, if_pos hn4]
    have d1 : decide ((4 : Int) < (n : Int)) = true := by simp; omega
    clear hrc hn0
    go_wp2_with fail
    go_ret
    exact ⟨by rw [(HRC).out]; rfl, (HBW).out⟩
  rw [if_neg hn4] at hrc
  have d1 : decide ((4 : Int) < (n : Int)) = false := by simp; omega
  have hnn : n ≤ 4 := by omega
  have HRC := Lib.hid hrc
  clear hrc hn0 hn4
  go_wp2_with fail
  clear pc d0 d0' d1
  go_loopw [5] (fun v5 wr => ∃ k : Nat, k ≤ n ∧ v5 = .int .i64 k ∧ Hid (partsC G.lex a = partsC G.lex (a.drop k)) ∧ Hid (Below W.heap.size W wr)) (fun v5 _ => n - (intOf v5).toNat)
  case atStart => exact ⟨0, Nat.zero_le _, rfl, rfl, Below.refl _ _⟩
  case round =>
    obtain ⟨k, hk, rfl, HPC, HBR⟩ := hrel
    have pc := (HP.out.below HBR.out).cell
    have HBX := Lib.hid (bchain HBW.out HBR.out)
    by_cases hlt : k < n
    · obtain ⟨b, off, p, hA, hb, hd, c0, c1, c2⟩ := (HR.out k hlt).below (bchain HBW.out HBR.out)
      subst hA
      have hk0 : (0 : Int) ≤ (k : Int) := by omega
      have HP2 : Hid (partsC G.lex a = if partC G.lex p ≠ 0 then partC G.lex p else partsC G.lex (a.drop (k + 1))) := by rw [Hid, HPC.out, hd.out]; rfl
      have HBAD : Hid (partC G.lex p ≠ 0 → rc = partC G.lex p) := fun h => by rw [← HRC.out, HP2.out, if_pos h, if_pos h]
      clear HPC
      have HS : Hid (∀ w' : World, Below wr.heap.size wr w' → w'.cell? ⟨w.heap.size + 1, 0, none⟩ = some (.slice (some ⟨b, off, none⟩) n c) ∧ w'.cell? ⟨b, off + k * 3, none⟩ = some (.int .i64 p.e) ∧ w'.cell? ⟨b, off + k * 3 + 1, none⟩ = some (.int .i64 p.a) ∧ w'.cell? ⟨b, off + k * 3 + 2, none⟩ = some (.int .i64 p.s) ∧ (w'.cell? ⟨w.heap.size, 0, none⟩ = some (.slice g.i.A g.i.n g.i.c) ∧ w'.cell? ⟨w.heap.size, 1, none⟩ = some (.string g.on) ∧ w'.cell? ⟨w.heap.size, 2, none⟩ = some (.slice g.u.A g.u.n g.u.c) ∧ w'.cell? ⟨w.heap.size, 3, none⟩ = some (.slice g.l.A g.l.n g.l.c) ∧ w'.cell? ⟨w.heap.size, 4, none⟩ = some (.slice g.r.A g.r.n g.r.c) ∧
          w'.cell? ⟨w.heap.size, 5, none⟩ = some (.int .i64 g.q) ∧ w'.cell? ⟨w.heap.size, 6, none⟩ = some (.slice g.s.A g.s.n g.s.c) ∧ w'.cell? ⟨w.heap.size, 7, none⟩ = some (.slice g.f.A g.f.n g.f.c) ∧ w'.cell? ⟨w.heap.size, 8, none⟩ = some (.slice g.x.A g.x.n g.x.c) ∧ w.heap.size < w'.heap.size)) :=
        fun w' h => ⟨(HP.out.below (bchain HBR.out h)).cell, (h.cell (p := ⟨b, off + k * 3, none⟩) hb).trans c0, (h.cell (p := ⟨b, off + k * 3 + 1, none⟩) hb).trans c1, (h.cell (p := ⟨b, off + k * 3 + 2, none⟩) hb).trans c2, (HQ.out.below (bchain HBR.out h)).facts⟩
      go_upto_region 8 with (fail)
      clear pc c0 c1 c2
      refine wp_region_ord 6 [0, 1, 2, 3, 4, 5] [] [0, 1, 2, 3, 4, 5] [6, 7] (fun w' => Below wr.heap.size wr w') (by kernel_rfl) (by kernel_rfl) ?_
      rintro Z hZ
      have HSZ : Hid (Below wr.heap.size wr Z) := by rw [hZ]; exact (Below.refl _ _).drew
      clear hZ
      refine ⟨HSZ.out, ?_⟩
      iterate 6 (refine wpHead_cons (v := ?_) rfl rfl (fun w' hS => ?_) ?_; rotate_left; (focus ((try obtain ⟨s0, s1, s2, s3, t0, t1, t2, t3, t4, t5, t6, t7, t8, t9⟩ := HS.out _ (hS rfl)); clear hS; go_simp; try with_reducible rfl; done)); (try simp only [Act.put, List.setIfInBounds_toArray, List.set_cons_zero, List.set_cons_succ]))
      refine wpHead_nil ?_
      refine wpTail_cons rfl rfl (fun K hK => ?_)
      go_simp
      refine (rpart_any g G p _ (HG.out.below (bchain HBX.out HSZ.out)) HLX.out).mono ?_
      rintro e' w2 ⟨rfl, hb2⟩
      have HB2 := Lib.hid (bchain HSZ.out hb2)
      have HW2 := Lib.hid (bchain HBX.out HB2.out)
      refine hK.out _ _ (fun _ => HB2.out) ?_
      clear hK K hb2 HS
      (try simp only [Act.put, List.setIfInBounds_toArray, List.set_cons_zero, List.set_cons_succ])
      refine wpTail_rest 7 rfl ?_
      simp only [List.drop_succ_cons, List.drop_zero]
      obtain ⟨x, hx⟩ : ∃ x, partC G.lex p = x := ⟨_, rfl⟩
      rw [hx] at HP2 HBAD ⊢
      clear hx
      by_cases hx0 : x = 0
      · have HPN : Hid (partsC G.lex a = partsC G.lex (a.drop (k + 1))) := by rw [Hid, HP2.out, if_neg (by simp [hx0])]
        subst hx0
        go_wp2_with fail
        refine NoPanic.normal ?_
        go_wp2_with fail
        go_roundw
        case rel => exact ⟨k + 1, by omega, by go_num, HPN.out, bchain HBR.out HB2.out⟩
        case measure => simp [intOf]; omega
      · have HPN : Hid (rc = x) := HBAD.out hx0
        have d1 : (x != 0) = true := by simp [hx0]
        go_wp2_with fail
        refine NoPanic.normal ?_
        go_wp2_with fail
        go_ret
        exact ⟨by rw [(HPN).out]; rfl, (HW2).out⟩
    · have HPZ : Hid (partsC G.lex a = 0) := by rw [Hid, HPC.out, List.drop_of_length_le (by rw [HN.out]; omega)]; rfl
      have HRC2 : Hid ((if accF G.net (clsA G.lex a) = false then 21 else if 24 < (baseA G.lex a).length then 5 else 0) = rc) := by rw [Hid, ← HRC.out, HPZ.out, if_neg (show ¬ ((0 : Int) ≠ 0) by decide)]
      have HAL : Hid (a.length ≤ 1000) := by rw [Hid, HN.out]; omega
      clear HPC HRC
      obtain ⟨X, hX⟩ : ∃ X, X = wr := ⟨_, rfl⟩
      have HXB : Hid (Below W.heap.size W X) := by rw [hX]; exact HBR.out
      rw [← hX] at pc ⊢
      clear hX HBR HBX
      have HXW := Lib.hid (bchain HBW.out HXB.out)
      obtain ⟨S, hS⟩ := HLT.out.st
      have HSS := Lib.hid hS
      clear hS
      go_upto_region 11 with (fail)
      clear pc
      refine wp_region_ord 5 [0, 1, 2, 3, 4] [] [0, 1, 2, 3] [4, 5, 6] (fun w' => Below X.heap.size X w') (by kernel_rfl) (by kernel_rfl) ?_
      rintro D hD
      have HSD : Hid (Below X.heap.size X D) := by rw [hD]; exact (Below.refl _ _).drew
      clear hD
      refine ⟨HSD.out, ?_⟩
      have HS : Hid (∀ w' : World, Below X.heap.size X w' → w'.cell? ⟨w.heap.size + 1, 0, none⟩ = some (.slice A n c) ∧ (w'.cell? ⟨w.heap.size, 0, none⟩ = some (.slice g.i.A g.i.n g.i.c) ∧ w'.cell? ⟨w.heap.size, 1, none⟩ = some (.string g.on) ∧ w'.cell? ⟨w.heap.size, 2, none⟩ = some (.slice g.u.A g.u.n g.u.c) ∧ w'.cell? ⟨w.heap.size, 3, none⟩ = some (.slice g.l.A g.l.n g.l.c) ∧ w'.cell? ⟨w.heap.size, 4, none⟩ = some (.slice g.r.A g.r.n g.r.c) ∧
          w'.cell? ⟨w.heap.size, 5, none⟩ = some (.int .i64 g.q) ∧ w'.cell? ⟨w.heap.size, 6, none⟩ = some (.slice g.s.A g.s.n g.s.c) ∧ w'.cell? ⟨w.heap.size, 7, none⟩ = some (.slice g.f.A g.f.n g.f.c) ∧ w'.cell? ⟨w.heap.size, 8, none⟩ = some (.slice g.x.A g.x.n g.x.c) ∧ w.heap.size < w'.heap.size)) :=
        fun w' h => ⟨(HP.out.below (bchain HXB.out h)).cell, (HQ.out.below (bchain HXB.out h)).facts⟩
      iterate 4 (refine wpHead_cons (v := ?_) rfl rfl (fun w' hS => ?_) ?_; rotate_left; (focus ((try obtain ⟨s0, t0, t1, t2, t3, t4, t5, t6, t7, t8, t9⟩ := HS.out _ (hS rfl)); clear hS; go_simp; try with_reducible rfl; done)); (try simp only [Act.put, List.setIfInBounds_toArray, List.set_cons_zero, List.set_cons_succ]))
      refine wpHead_nil ?_
      refine wpTail_cons rfl rfl (fun K hK => ?_)
      go_simp
      refine (rclasses_any g G _ a _ (HG.out.below (bchain HXW.out HSD.out)) (HA.out.below (bchain HXW.out HSD.out)) HAL.out HLX.out).mono ?_
      rintro e' w1 ⟨⟨vc, rfl, hvc⟩, hb1⟩
      have HB1 := Lib.hid (bchain HSD.out hb1)
      have HVC := Lib.hid hvc
      refine hK.out _ _ (fun _ => HB1.out) ?_
      clear hK K hb1 hvc
      (try simp only [Act.put, List.setIfInBounds_toArray, List.set_cons_zero, List.set_cons_succ])
      refine wpTail_cons rfl rfl (fun K hK => ?_)
      go_simp
      refine (raccepts_any _ _ G.net S (clsA G.lex a) _ ((HG.out.below (bchain HXW.out HB1.out)).net) HVC.out HLT.out.net HSS.out).mono ?_
      rintro e' w2 ⟨rfl, hb2⟩
      have HB2 := Lib.hid (bchain HB1.out hb2)
      refine hK.out _ _ (fun h => absurd h (by decide)) ?_
      clear hK K hb2 HS
      (try simp only [Act.put, List.setIfInBounds_toArray, List.set_cons_zero, List.set_cons_succ])
      refine wpTail_rest 6 rfl ?_
      simp only [List.drop_succ_cons, List.drop_zero]
      have HW2 := Lib.hid (bchain HXW.out HB2.out)
      cases hac : accF G.net (clsA G.lex a)
      · have HPN : Hid (rc = 21) := by rw [Hid, ← HRC2.out, if_pos hac]
        clear hac
        go_wp2_with fail
        refine NoPanic.normal ?_
        go_wp2_with fail
        go_ret
        exact ⟨by rw [(HPN).out]; rfl, (HW2).out⟩
      have HRC3 : Hid ((if 24 < (baseA G.lex a).length then (5 : Int) else 0) = rc) := by rw [Hid, ← HRC2.out, if_neg (show ¬ accF G.net (clsA G.lex a) = false by rw [hac]; decide)]
      clear hac
      obtain ⟨z0, z1, z2, z3, z4, z5, z6, z7, z8, zl⟩ := (HQ.out.below (bchain HXB.out HB2.out)).facts
      have pc := (HP.out.below (bchain HXB.out HB2.out)).cell
      go_wp2_with fail
      refine NoPanic.normal ?_
      go_wp2_with fail
      refine (rbase_any g G _ a _ (HG.out.below HW2.out) (HA.out.below HW2.out) HAL.out HLX.out).mono ?_
      rintro e' w3 ⟨⟨vb, rfl, hvb⟩, hb3⟩
      have HW3 := Lib.hid (bchain HW2.out hb3)
      obtain ⟨Ab, nb, cb, rfl, _, _, HNB, _⟩ := hvb.op
      clear hb3 hvb
      by_cases h24 : 24 < nb
      · have e1 : decide ((24 : Int) < (nb : Int)) = true := by simp; omega
        have HPN : Hid (rc = 5) := by rw [Hid, ← HRC3.out, if_pos (by rw [HNB.out]; exact h24)]
        go_wp2_with fail
        go_ret
        exact ⟨by rw [(HPN).out]; rfl, (HW3).out⟩
      · have e1 : decide ((24 : Int) < (nb : Int)) = false := by simp; omega
        have HPN : Hid (rc = 0) := by rw [Hid, ← HRC3.out, if_neg (by rw [HNB.out]; exact h24)]
        go_wp2_with fail
        go_ret
        exact ⟨by rw [(HPN).out]; rfl, (HW3).out⟩
end Go.Proofs.YtiopgbbggeimaaaGreat
