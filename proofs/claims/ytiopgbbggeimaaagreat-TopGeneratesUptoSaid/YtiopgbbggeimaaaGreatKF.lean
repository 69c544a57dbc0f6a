/-
  Form and Spelled (package surface).
-/
import Derived.Test.YtiopgbbggeimaaaGreatKS
namespace Go.Proofs.YtiopgbbggeimaaaGreat
open Go.ChangeShapes Go.WideShapes Go.ChangeAt Go.RowKit
theorem LightOk.seg {G : PLang} (h : LightOk G) (a : List PPt) : ∀ x ∈ baseA G.lex a, isB G.inv x = true := by
  intro x hx
  rw [baseA_eq] at hx
  obtain ⟨p, _, hp⟩ := List.mem_flatMap.1 hx
  cases hf : formAt G.lex p with
  | none => rw [formOf_none hf] at hp; cases hp
  | some q =>
    rw [formOf_some hf] at hp
    obtain ⟨_, _, _, _, h1, h2⟩ := formAt_mem hf
    have he := h.lex.ent _ h1
    rcases List.mem_cons.1 h2 with h3 | h3
    · rw [h3] at hp; exact (wordC_ok.1 he.form).2.2 x hp
    · exact (wordC_ok.1 (he.alts _ h3)).2.2 x hp
theorem LightOk.nz {G : PLang} (h : LightOk G) (a : List PPt) : ∀ x ∈ baseA G.lex a, x ≠ 0 := fun x hx => isB_nz (h.seg a x hx)
/-- what Form returns -/
def FormQ (G : PLang) (a : List PPt) (e : Ending) (w : World) : Prop := ∃ (A : Option Addr) (n c : Nat), e = .returned (.tuple #[.slice A n c, .int .i64 (formF G a).2]) ∧ RdI w (.slice A n c) (formF G a).1
set_option maxHeartbeats 16000000 in
set_option maxRecDepth 100000 in
theorem sform_any (g : GV) (G : PLang) (v : Value) (a : List PPt) (w : World) (hg : DpG w g G) (ha : RdPt w v a) (hl : LightOk G) :
    Calls Tryz.prog 6 #[.agg #[.slice g.i.A g.i.n g.i.c, .string g.on, .slice g.u.A g.u.n g.u.c, .slice g.l.A g.l.n g.l.c, .slice g.r.A g.r.n g.r.c, .int .i64 g.q, .slice g.s.A g.s.n g.s.c, .slice g.f.A g.f.n g.f.c, .slice g.x.A g.x.n g.x.c], .agg #[v]] w fun e' w' => FormQ G a e' w' ∧ Below w.heap.size w w' := by
  have HLT := Lib.hid hl
  have HLX := Lib.hid hl.lx
  have HG := Lib.hid hg
  obtain ⟨A, n, c, rfl, _, hc63, HN, HR⟩ := ha.op
  have HA := Lib.hid ha
  clear hg ha hl
  go_enter Tryz.func6, Tryz.ntmps6
  go_upto_region 1 with (fail)
  generalize hW : World.alloc (World.alloc w _) _ = W
  have HBW : Hid (Below w.heap.size w W) := by rw [← hW]; exact bchain (al_below _ _) (al_below _ _)
  have HQ : Hid (LgBlk W w.heap.size g) := by rw [← hW]; exact LgBlk.below (heap_alloc_new w _) (al_below _ _)
  have HP : Hid (AnBlk W (w.heap.size + 1) (.slice A n c)) := by
    have h := heap_alloc_new (w.alloc (.cells #[.slice g.i.A g.i.n g.i.c, .string g.on, .slice g.u.A g.u.n g.u.c, .slice g.l.A g.l.n g.l.c, .slice g.r.A g.r.n g.r.c, .int .i64 g.q, .slice g.s.A g.s.n g.s.c, .slice g.f.A g.f.n g.f.c, .slice g.x.A g.x.n g.x.c] 36)) (.cells #[.slice A n c] 39)
    rw [World.size_alloc] at h
    rw [← hW]; exact h
  clear hW
  have pc := HP.out.cell
  obtain ⟨z0, z1, z2, z3, z4, z5, z6, z7, z8, zl⟩ := HQ.out.facts
  go_wp2_with fail
  refine (right_any g G _ a _ (HG.out.below HBW.out) (HA.out.below HBW.out) HLT.out).mono ?_
  rintro e' w1 ⟨rfl, hb1⟩
  have HB1 := Lib.hid (bchain HBW.out hb1)
  have HX1 := Lib.hid hb1
  clear hb1 pc z0 z1 z2 z3 z4 z5 z6 z7 z8 zl
  obtain ⟨rc, hrc⟩ : ∃ rc, rightC G a = rc := ⟨_, rfl⟩
  rw [hrc]
  by_cases hr0 : rc = 0
  rotate_left
  · have d : (rc != 0) = true := by simp [hr0]
    have HF : Hid (formF G a = ([], rc)) := by rw [Hid, formF, hrc, if_pos hr0]
    clear hrc
    go_wp2_with fail
    go_ret2
    exact ⟨⟨none, 0, 0, by rw [HF.out]; rfl, by rw [HF.out]; exact rdI_none _⟩, HB1.out⟩
  subst hr0
  have HF : Hid (formF G a = if (lastF G.inv G.rules (baseA G.lex a)).length = 0 then ([], 23) else (lastF G.inv G.rules (baseA G.lex a), 0)) := by rw [Hid, formF, hrc, if_neg (show ¬ ((0 : Int) ≠ 0) by decide)]
  have HBL : Hid (a.length ≤ 1000 ∧ (baseA G.lex a).length ≤ 24) := by
    unfold rightC at hrc
    split at hrc
    · cases hrc
    split at hrc
    · cases hrc
    split at hrc
    · rename_i h; exact absurd hrc h
    split at hrc
    · cases hrc
    split at hrc
    · cases hrc
    exact ⟨by omega, by omega⟩
  clear hrc
  go_upto_region 4 with (fail)
  refine wp_region_ord 7 [0, 1, 2, 3, 4, 5, 6] [] [0, 1, 2, 3, 4, 5] [6, 7, 8] (fun w' => Below w1.heap.size w1 w') (by kernel_rfl) (by kernel_rfl) ?_
  rintro D hD
  have HSD : Hid (Below w1.heap.size w1 D) := by rw [hD]; exact (Below.refl _ _).drew
  clear hD
  refine ⟨HSD.out, ?_⟩
  have HS : Hid (∀ w' : World, Below w1.heap.size w1 w' → w'.cell? ⟨w.heap.size + 1, 0, none⟩ = some (.slice A n c) ∧ (w'.cell? ⟨w.heap.size, 0, none⟩ = some (.slice g.i.A g.i.n g.i.c) ∧ w'.cell? ⟨w.heap.size, 1, none⟩ = some (.string g.on) ∧ w'.cell? ⟨w.heap.size, 2, none⟩ = some (.slice g.u.A g.u.n g.u.c) ∧ w'.cell? ⟨w.heap.size, 3, none⟩ = some (.slice g.l.A g.l.n g.l.c) ∧ w'.cell? ⟨w.heap.size, 4, none⟩ = some (.slice g.r.A g.r.n g.r.c) ∧
      w'.cell? ⟨w.heap.size, 5, none⟩ = some (.int .i64 g.q) ∧ w'.cell? ⟨w.heap.size, 6, none⟩ = some (.slice g.s.A g.s.n g.s.c) ∧ w'.cell? ⟨w.heap.size, 7, none⟩ = some (.slice g.f.A g.f.n g.f.c) ∧ w'.cell? ⟨w.heap.size, 8, none⟩ = some (.slice g.x.A g.x.n g.x.c) ∧ w.heap.size < w'.heap.size)) :=
    fun w' h => ⟨(HP.out.below (bchain HX1.out h)).cell, (HQ.out.below (bchain HX1.out h)).facts⟩
  iterate 6 (refine wpHead_cons (v := ?_) rfl rfl (fun w' hS => ?_) ?_; rotate_left; (focus ((try obtain ⟨s0, t0, t1, t2, t3, t4, t5, t6, t7, t8, t9⟩ := HS.out _ (hS rfl)); clear hS; go_simp; try with_reducible rfl; done)); (try simp only [Act.put, List.setIfInBounds_toArray, List.set_cons_zero, List.set_cons_succ]))
  refine wpHead_nil ?_
  refine wpTail_cons rfl rfl (fun K hK => ?_)
  go_simp
  refine (base_any g G _ a _ (HG.out.below (bchain HB1.out HSD.out)) (HA.out.below (bchain HB1.out HSD.out)) HBL.out.1 HLX.out).mono ?_
  rintro e' w2 ⟨⟨vb, rfl, hvb⟩, hb2⟩
  have HB2 := Lib.hid (bchain HSD.out hb2)
  have HVB := Lib.hid hvb
  refine hK.out _ _ (fun _ => HB2.out) ?_
  clear hK K hb2 hvb
  (try simp only [Act.put, List.setIfInBounds_toArray, List.set_cons_zero, List.set_cons_succ])
  refine wpTail_cons rfl rfl (fun K hK => ?_)
  go_simp
  refine (plast_any _ _ _ G.inv G.rules (baseA G.lex a) _ ((HG.out.below (bchain HB1.out HB2.out)).inv) ((HG.out.below (bchain HB1.out HB2.out)).r) HVB.out HLT.out.rs (Nat.le_trans HBL.out.2 (by decide)) (HLT.out.nz a)).mono ?_
  rintro e' w3 ⟨⟨vl, rfl, hvl⟩, hb3⟩
  have HB3 := Lib.hid (bchain HB2.out hb3)
  obtain ⟨Al, nl, cl, rfl, _, _, HNL, _⟩ := hvl.op
  have HVL := Lib.hid hvl
  refine hK.out _ _ (fun h => absurd h (by decide)) ?_
  clear hK K hb3 HS hvl
  (try simp only [Act.put, List.setIfInBounds_toArray, List.set_cons_zero, List.set_cons_succ])
  refine wpTail_rest 8 rfl ?_
  simp only [List.drop_succ_cons, List.drop_zero]
  by_cases hnl : nl = 0
  · have HF2 : Hid (formF G a = ([], 23)) := by rw [Hid, HF.out, if_pos (by rw [HNL.out]; exact hnl)]
    subst hnl
    go_wp2_with fail
    refine NoPanic.normal ?_
    go_wp2_with fail
    go_ret2
    exact ⟨⟨none, 0, 0, by rw [HF2.out]; rfl, by rw [HF2.out]; exact rdI_none _⟩, bchain HB1.out HB3.out⟩
  · have HF2 : Hid (formF G a = (lastF G.inv G.rules (baseA G.lex a), 0)) := by rw [Hid, HF.out, if_neg (by rw [HNL.out]; exact hnl)]
    have d0 : ((nl : Int) == 0) = false := by simp; omega
    have d0' : (nl == 0) = false := by simp; omega
    go_wp2_with fail
    refine NoPanic.normal ?_
    go_wp2_with fail
    go_ret2
    exact ⟨⟨Al, nl, cl, by rw [HF2.out]; rfl, by rw [HF2.out]; exact HVL.out⟩, bchain HB1.out HB3.out⟩
/-- Spelled -/
def spelledF (G : PLang) (a : List PPt) : ByteArray × Int := if (formF G a).2 ≠ 0 then (ByteArray.empty, (formF G a).2) else ((spellF G.ort.units (formF G a).1).1, (spellF G.ort.units (formF G a).1).2.2)
set_option maxHeartbeats 16000000 in
set_option maxRecDepth 100000 in
theorem spelled_any (g : GV) (G : PLang) (v : Value) (a : List PPt) (w : World) (hg : DpG w g G) (ha : RdPt w v a) (hl : LightOk G) (hs : SmO G.ort) (hlen : (formF G a).1.length ≤ 1000000) :
    Calls Tryz.prog 8 #[.agg #[.slice g.i.A g.i.n g.i.c, .string g.on, .slice g.u.A g.u.n g.u.c, .slice g.l.A g.l.n g.l.c, .slice g.r.A g.r.n g.r.c, .int .i64 g.q, .slice g.s.A g.s.n g.s.c, .slice g.f.A g.f.n g.f.c, .slice g.x.A g.x.n g.x.c], .agg #[v]] w fun e' w' => e' = .returned (.tuple #[.string (spelledF G a).1, .int .i64 (spelledF G a).2]) ∧ Below w.heap.size w w' := by
  obtain ⟨sr, hsr⟩ : ∃ sr, spelledF G a = sr := ⟨_, rfl⟩
  rw [hsr]
  have HSR := Lib.hid hsr
  have HLT := Lib.hid hl
  have HSM := Lib.hid hs
  have HG := Lib.hid hg
  have HLEN := Lib.hid hlen
  obtain ⟨A, n, c, rfl, _, hc63, HN, HR⟩ := ha.op
  have HA := Lib.hid ha
  clear hg ha hl hs hsr hlen
  go_enter Tryz.func8, Tryz.ntmps8
  go_upto_region 1 with (fail)
  generalize hW : World.alloc (World.alloc w _) _ = W
  have HBW : Hid (Below w.heap.size w W) := by rw [← hW]; exact bchain (al_below _ _) (al_below _ _)
  have HQ : Hid (LgBlk W w.heap.size g) := by rw [← hW]; exact LgBlk.below (heap_alloc_new w _) (al_below _ _)
  have HP : Hid (AnBlk W (w.heap.size + 1) (.slice A n c)) := by
    have h := heap_alloc_new (w.alloc (.cells #[.slice g.i.A g.i.n g.i.c, .string g.on, .slice g.u.A g.u.n g.u.c, .slice g.l.A g.l.n g.l.c, .slice g.r.A g.r.n g.r.c, .int .i64 g.q, .slice g.s.A g.s.n g.s.c, .slice g.f.A g.f.n g.f.c, .slice g.x.A g.x.n g.x.c] 36)) (.cells #[.slice A n c] 39)
    rw [World.size_alloc] at h
    rw [← hW]; exact h
  clear hW
  have pc := HP.out.cell
  obtain ⟨z0, z1, z2, z3, z4, z5, z6, z7, z8, zl⟩ := HQ.out.facts
  go_wp2_with fail
  refine (sform_any g G _ a _ (HG.out.below HBW.out) (HA.out.below HBW.out) HLT.out).mono ?_
  rintro e' w1 ⟨⟨Af, nf, cf, rfl, hf⟩, hb1⟩
  have HB1 := Lib.hid (bchain HBW.out hb1)
  have HQ1 := Lib.hid (HQ.out.below hb1)
  have HF := Lib.hid hf
  clear hb1 hf pc z0 z1 z2 z3 z4 z5 z6 z7 z8 zl
  obtain ⟨z0, z1, z2, z3, z4, z5, z6, z7, z8, zl⟩ := HQ1.out.facts
  obtain ⟨x, hx⟩ : ∃ x, (formF G a).2 = x := ⟨_, rfl⟩
  rw [hx]
  by_cases hx0 : x = 0
  rotate_left
  · have d : (x != 0) = true := by simp [hx0]
    have HS2 : Hid (sr = (ByteArray.empty, x)) := by rw [Hid, ← HSR.out, spelledF, hx, if_pos hx0]
    clear hx
    go_wp2_with fail
    go_ret2
    exact ⟨by rw [HS2.out]; rfl, HB1.out⟩
  subst hx0
  have HS2 : Hid (sr = ((spellF G.ort.units (formF G a).1).1, (spellF G.ort.units (formF G a).1).2.2)) := by rw [Hid, ← HSR.out, spelledF, hx, if_neg (show ¬ ((0 : Int) ≠ 0) by decide)]
  clear hx
  go_wp2_with fail
  refine (spell_any _ _ G.ort (formF G a).1 _ ((HG.out.below HB1.out).ort) HSM.out HLT.out.units.1 HF.out (Nat.le_trans HLEN.out (by decide))).mono ?_
  rintro e' w2 ⟨he, hb2⟩
  unfold RetT at he
  subst he
  have HB2 := Lib.hid (bchain HB1.out hb2)
  clear hb2
  go_wp2_with fail
  go_ret2
  exact ⟨by rw [HS2.out]; rfl, HB2.out⟩
end Go.Proofs.YtiopgbbggeimaaaGreat
