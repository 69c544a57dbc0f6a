/-
  analyze: spread.
-/
import Derived.Test.YtiopgbbggeimaaaGreatKI
namespace Go.Proofs.YtiopgbbggeimaaaGreat
open Go.ChangeShapes Go.WideShapes Go.ChangeAt Go.RowKit
theorem infoPt : (Tryz.prog.info? 65).map (fun i => (i.zero, i.size, i.bytes)) = some (some (.agg #[.int .i64 0, .int .i64 0, .int .i64 0]), 3, 24) := by kernel_rfl
theorem ptCells_one (l : List PPt) : ∀ u ∈ l.flatMap ptCells, u.oneCell' = true := by
  intro u hu
  obtain ⟨p, _, hp⟩ := List.mem_flatMap.1 hu
  simp only [ptCells, List.mem_cons, List.not_mem_nil, or_false] at hp
  rcases hp with rfl | rfl | rfl <;> rfl
theorem ptCells_len (l : List PPt) : (l.flatMap ptCells).length = l.length * 3 := by
  induction l with
  | nil => rfl
  | cons a l ih => rw [List.flatMap_cons, List.length_append, ih, List.length_cons]; simp [ptCells]; omega
/-- append of parts that are read, onto an owned row of parts -/
theorem wpList_app_pts {w : World} {ops : Array Oper} {rest : List Oper} {o : Oper} {a : Act} {Q : Exit → Act → World → Prop} (hgd : o.guard = none) (s x : Operand)
    (ho : o.op = .call { callee := .builtin .append, args := #[s, x], argTypes := #[37, 37] })
    (base : Nat) (v : Value) (l : List PPt) (hs : a.eval s = v) (hown : OwnPt w base v l) (vx : Value) (xs : List PPt) (hx : a.eval x = vx) (hr : RdPt w vx xs) (hl : l.length + xs.length ≤ 1000000) (hbase : base ≤ w.heap.size)
    (h : ∀ v' w', OwnPt w' base v' (l ++ xs) → w.grownBy w' v.ownBlock → wpList Tryz.prog ops Q rest (a.put o.dst v') w') : wpList Tryz.prog ops Q (o :: rest) a w := by
  obtain ⟨i0, hi, hz0, hz1, hz2⟩ := info_parts infoPt
  refine wpList_plain hgd fun _ hK => wp_append_rd w s x 37 ho base 65 i0 _ 3 24 Tryz.underlying37 hi hz0 hz1 hz2 rfl (by decide) v l.length _ hs hown vx xs.length _ hx hr (ptCells_one xs) (by simp only [maxLen]; omega) (by omega) hbase ?_
  intro v' w' h1 h2 _
  refine hK _ _ (h v' w' ?_ h2)
  unfold OwnPt
  rw [List.flatMap_append, List.length_append]
  exact h1
theorem own_newP (w : World) (base g : Nat) (hg : w.heap.size = g) (hb : base ≤ g) : OwnPt (w.alloc (.cells #[] 65)) base (.slice (some ⟨g, 0, none⟩) 0 0) [] := by
  subst hg
  exact ⟨rfl, .inr ⟨w.heap.size, 0, #[], rfl, hb, heap_alloc_new w _, Nat.le_refl _, by simp [maxLen], rfl, rfl⟩⟩
/-- one cell of a part is set -/
theorem pt_set {l : List PPt} {i : Nat} {p : PPt} {r : List PPt} (h : l.drop i = p :: r) (x : Int) : (l.flatMap ptCells).take (i * 3 + 2) ++ [.int .i64 x] ++ (l.flatMap ptCells).drop (i * 3 + 2 + 1) = (l.set i ⟨p.e, p.a, x⟩).flatMap ptCells := by
  induction l generalizing i with
  | nil => simp at h
  | cons q l ih =>
    cases i with
    | zero =>
      simp only [List.drop_zero, List.cons.injEq] at h
      rw [h.1]
      simp [ptCells]
    | succ i =>
      simp only [List.drop_succ_cons] at h
      have := ih h
      simp only [List.flatMap_cons, List.set_cons_succ, ← this]
      have e1 : (i + 1) * 3 + 2 = (ptCells q).length + (i * 3 + 2) := by simp [ptCells]; omega
      rw [e1, List.take_append, List.take_of_length_le (by omega), Nat.add_sub_cancel_left, show (ptCells q).length + (i * 3 + 2) + 1 = (ptCells q).length + (i * 3 + 2 + 1) by omega, List.drop_append, List.drop_of_length_le (by omega), Nat.add_sub_cancel_left]
      simp
theorem OwnPt.set_ {w : World} {base gp n cap i : Nat} {l : List PPt} {p : PPt} {r : List PPt} (h : OwnPt w base (.slice (some ⟨gp, 0, none⟩) n cap) l) (hn : l.length = n) (hd : l.drop i = p :: r) (x : Int) : OwnPt (w.setCell ⟨gp, i * 3 + 2, none⟩ (.int .i64 x)) base (.slice (some ⟨gp, 0, none⟩) n cap) (l.set i ⟨p.e, p.a, x⟩) := by
  subst hn
  have hi : i < l.length := by
    rcases Nat.lt_or_ge i l.length with h1 | h1
    · exact h1
    · rw [List.drop_of_length_le h1] at hd; cases hd
  have h2 := row_lay h (i * 3 + 2) [.int .i64 x] (by simp; omega)
  unfold OwnPt
  rw [List.length_set, ← pt_set hd x]
  exact h2
theorem ptrow_free {w : World} {base gp n cap : Nat} {l : List PPt} (h : OwnPt w base (.slice (some ⟨gp, 0, none⟩) n cap) l) : (∀ j, w.frozen? ⟨gp, j, none⟩ = false) ∧ gp < w.heap.size ∧ base ≤ gp := by
  obtain ⟨h0, h1 | ⟨g', cap', cur, he, hb, hg, _⟩⟩ := h
  · cases h1.1
  cases he
  exact ⟨fun j => by simp [World.frozen?, hg], (Array.getElem?_eq_some_iff.1 hg).1, hb⟩
theorem drop_range_cons {m j : Nat} (h : j < m) : (List.range m).drop j = j :: (List.range m).drop (j + 1) := by
  rw [List.drop_eq_getElem_cons (by simpa using h)]
  simp
def sprS (lex : List PE) (k i : Nat) (p : List PPt) (s : Nat) : List (List PPt) := spreadL lex k (i + 1) (p.set i ⟨(p.getD i pt0).e, (p.getD i pt0).a, (s : Int)⟩)
theorem spreadL_succ (lex : List PE) (k i : Nat) (p : List PPt) : spreadL lex (k + 1) i p = (List.range (sensesP lex (p.getD i pt0).e).length).flatMap (sprS lex k i p) := rfl
def SprC (w0 : World) (g : GV) (G : PLang) (bo bf k : Nat) : Prop :=
  ∀ (i : Nat) (v : Value) (p : List PPt) (st : Fnd) (w : World), p.length = i + k → p.length ≤ 4 → Below w0.heap.size w0 w → StA w0.heap.size bo bf st w → OwnPt w w0.heap.size v p →
    Calls Tryz.prog 57 #[.agg #[.slice g.i.A g.i.n g.i.c, .string g.on, .slice g.u.A g.u.n g.u.c, .slice g.l.A g.l.n g.l.c, .slice g.r.A g.r.n g.r.c, .int .i64 g.q, .slice g.s.A g.s.n g.s.c, .slice g.f.A g.f.n g.f.c, .slice g.x.A g.x.n g.x.c], v, .int .i64 (i : Int), .func (.func 53) #[] #[.pointer (some ⟨bo, 0, none⟩), .pointer (some ⟨bf, 0, none⟩)]] w fun e w' =>
      e = .returned (.bool (foldE addF st (spreadL G.lex k i p)).2) ∧ StA w0.heap.size bo bf (foldE addF st (spreadL G.lex k i p)).1 w' ∧ Gs w0.heap.size w w'
theorem foldE_one (st : Fnd) (a : List PPt) : foldE addF st [a] = addF st a := by
  simp only [foldE]
  split
  · rename_i h; rw [← h]
  · rename_i h; rw [Bool.not_eq_true] at h; rw [← h]
set_option maxHeartbeats 16000000 in
set_option maxRecDepth 100000 in
theorem spread_step (w0 : World) (g : GV) (G : PLang) (bo bf : Nat) (hg : DpG w0 g G) (hlx : LxB G.lex) (k : Nat) (ih : ∀ k', k = k' + 1 → SprC w0 g G bo bf k') : SprC w0 g G bo bf k := by
  intro i v p st w hpk hp4 h0 hS hp
  have HIH := Lib.hid ih
  have HG := Lib.hid hg
  have HLX := Lib.hid hlx
  have HB0 := Lib.hid h0
  have HST := Lib.hid hS
  have HPO := Lib.hid hp
  obtain ⟨Ap, cp, rfl⟩ := own_sliceP hp
  obtain ⟨n, hn⟩ : ∃ n, p.length = n := ⟨_, rfl⟩
  have HN := Lib.hid hn
  rw [hn] at HPO hp4 hpk ⊢
  obtain ⟨fr, hfr⟩ : ∃ fr, foldE addF st (spreadL G.lex k i p) = fr := ⟨_, rfl⟩
  have HFR := Lib.hid hfr
  rw [hfr]
  have hn0 : w0.heap.size ≤ w.heap.size := h0.size
  have HPK := Lib.hid hpk
  clear ih hg hlx h0 hS hp hn hfr hpk
  go_enter Tryz.func57, Tryz.ntmps57
  go_upto_region 1 with (fail)
  generalize hW : World.alloc w _ = W
  have HBW : Hid (Below w.heap.size w W) := by rw [← hW]; exact al_below _ _
  have HGW : Hid (Gs w0.heap.size w W) := by rw [← hW]; exact Gs.of_below (al_below _ _) hn0
  have HQ : Hid (LgBlk W w.heap.size g) := by rw [← hW]; exact heap_alloc_new w _
  clear hW
  have HSW := Lib.hid (HST.out.below HBW.out)
  have HPW : Hid (OwnPt W w0.heap.size (.slice Ap n cp) p) := own_below HPO.out HBW.out
  have HB0W := Lib.hid (HB0.out.trans (HBW.out.mono HB0.out.size))
  have hn0W : w0.heap.size ≤ W.heap.size := HB0W.out.size
  by_cases hin : i = n
  · have d1 : ((i : Int) == (n : Int)) = true := by simp [hin]
    have hk0 : k = 0 := by have := HPK.out; omega
    have HF1 : Hid (fr = addF st p) := by rw [Hid, ← HFR.out, hk0, spreadL, foldE_one]
    have HNE : Hid (OwnPt (W.alloc (.cells #[] 65)) w0.heap.size (.slice (some ⟨W.heap.size, 0, none⟩) 0 0) []) := own_newP W _ _ rfl hn0W
    have HRP : Hid (RdPt (W.alloc (.cells #[] 65)) (.slice Ap n cp) p) := HPW.out.rd.below (al_below _ _)
    have HLL : Hid (([] : List PPt).length + p.length ≤ 1000000) := by rw [Hid, HN.out]; simp; omega
    have hbs : w0.heap.size ≤ (W.alloc (.cells #[] 65)).heap.size := by simp; omega
    have HWA : Hid (Below W.heap.size W (W.alloc (.cells #[] 65))) := al_below _ _
    clear hin hk0
    go_wp2_with (at_builtin; refine wpList_app_pts rfl (.tmp 16) (.tmp 17) rfl w0.heap.size (.slice (some ⟨W.heap.size, 0, none⟩) 0 0) [] rfl HNE.out (.slice Ap n cp) p rfl HRP.out HLL.out hbs ?_; intro v5 w5 ho hg; obtain ⟨A5, c5, h5⟩ := own_sliceP ho; subst h5; have HO5 : Hid (OwnPt w5 w0.heap.size (.slice A5 p.length c5) p) := ho; have HB5 : Hid (Below W.heap.size W w5) := (HWA.out.grown hg HWA.out.size (fun j hj => by cases hj; exact Nat.le_refl _)); clear ho hg)
    have hn5 : w0.heap.size ≤ w5.heap.size := by have := HB5.out.size; omega
    refine (add_any w0.heap.size bo bf st _ p w5 hn5 (HSW.out.below HB5.out) HO5.out).mono ?_
    rintro e w6 ⟨rfl, hs6, hg6⟩
    have HS6 := Lib.hid hs6
    have HG6 := Lib.hid hg6
    clear hs6 hg6
    obtain ⟨r1, hr1⟩ : ∃ r1, (addF st p).2 = r1 := ⟨_, rfl⟩
    have HR1 := Lib.hid hr1
    rw [hr1]
    clear hr1
    go_wp2_with fail
    go_ret
    exact ⟨by rw [HF1.out, HR1.out]; rfl, by rw [HF1.out]; exact HS6.out, HGW.out.trans ((Gs.of_below HB5.out hn0W).trans HG6.out)⟩
  · have d1 : ((i : Int) == (n : Int)) = false := by simp; omega
    have hlt : i < n := by have := HPK.out; omega
    obtain ⟨k', hk'⟩ : ∃ k', k = k' + 1 := ⟨k - 1, by have := HPK.out; omega⟩
    have HK := Lib.hid hk'
    obtain ⟨_, _, _, he, _, hcp63, HNP, HRP⟩ := HPW.out.rd.op
    cases he
    obtain ⟨b, off, q, hA, hb, hd, c0, c1, c2⟩ := HRP.out i hlt
    subst hA
    have HPQ : Hid (p.getD i pt0 = q) := by
      have h2 := congrArg List.head? hd.out
      rw [List.head?_drop] at h2
      simp only [Hid, List.getD, h2, List.head?_cons, Option.getD_some]
    have HFR2 : Hid (foldE addF st ((List.range (sensesP G.lex q.e).length).flatMap (sprS G.lex k' i p)) = fr) := by
      have h := HFR.out
      rw [HK.out, spreadL_succ, HPQ.out] at h
      exact h
    have hi0 : (0 : Int) ≤ (i : Int) := by omega
    clear hin hk' HRP HFR
    go_upto_region 3 with (fail)
    clear d1
    refine wp_region_all 10 (fun w' => Below W.heap.size W w') (by kernel_rfl) (by kernel_rfl) ?_
    rintro D hD
    have HSD : Hid (Below W.heap.size W D) := by rw [hD]; exact (Below.refl _ _).drew
    clear hD
    have HS : Hid (∀ w' : World, Below W.heap.size W w' → w'.cell? ⟨w.heap.size, 8, none⟩ = some (.slice g.x.A g.x.n g.x.c) ∧ w'.cell? ⟨b, off + i * 3, none⟩ = some (.int .i64 q.e)) :=
      fun w' h => ⟨(HQ.out.below h).facts.2.2.2.2.2.2.2.2.1, (h.cell (p := ⟨b, off + i * 3, none⟩) hb).trans c0⟩
    clear c0 c1 c2
    (refine wpS_take 0 (v := ?_) (by kernel_rfl) rfl rfl (by exact HSD.out) (fun w' hS => ?_) ?_; rotate_left; (focus ((try obtain ⟨s0, s1⟩ := HS.out _ hS); clear hS; go_simp; try with_reducible rfl; done)); (try simp only [Act.put, List.setIfInBounds_toArray, List.set_cons_zero, List.set_cons_succ]))
    (refine wpS_take 1 (v := ?_) (by kernel_rfl) rfl rfl (by exact HSD.out) (fun w' hS => ?_) ?_; rotate_left; (focus ((try obtain ⟨s0, s1⟩ := HS.out _ hS); clear hS; go_simp; try with_reducible rfl; done)); (try simp only [Act.put, List.setIfInBounds_toArray, List.set_cons_zero, List.set_cons_succ]))
    (refine wpS_take 2 (v := ?_) (by kernel_rfl) rfl rfl (by exact HSD.out) (fun w' hS => ?_) ?_; rotate_left; (focus ((try obtain ⟨s0, s1⟩ := HS.out _ hS); clear hS; go_simp; try with_reducible rfl; done)); (try simp only [Act.put, List.setIfInBounds_toArray, List.set_cons_zero, List.set_cons_succ]))
    (refine wpS_take 3 (v := ?_) (by kernel_rfl) rfl rfl (by exact HSD.out) (fun w' hS => ?_) ?_; rotate_left; (focus ((try obtain ⟨s0, s1⟩ := HS.out _ hS); clear hS; go_simp; try with_reducible rfl; done)); (try simp only [Act.put, List.setIfInBounds_toArray, List.set_cons_zero, List.set_cons_succ]))
    (refine wpS_take 4 (v := ?_) (by kernel_rfl) rfl rfl (by exact HSD.out) (fun w' hS => ?_) ?_; rotate_left; (focus ((try obtain ⟨s0, s1⟩ := HS.out _ hS); clear hS; go_simp; try with_reducible rfl; done)); (try simp only [Act.put, List.setIfInBounds_toArray, List.set_cons_zero, List.set_cons_succ]))
    (refine wpS_take 5 (v := ?_) (by kernel_rfl) rfl rfl (by exact HSD.out) (fun w' hS => ?_) ?_; rotate_left; (focus ((try obtain ⟨s0, s1⟩ := HS.out _ hS); clear hS; go_simp; try with_reducible rfl; done)); (try simp only [Act.put, List.setIfInBounds_toArray, List.set_cons_zero, List.set_cons_succ]))
    (refine wpS_take 6 (v := ?_) (by kernel_rfl) rfl rfl (by exact HSD.out) (fun w' hS => ?_) ?_; rotate_left; (focus ((try obtain ⟨s0, s1⟩ := HS.out _ hS); clear hS; go_simp; try with_reducible rfl; done)); (try simp only [Act.put, List.setIfInBounds_toArray, List.set_cons_zero, List.set_cons_succ]))
    (refine wpS_take 9 (v := ?_) (by kernel_rfl) rfl rfl (by exact HSD.out) (fun w' hS => ?_) ?_; rotate_left; (focus ((try obtain ⟨s0, s1⟩ := HS.out _ hS); clear hS; go_simp; try with_reducible rfl; done)); (try simp only [Act.put, List.setIfInBounds_toArray, List.set_cons_zero, List.set_cons_succ]))
    (refine wpS_br [7] (by kernel_rfl) ?_; refine AllS.cons rfl rfl (fun K hK => ?_) AllS.nil)
    go_simp
    refine (senses_any _ G.lex q.e _ ((HG.out.below (HB0W.out.trans (HSD.out.mono hn0W))).x) HLX.out.len HLX.out.sn).mono ?_
    rintro e w1 ⟨⟨vs, rfl, hvs⟩, hb1⟩
    obtain ⟨As, ns, cs, rfl, _, _, HNS, _⟩ := hvs.op
    have HS1 := Lib.hid (bchain HSD.out hb1)
    refine hK.out _ _ HS1.out ?_
    clear hK K HS hb1 hvs
    (try simp only [Act.put, List.setIfInBounds_toArray, List.set_cons_zero, List.set_cons_succ])
    (refine wpS_take 8 (v := ?_) (by kernel_rfl) rfl rfl (by exact HS1.out) (fun w' hS => ?_) ?_; rotate_left; (focus (clear hS; go_simp; try with_reducible rfl; done)); (try simp only [Act.put, List.setIfInBounds_toArray, List.set_cons_zero, List.set_cons_succ]))
    refine wpS_nil (by kernel_rfl) ?_
    refine NoPanic.normal ?_
    rw [HNS.out] at HFR2
    have HG1 : Hid (Gs w0.heap.size w w1) := HGW.out.trans (Gs.of_below HS1.out hn0W)
    have HST1 := Lib.hid (HSW.out.below HS1.out)
    have HQ1 := Lib.hid (HQ.out.below HS1.out)
    have HP1 : Hid (OwnPt w1 w0.heap.size (.slice (some ⟨b, off, none⟩) n cp) p) := own_below HPW.out HS1.out
    have HB1 := Lib.hid (HB0W.out.trans (HS1.out.mono hn0W))
    clear HPW HSW HGW HQ HB0W hb
    go_wp2_with fail
    go_loopw [30] (fun v30 wr => ∃ (j : Nat) (s2 : Fnd), j ≤ ns ∧ v30 = .int .i64 j ∧ Hid (foldE addF s2 (((List.range ns).drop j).flatMap (sprS G.lex k' i p)) = fr) ∧ Hid (StA w0.heap.size bo bf s2 wr) ∧ Hid (Gs w0.heap.size w1 wr)) (fun v30 _ => ns - (intOf v30).toNat)
    case atStart => exact ⟨0, st, Nat.zero_le _, rfl, HFR2.out, HST1.out, Gs.refl _ _⟩
    case round =>
      obtain ⟨j, s2, hj, rfl, HFJ, HSJ, HGJ⟩ := hrel
      by_cases hjt : j < ns
      · have HFJ2 : Hid ((if (foldE addF s2 (sprS G.lex k' i p j)).2 then foldE addF (foldE addF s2 (sprS G.lex k' i p j)).1 (((List.range ns).drop (j + 1)).flatMap (sprS G.lex k' i p)) else ((foldE addF s2 (sprS G.lex k' i p j)).1, false)) = fr) := by
          have h := HFJ.out
          rw [drop_range_cons hjt, List.flatMap_cons, foldE_append] at h
          exact h
        have HPJ := Lib.hid (HGJ.out.toGw.ownPt HP1.out)
        have HQJ := Lib.hid (HGJ.out.toGw.lg HQ1.out)
        have hnj : w0.heap.size ≤ wr.heap.size := by have := HGJ.out.toGw.size; have := HB1.out.size; omega
        have HBJ : Hid (Below w0.heap.size w0 wr) := HB1.out.trans HGJ.out.toGw.b
        have hjj : (0 : Int) ≤ (j : Int) := by omega
        have HNE : Hid (OwnPt (wr.alloc (.cells #[] 65)) wr.heap.size (.slice (some ⟨wr.heap.size, 0, none⟩) 0 0) []) := own_newP wr _ _ rfl (Nat.le_refl _)
        have HRP : Hid (RdPt (wr.alloc (.cells #[] 65)) (.slice (some ⟨b, off, none⟩) n cp) p) := HPJ.out.rd.below (al_below _ _)
        have HLL : Hid (([] : List PPt).length + p.length ≤ 1000000) := by rw [Hid, HN.out]; simp; omega
        have hbs : wr.heap.size ≤ (wr.alloc (.cells #[] 65)).heap.size := by simp
        have HWA : Hid (Below wr.heap.size wr (wr.alloc (.cells #[] 65))) := al_below _ _
        have HPOS : Hid (0 < p.length) := by rw [Hid, HN.out]; omega
        clear HFJ
        go_upto_region 7 with (at_builtin; refine wpList_app_pts rfl (.tmp 33) (.tmp 34) rfl wr.heap.size (.slice (some ⟨wr.heap.size, 0, none⟩) 0 0) [] rfl HNE.out (.slice (some ⟨b, off, none⟩) n cp) p rfl HRP.out HLL.out hbs ?_; intro v5 w5 ho hg; obtain ⟨gp, cpp, h5, _, _⟩ := World.ownsRow.form ho HPOS.out; subst h5; have HO5 : Hid (OwnPt w5 wr.heap.size (.slice (some ⟨gp, 0, none⟩) p.length cpp) p) := ho; have HB5 : Hid (Below wr.heap.size wr w5) := (HWA.out.grown hg HWA.out.size (fun j hj => by cases hj; exact Nat.le_refl _)); clear ho hg)
        obtain ⟨hfr5, hgl5, hgb5⟩ := ptrow_free HO5.out
        have hf5 := hfr5 (i * 3 + 2)
        have HNL := HN.out
        rw [HNL] at HO5
        rw [HNL]
        clear HNL
        obtain ⟨_, _, _, he5, hnc5, hcm5, _, hr5⟩ := HO5.out.rd.op
        cases he5
        obtain ⟨b5, off5, q5, hA5, hb5, hd5, e0, e1, e2⟩ := hr5.out i hlt
        injection hA5 with hA6
        injection hA6 with hA7 hA8
        subst hA7 hA8
        simp only [Nat.zero_add] at e0 e1 e2
        clear hr5 hfr5 e0 e1 hd5 hb5
        have HXO : Hid (OwnPt (w5.setCell ⟨gp, i * 3 + 2, none⟩ (.int .i64 (j : Int))) wr.heap.size (.slice (some ⟨gp, 0, none⟩) n cpp) (p.set i ⟨q.e, q.a, (j : Int)⟩)) := HO5.out.set_ HN.out hd.out (j : Int)
        have HXB : Hid (Below wr.heap.size wr (w5.setCell ⟨gp, i * 3 + 2, none⟩ (.int .i64 (j : Int)))) := HB5.out.setCell (by exact hgb5) _
        go_upto_region 8 with (fail)
        generalize w5.setCell ⟨gp, i * 3 + 2, none⟩ (.int .i64 (j : Int)) = X at HXO HXB ⊢
        obtain ⟨z0, z1, z2, z3, z4, z5, z6, z7, z8, zl⟩ := (HQJ.out.below HXB.out).facts
        clear e2 hf5 HO5 HB5 HNE HRP HLL hbs HWA HPOS hgl5 hgb5 hnc5 hcm5
        have hcall := HIH.out k' HK.out (i + 1) (.slice (some ⟨gp, 0, none⟩) n cpp) (p.set i ⟨q.e, q.a, (j : Int)⟩) s2 X (by rw [List.length_set, HN.out]; have := HPK.out; have := HK.out; omega) (by rw [List.length_set, HN.out]; exact hp4) (HBJ.out.trans (HXB.out.mono hnj)) (HSJ.out.below HXB.out) (own_base HXO.out hnj)
        have hcast : ((i + 1 : Nat) : Int) = (i : Int) + 1 := by omega
        have hspr : spreadL G.lex k' (i + 1) (p.set i ⟨q.e, q.a, (j : Int)⟩) = sprS G.lex k' i p j := by rw [sprS, HPQ.out]
        rw [hcast, hspr] at hcall
        have HC := Lib.hid hcall
        clear hcall hcast hspr
        go_wp2_with fail
        refine HC.out.mono ?_
        rintro e w6 ⟨rfl, hs6, hg6⟩
        have HS6 := Lib.hid hs6
        have HG6 : Hid (Gs w0.heap.size w1 w6) := HGJ.out.trans ((Gs.of_below HXB.out hnj).trans hg6)
        clear hs6 hg6 z0 z1 z2 z3 z4 z5 z6 z7 z8 zl
        obtain ⟨r, hr⟩ : ∃ r, foldE addF s2 (sprS G.lex k' i p j) = r := ⟨_, rfl⟩
        rw [hr] at HFJ2 HS6 ⊢
        clear hr HC
        obtain ⟨s3, b3⟩ := r
        simp only at HFJ2 HS6 ⊢
        cases b3
        · have HF6 : Hid (fr = (s3, false)) := by
            have h := HFJ2.out
            simp at h
            exact h.symm
          go_wp2_with fail
          go_ret
          exact ⟨by rw [HF6.out]; rfl, by rw [HF6.out]; exact HS6.out, HG1.out.trans HG6.out⟩
        · have HF6 : Hid (foldE addF s3 (((List.range ns).drop (j + 1)).flatMap (sprS G.lex k' i p)) = fr) := by
            have h := HFJ2.out
            simp at h
            exact h
          go_wp2_with fail
          go_roundw
          case rel => exact ⟨j + 1, s3, by omega, by go_num, HF6.out, HS6.out, HG6.out⟩
          case measure => simp [intOf]; omega
      · have HF6 : Hid (fr = (s2, true)) := by
          have h := HFJ.out
          rw [List.drop_of_length_le (by simp; omega)] at h
          exact h.symm
        go_wp2_with fail
        go_ret
        exact ⟨by rw [HF6.out]; rfl, by rw [HF6.out]; exact HSJ.out, HG1.out.trans HGJ.out⟩
theorem spread_any (w0 : World) (g : GV) (G : PLang) (bo bf : Nat) (hg : DpG w0 g G) (hlx : LxB G.lex) : ∀ k, SprC w0 g G bo bf k
  | 0 => spread_step w0 g G bo bf hg hlx 0 (fun k' h => by omega)
  | k + 1 => spread_step w0 g G bo bf hg hlx (k + 1) (fun k' h => by
      have h : k = k' := by omega
      rw [← h]
      exact spread_any w0 g G bo bf hg hlx k)
end Go.Proofs.YtiopgbbggeimaaaGreat
