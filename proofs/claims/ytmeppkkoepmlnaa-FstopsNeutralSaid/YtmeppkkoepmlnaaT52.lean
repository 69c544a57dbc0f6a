/-
  FstopsNeutral: the walk.
-/
import Derived.Test.YtmeppkkoepmlnaaT51
namespace Go.Proofs.Ytmeppkkoepmlnaa
open Go.ChangeShapes Go.WideShapes Go.ChangeAt Go.RowKit
theorem ngood_any (v vx vy : Value) (F : PFst) (xs ys : List Int) (w : World) (hv : RdF w v F) (hx : RdI w vx xs) (hy : RdI w vy ys) (hG : Good F) (hX : xs.length ≤ 1000) (hY : ys.length ≤ 1000) :
    Calls Try.prog 38 #[v, vx, vy] w fun e w' => e = .returned (.bool (accB F xs ys)) ∧ Below w.heap.size w w' :=
  faccepts_any v vx vy F xs ys w hv hx hy hG.right hG.ord hG.s2 hG.len (by have := final_len hG.ord hG.fin; have := hG.s2; omega) hX hY
theorem mem_symsOf {L : List PArc} {x : Int} : x ∈ symsOf L ↔ ∃ a, a ∈ L ∧ (x = a.inp ∨ x = a.out) := by simp [symsOf]
theorem outs_in {a : PFst} (ha : Good a) {q : Int} {xs ys : List Int} (h : Path a.arcs 0 q xs ys) : (∀ x, x ∈ xs → x ∈ symsOf a.arcs ∧ okSym x = true) ∧ ∀ x, x ∈ ys → x ∈ symsOf a.arcs ∧ okSym x = true := by
  refine Path.induct (P := fun _ xs ys => (∀ x, x ∈ xs → x ∈ symsOf a.arcs ∧ okSym x = true) ∧ ∀ x, x ∈ ys → x ∈ symsOf a.arcs ∧ okSym x = true) ⟨by simp, by simp⟩ ?_ h
  intro z hz xs ys _ ih
  obtain ⟨_, _, ⟨i0, i1⟩, ⟨o0, o1⟩⟩ := ha.arc z hz
  have key : ∀ (y x : Int), 0 ≤ y → y ≤ 1099511627776 → (y = z.inp ∨ y = z.out) → x ∈ sym y → x ∈ symsOf a.arcs ∧ okSym x = true := by
    intro y x h0 h1 hy hx
    unfold sym at hx
    split at hx
    · cases hx
    · simp at hx
      subst hx
      exact ⟨mem_symsOf.2 ⟨z, hz, hy⟩, by simp [okSym]; omega⟩
  refine ⟨fun x hx => ?_, fun x hx => ?_⟩
  · rcases List.mem_append.1 hx with h | h
    · exact key z.inp x i0 i1 (.inl rfl) h
    · exact ih.1 x h
  · rcases List.mem_append.1 hx with h | h
    · exact key z.out x o0 o1 (.inr rfl) h
    · exact ih.2 x h
theorem allL_has {a : PFst} (ha : Good a) {xs ys : List Int} {q : Int} (h : Path a.arcs 0 q xs ys) (us vs : List Int) : (∀ x, x ∈ xs → x ∈ allL a us vs) ∧ ∀ x, x ∈ ys → x ∈ allL a us vs := by
  obtain ⟨h1, h2⟩ := outs_in ha h
  exact ⟨fun x hx => (onceL_mem _ _).2 ⟨by simp [(h1 x hx).1], (h1 x hx).2⟩, fun x hx => (onceL_mem _ _).2 ⟨by simp [(h2 x hx).1], (h2 x hx).2⟩⟩
theorem allL_len {a : PFst} (ha : LightOk a) {xs ys : List Int} (h1 : xs.length ≤ 4) (h2 : ys.length ≤ 4) : (allL a xs ys).length ≤ 24 := by
  have h := onceL_len (xs ++ ys ++ symsOf a.arcs)
  have := ha.n
  simp only [List.length_append, symsOf_len] at h
  unfold allL
  omega
theorem ident_mid {l : List Int} (h : SymOk l) (hl : l.length ≤ 24) : Mid (identF l) := ⟨ident_good l h (by omega), by simp [identF], by simp [identF]; omega⟩
theorem neutral_same {a : PFst} (ha : LightOk a) {xs ys : List Int} (h1 : xs.length ≤ 4) (h2 : ys.length ≤ 4) (us vs : List Int) :
    accB (compF a (identF (allL a xs ys))) us vs = accB a us vs ∧ accB (compF (identF (allL a xs ys)) a) us vs = accB a us vs := by
  have hl := allL_len ha h1 h2
  have ho : SymOk (allL a xs ys) := onceL_ok _
  have hm := ident_mid ho hl
  have p : ∀ {F : PFst}, Mid F → 0 ≤ F.states := fun h => by have := h.good.s1; omega
  constructor
  · rw [Bool.eq_iff_iff, accB_iff, accB_iff, comp_acc ha.good hm.good (compF_is (p ha.mid) (p hm)) (mid_good ha.mid hm)]
    constructor
    · rintro ⟨ws, h3, h4⟩
      obtain ⟨rfl, _⟩ := (ident_acc _ ho (by omega) _ _).1 h4
      exact h3
    · intro h
      obtain ⟨_, _, q, _, hp⟩ := id h
      exact ⟨vs, h, (ident_acc _ ho (by omega) _ _).2 ⟨rfl, (allL_has ha.good hp xs ys).2⟩⟩
  · rw [Bool.eq_iff_iff, accB_iff, accB_iff, comp_acc hm.good ha.good (compF_is (p hm) (p ha.mid)) (mid_good hm ha.mid)]
    constructor
    · rintro ⟨ws, h3, h4⟩
      obtain ⟨rfl, _⟩ := (ident_acc _ ho (by omega) _ _).1 h3
      exact h4
    · intro h
      obtain ⟨_, _, q, _, hp⟩ := id h
      exact ⟨us, (ident_acc _ ho (by omega) _ _).2 ⟨rfl, (allL_has ha.good hp xs ys).1⟩, h⟩
theorem symE_ok {l : List Int} (h : SymOk l) (hl : l.length ≤ 24) : wrongE 60 [l] = 0 := by
  rw [wrongE_one, symE, if_neg (by omega), if_pos]
  simp only [symsB, List.all_eq_true, symOk1]
  intro x hx
  have := h x hx
  simp; omega
set_option maxHeartbeats 8000000 in
set_option maxRecDepth 100000 in
theorem neutral_walk (v x : Value) (a : PFst) (xs ys : List Int) (w : World) (hv : RdF w v a) (hx : RdT w x xs ys) :
    Calls Try.prog 13 #[v, x] w fun e w' => e = .returned (.bool true) ∧ Below w.heap.size w w' := by
  obtain ⟨va, vf, rfl, ha, hf⟩ := id hv
  obtain ⟨A1, n1, c1, rfl, _, _, _, _⟩ := ha.op
  obtain ⟨A2, n2, c2, rfl, _, _, _, _⟩ := hf.op
  obtain ⟨vx, vy, rfl, hx1, hx2⟩ := id hx
  obtain ⟨X1, k1, e1, rfl, _, _, _, _⟩ := hx1.op
  obtain ⟨X2, k2, e2, rfl, _, _, _, _⟩ := hx2.op
  have HV := Lib.hid hv
  have HX := Lib.hid hx
  have HX1 := Lib.hid hx1
  have HX2 := Lib.hid hx2
  clear ha hf hx1 hx2 hv hx
  go_enter Try.func13, Try.ntmps13
  go_wp2_with fail
  generalize hW : World.alloc (World.alloc w _) _ = W
  have HP1 : Hid (FBlk W w.heap.size (.int .i64 a.states) (.slice A1 n1 c1) (.slice A2 n2 c2)) := by
    rw [← hW]; exact (Below.heap_alloc _ _ _ (by first | omega | (simp; done) | (simp; omega))).trans (heap_alloc_new w _)
  have HP3 : Hid (TBlk W (w.heap.size + 1) (.slice X1 k1 e1) (.slice X2 k2 e2)) := by
    rw [Hid, TBlk, ← hW]
    have := heap_alloc_new (w.alloc (.cells #[.int .i64 a.states, .slice A1 n1 c1, .slice A2 n2 c2] 29)) (.cells #[.slice X1 k1 e1, .slice X2 k2 e2] 24)
    simpa using this
  have HBW : Hid (Below w.heap.size w W) := by rw [← hW]; repeat (first | assumption | exact Below.refl _ _ | refine Below.alloc ?_ (by first | omega | (simp; done) | (simp; omega)) _ | refine Below.drew ?_ | refine below_drewN ?_ _ | refine Below.setCell ?_ (by first | omega | (simp; done) | (simp; omega)) _)
  clear hW
  have HV := Lib.hid (HV.out.below HBW.out)
  have HX := Lib.hid (HX.out.below HBW.out)
  have HX1 := Lib.hid (HX1.out.below HBW.out)
  have HX2 := Lib.hid (HX2.out.below HBW.out)
  refine (light_any _ a _ HV.out).mono ?_
  rintro e w1 ⟨rfl, hb⟩
  have HB1 := Lib.hid hb
  clear hb
  cases hla : lightB a
  · skip
    go_wp2_with fail
    refine (awake_any _).mono ?_
    rintro e wz ⟨rfl, hbz⟩
    have HBZ := Lib.hid (bchain (HB1).out hbz)
    clear hbz
    go_wp2_with fail
    go_ret
    exact ⟨rfl, bchain HBW.out HBZ.out⟩
  obtain ⟨p0, p1, hp⟩ := (HP3.out.below HB1.out).facts
  go_wp2_with fail
  refine (short_any _ xs ys _ (HX.out.below HB1.out)).mono ?_
  rintro e w3 ⟨rfl, hb⟩
  have HB3 := Lib.hid (bchain HB1.out hb)
  clear hb p0 p1 hp HB1
  cases hsh : (decide (xs.length ≤ 4) && decide (ys.length ≤ 4))
  · skip
    go_wp2_with fail
    refine (awake_any _).mono ?_
    rintro e wz ⟨rfl, hbz⟩
    have HBZ := Lib.hid (bchain (HB3).out hbz)
    clear hbz
    go_wp2_with fail
    go_ret
    exact ⟨rfl, bchain HBW.out HBZ.out⟩
  have HLA := Lib.hid (lightOk hla)
  simp only [Bool.and_eq_true, decide_eq_true_eq] at hsh
  have HSH := Lib.hid hsh
  clear hla hsh
  have BA : Hid (Box W w.heap.size a) := ⟨_, _, HP1.out, HV.out⟩
  have HT := HP3
  have HMA := Lib.hid HLA.out.mid
  clear HP1 HP3 HV
  have HBW := Lib.hid (bchain HBW.out (HB3).out)
  have BA := Lib.hid (BA.out.below (HB3).out)
  have HT := Lib.hid (HT.out.below (HB3).out)
  have HX := Lib.hid (HX.out.below (HB3).out)
  have HX1 := Lib.hid (HX1.out.below (HB3).out)
  have HX2 := Lib.hid (HX2.out.below (HB3).out)
  obtain ⟨W, rfl⟩ : ∃ W' : World, W' = w3 := ⟨_, rfl⟩
  clear HB3
  obtain ⟨t0, t1, ht⟩ := HT.out.facts
  obtain ⟨_, _, _, _, _, _, p0, p1, p2, hg1, HRA⟩ := BA.out.open
  go_wp2_with fail
  refine (all_any _ _ a xs ys _ HRA.out HX.out (by have := HLA.out.n; omega) (le4 HSH.out.1) (le4 HSH.out.2)).mono ?_
  rintro e w4 ⟨⟨vl, rfl, hol⟩, hb⟩
  have HB4 := Lib.hid hb
  have HOL := Lib.hid hol.rd
  obtain ⟨Al, nl, cl, rfl, _, _, _, _⟩ := hol.rd.op
  clear hb hol t0 t1 ht p0 p1 p2 hg1 HRA
  have HLEN := Lib.hid (allL_len HLA.out HSH.out.1 HSH.out.2)
  have HSO : Hid (SymOk (allL a xs ys)) := onceL_ok _
  have HNA := Lib.hid (neutral_same HLA.out HSH.out.1 HSH.out.2 xs ys)
  generalize allL a xs ys = nn at HOL HLEN HSO HNA
  have HMN := Lib.hid (ident_mid HSO.out HLEN.out)
  go_wp2_with fail
  refine (ident_yes _ nn _ HOL.out (by have := HLEN.out; omega) (symE_ok HSO.out HLEN.out)).mono ?_
  rintro e w5 ⟨⟨vF, rfl, hof⟩, hb⟩
  obtain ⟨oa, of, he, hca, hcf⟩ := id hof
  subst he
  obtain ⟨C1, z1, o1, rfl, _, _, _, _⟩ := hca.rd.op
  obtain ⟨C2, z2, o2, rfl, _, _, _, _⟩ := hcf.rd.op
  have HB5 := Lib.hid (bchain HB4.out hb)
  have HOF := Lib.hid hof.rd
  clear hb hof hca hcf
  go_wp2_with fail
  generalize hX3 : World.alloc w5 _ = W5
  have BN : Hid (Box W5 w5.heap.size (identF nn)) := by rw [← hX3]; exact Box.make HOF.out
  have HB6 : Hid (Below W.heap.size W W5) := by rw [← hX3]; exact HB5.out.alloc HB5.out.size _
  have HOF6 : Hid (RdF W5 (.agg #[.int .i64 (identF nn).states, .slice C1 z1 o1, .slice C2 z2 o2]) (identF nn)) := by rw [← hX3]; exact HOF.out.below ((Below.refl _ _).alloc (Nat.le_refl _) _)
  clear hX3
  generalize w5.heap.size = gn at BN ⊢
  refine (fcheck_ok _ (identF nn) _ HOF6.out HMN.out.good).mono ?_
  rintro e w6 ⟨rfl, hb⟩
  have HB7 := Lib.hid (bchain HB6.out hb)
  have BN := Lib.hid (BN.out.below hb)
  clear hb HB4 HB5 HB6 HOF HOF6 HOL
  have HBW := Lib.hid (bchain HBW.out (HB7).out)
  have BA := Lib.hid (BA.out.below (HB7).out)
  have HT := Lib.hid (HT.out.below (HB7).out)
  have HX := Lib.hid (HX.out.below (HB7).out)
  have HX1 := Lib.hid (HX1.out.below (HB7).out)
  have HX2 := Lib.hid (HX2.out.below (HB7).out)
  clear HB7
  go_upto_region 6 with (fail)
  obtain ⟨W, rfl⟩ : ∃ W' : World, W' = w6 := ⟨_, rfl⟩
  go_cut [7, 8] (fun s7 s8 wx => ∃ g : Nat, s7 = .pointer (some ⟨g, 0, none⟩) ∧ s8 = .int .i64 0 ∧ Hid (Box wx g (compF a (identF nn))) ∧ Hid (Below W.heap.size W wx))
  case first =>
    obtain ⟨A1, n1, c1, A2, n2, c2, p0, p1, p2, hg1, HRA⟩ := (BA).out.open
    obtain ⟨B1, m1, d1, B2, m2, d2, q0, q1, q2, hg2, HRB⟩ := (BN).out.open
    have HS := Lib.hid (fun (w' : World) (h : Below W.heap.size W w') => And.intro ((h.cell hg1).trans p0) (And.intro ((h.cell hg1).trans p1) (And.intro ((h.cell hg1).trans p2) (And.intro ((h.cell hg2).trans q0) (And.intro ((h.cell hg2).trans q1) ((h.cell hg2).trans q2))))))
    clear p0 p1 p2 q0 q1 q2
    refine wp_region_steps 11 9 [0, 1, 2, 3, 4, 5, 6, 8] [7] (fun w' => Below W.heap.size W w') (by kernel_rfl) (by kernel_rfl) ?_
    rintro D hD
    have HSD : Hid (Below W.heap.size W D) := by rw [hD]; exact (Below.refl _ _).drew
    clear hD
    (refine wpE_take 0 (v := ?_) (by kernel_rfl) rfl rfl (by exact HSD.out) (fun w' hS => ?_) ?_; rotate_left; (focus ((try obtain ⟨s0, s1, s2, s3, s4, s5⟩ := HS.out _ (hS rfl)); clear hS; go_simp; try with_reducible rfl; done)); (try simp only [Act.put, List.setIfInBounds_toArray, List.set_cons_zero, List.set_cons_succ]))
    (refine wpE_take 2 (v := ?_) (by kernel_rfl) rfl rfl (by exact HSD.out) (fun w' hS => ?_) ?_; rotate_left; (focus ((try obtain ⟨s0, s1, s2, s3, s4, s5⟩ := HS.out _ (hS rfl)); clear hS; go_simp; try with_reducible rfl; done)); (try simp only [Act.put, List.setIfInBounds_toArray, List.set_cons_zero, List.set_cons_succ]))
    refine wpE_br [1, 8] (by kernel_rfl) ?_
    refine AllE.cons rfl rfl (fun K hK => ?_) (AllE.cons rfl rfl (fun K hK => ?_) AllE.nil)
    · skip
      go_simp
      refine (copy_any _ a _ ((HRA).out.below HSD.out) (HMA).out.n3 (HMA).out.f3).mono ?_
      rintro e Y1 ⟨⟨vcA, rfl, hrc⟩, hb⟩
      obtain ⟨caA, cfA, he, hca, hcf⟩ := id hrc
      subst he
      obtain ⟨_, _, _, rfl, _, _, _, _⟩ := hca.rd.op
      obtain ⟨_, _, _, rfl, _, _, _, _⟩ := hcf.rd.op
      refine hK.out _ _ (bchain HSD.out hb) ?_
      clear hK K hca hcf
      (try simp only [Act.put, List.setIfInBounds_toArray, List.set_cons_zero, List.set_cons_succ])
      have HSY1 := Lib.hid (bchain HSD.out hb)
      have HXY1 := Lib.hid hb
      have RAY1 := Lib.hid hrc.rd
      clear hrc hb
      refine wpE_br [3, 8] (by kernel_rfl) ?_
      refine AllE.cons rfl rfl (fun K hK => ?_) (AllE.cons rfl rfl (fun K hK => ?_) AllE.nil)
      · skip
        go_simp
        refine (copy_any _ (identF nn) _ ((HRB).out.below HSY1.out) (HMN).out.n3 (HMN).out.f3).mono ?_
        rintro e Y2 ⟨⟨vcB, rfl, hrc⟩, hb⟩
        obtain ⟨caB, cfB, he, hca, hcf⟩ := id hrc
        subst he
        obtain ⟨_, _, _, rfl, _, _, _, _⟩ := hca.rd.op
        obtain ⟨_, _, _, rfl, _, _, _, _⟩ := hcf.rd.op
        refine hK.out _ _ (bchain HSY1.out hb) ?_
        clear hK K hca hcf
        (try simp only [Act.put, List.setIfInBounds_toArray, List.set_cons_zero, List.set_cons_succ])
        have HSY2 := Lib.hid (bchain HSY1.out hb)
        have HXY2 := Lib.hid hb
        have RBY2 := Lib.hid hrc.rd
        clear hrc hb
        refine wpE_br [4, 8] (by kernel_rfl) ?_
        refine AllE.cons rfl rfl (fun K hK => ?_) (AllE.cons rfl rfl (fun K hK => ?_) AllE.nil)
        · skip
          go_simp
          refine (mcompose_any _ _ a (identF nn) _ (RAY1.out.below HXY2.out) RBY2.out (HMA).out (HMN).out).mono ?_
          rintro e Y3 ⟨⟨vF, rfl, hrc⟩, hb⟩
          obtain ⟨oa, of, he, hca, hcf⟩ := id hrc
          subst he
          obtain ⟨_, _, _, rfl, _, _, _, _⟩ := hca.rd.op
          obtain ⟨_, _, _, rfl, _, _, _, _⟩ := hcf.rd.op
          refine hK.out _ _ (bchain HSY2.out hb) ?_
          clear hK K hca hcf
          (try simp only [Act.put, List.setIfInBounds_toArray, List.set_cons_zero, List.set_cons_succ])
          have HSY3 := Lib.hid (bchain HSY2.out hb)
          have HXY3 := Lib.hid hb
          have OY3 := Lib.hid hrc
          clear hrc hb
          (refine wpE_take 5 (v := ?_) (by kernel_rfl) rfl rfl (by exact HSY3.out) (fun w' hS => ?_) ?_; rotate_left; (focus ((try obtain s0 := HS.out _ (hS rfl)); clear hS; go_simp; try with_reducible rfl; done)); (try simp only [Act.put, List.setIfInBounds_toArray, List.set_cons_zero, List.set_cons_succ]))
          (refine wpE_take 6 (v := ?_) (by kernel_rfl) rfl rfl (by exact HSY3.out) (fun w' hS => ?_) ?_; rotate_left; (focus ((try obtain s0 := HS.out _ (hS rfl)); clear hS; go_simp; try with_reducible rfl; done)); (try simp only [Act.put, List.setIfInBounds_toArray, List.set_cons_zero, List.set_cons_succ]))
          (refine wpE_take 7 (v := ?_) (by kernel_rfl) rfl rfl (by exact HSY3.out) (fun w' hS => ?_) ?_; rotate_left; (focus ((try obtain s0 := HS.out _ (hS rfl)); clear hS; go_simp; try with_reducible rfl; done)); (try simp only [Act.put, List.setIfInBounds_toArray, List.set_cons_zero, List.set_cons_succ]))
          refine wpE_br [8] (by kernel_rfl) ?_
          refine AllE.cons rfl rfl (fun K hK => ?_) AllE.nil
          go_simp
          refine hK.out _ _ (HSY3.out.alloc HSY3.out.size _) ?_
          clear hK K
          (try simp only [Act.put, List.setIfInBounds_toArray, List.set_cons_zero, List.set_cons_succ])
          generalize hX : World.alloc Y3 _ = Y4
          have HSY4 : Hid (Below W.heap.size W Y4) := by rw [← hX]; exact HSY3.out.alloc HSY3.out.size _
          have HXY4 : Hid (Below Y3.heap.size Y3 Y4) := by rw [← hX]; exact (Below.refl _ _).alloc (Nat.le_refl _) _
          have ZY4 : Hid (FBlk Y4 Y3.heap.size (.int .i64 0) (.slice none 0 0) (.slice none 0 0)) := by rw [← hX]; exact heap_alloc_new _ _
          clear hX
          have OY4 := Lib.hid (OY3.out.below HXY4.out)
          have hge : W.heap.size ≤ Y3.heap.size := HSY3.out.size
          refine wpE_rest 9 (by kernel_rfl) ?_
          simp only [List.drop_succ_cons, List.drop_zero]
          obtain ⟨r0, r1, r2, f0, f1, f2⟩ := (ZY4).out.facts
          go_wp2_with fail
          refine NoPanic.normal ?_
          go_wp2_with fail
          go_meet
          case rel => exact ⟨_, rfl, rfl, Box.stored (OY4).out (ZY4).out, ((HSY4.out.setCell (by exact hge) _).setCell (by exact hge) _).setCell (by exact hge) _⟩
        · skip
          go_simp
          refine hK.out _ _ (HSY2.out.alloc HSY2.out.size _) ?_
          clear hK K
          (try simp only [Act.put, List.setIfInBounds_toArray, List.set_cons_zero, List.set_cons_succ])
          generalize hX : World.alloc Y2 _ = Y3
          have HSY3 : Hid (Below W.heap.size W Y3) := by rw [← hX]; exact HSY2.out.alloc HSY2.out.size _
          have HXY3 : Hid (Below Y2.heap.size Y2 Y3) := by rw [← hX]; exact (Below.refl _ _).alloc (Nat.le_refl _) _
          have ZY3 : Hid (FBlk Y3 Y2.heap.size (.int .i64 0) (.slice none 0 0) (.slice none 0 0)) := by rw [← hX]; exact heap_alloc_new _ _
          clear hX
          refine wpE_br [4] (by kernel_rfl) ?_
          refine AllE.cons rfl rfl (fun K hK => ?_) AllE.nil
          go_simp
          refine (mcompose_any _ _ a (identF nn) _ ((RAY1.out.below HXY2.out).below HXY3.out) (RBY2.out.below HXY3.out) (HMA).out (HMN).out).mono ?_
          rintro e Y4 ⟨⟨vF, rfl, hrc⟩, hb⟩
          obtain ⟨oa, of, he, hca, hcf⟩ := id hrc
          subst he
          obtain ⟨_, _, _, rfl, _, _, _, _⟩ := hca.rd.op
          obtain ⟨_, _, _, rfl, _, _, _, _⟩ := hcf.rd.op
          refine hK.out _ _ (bchain HSY3.out hb) ?_
          clear hK K hca hcf
          (try simp only [Act.put, List.setIfInBounds_toArray, List.set_cons_zero, List.set_cons_succ])
          have HSY4 := Lib.hid (bchain HSY3.out hb)
          have HXY4 := Lib.hid hb
          have OY4 := Lib.hid hrc
          clear hrc hb
          (refine wpE_take 5 (v := ?_) (by kernel_rfl) rfl rfl (by exact HSY4.out) (fun w' hS => ?_) ?_; rotate_left; (focus ((try obtain s0 := HS.out _ (hS rfl)); clear hS; go_simp; try with_reducible rfl; done)); (try simp only [Act.put, List.setIfInBounds_toArray, List.set_cons_zero, List.set_cons_succ]))
          (refine wpE_take 6 (v := ?_) (by kernel_rfl) rfl rfl (by exact HSY4.out) (fun w' hS => ?_) ?_; rotate_left; (focus ((try obtain s0 := HS.out _ (hS rfl)); clear hS; go_simp; try with_reducible rfl; done)); (try simp only [Act.put, List.setIfInBounds_toArray, List.set_cons_zero, List.set_cons_succ]))
          (refine wpE_take 7 (v := ?_) (by kernel_rfl) rfl rfl (by exact HSY4.out) (fun w' hS => ?_) ?_; rotate_left; (focus ((try obtain s0 := HS.out _ (hS rfl)); clear hS; go_simp; try with_reducible rfl; done)); (try simp only [Act.put, List.setIfInBounds_toArray, List.set_cons_zero, List.set_cons_succ]))
          have ZY4 := Lib.hid (ZY3.out.below HXY4.out)
          have hge : W.heap.size ≤ Y2.heap.size := HSY2.out.size
          refine wpE_rest 9 (by kernel_rfl) ?_
          simp only [List.drop_succ_cons, List.drop_zero]
          obtain ⟨r0, r1, r2, f0, f1, f2⟩ := (ZY4).out.facts
          go_wp2_with fail
          refine NoPanic.normal ?_
          go_wp2_with fail
          go_meet
          case rel => exact ⟨_, rfl, rfl, Box.stored (OY4).out (ZY4).out, ((HSY4.out.setCell (by exact hge) _).setCell (by exact hge) _).setCell (by exact hge) _⟩
      · skip
        go_simp
        refine hK.out _ _ (HSY1.out.alloc HSY1.out.size _) ?_
        clear hK K
        (try simp only [Act.put, List.setIfInBounds_toArray, List.set_cons_zero, List.set_cons_succ])
        generalize hX : World.alloc Y1 _ = Y2
        have HSY2 : Hid (Below W.heap.size W Y2) := by rw [← hX]; exact HSY1.out.alloc HSY1.out.size _
        have HXY2 : Hid (Below Y1.heap.size Y1 Y2) := by rw [← hX]; exact (Below.refl _ _).alloc (Nat.le_refl _) _
        have ZY2 : Hid (FBlk Y2 Y1.heap.size (.int .i64 0) (.slice none 0 0) (.slice none 0 0)) := by rw [← hX]; exact heap_alloc_new _ _
        clear hX
        refine wpE_br [3] (by kernel_rfl) ?_
        refine AllE.cons rfl rfl (fun K hK => ?_) AllE.nil
        go_simp
        refine (copy_any _ (identF nn) _ ((HRB).out.below HSY2.out) (HMN).out.n3 (HMN).out.f3).mono ?_
        rintro e Y3 ⟨⟨vcB, rfl, hrc⟩, hb⟩
        obtain ⟨caB, cfB, he, hca, hcf⟩ := id hrc
        subst he
        obtain ⟨_, _, _, rfl, _, _, _, _⟩ := hca.rd.op
        obtain ⟨_, _, _, rfl, _, _, _, _⟩ := hcf.rd.op
        refine hK.out _ _ (bchain HSY2.out hb) ?_
        clear hK K hca hcf
        (try simp only [Act.put, List.setIfInBounds_toArray, List.set_cons_zero, List.set_cons_succ])
        have HSY3 := Lib.hid (bchain HSY2.out hb)
        have HXY3 := Lib.hid hb
        have RBY3 := Lib.hid hrc.rd
        clear hrc hb
        refine wpE_br [4] (by kernel_rfl) ?_
        refine AllE.cons rfl rfl (fun K hK => ?_) AllE.nil
        go_simp
        refine (mcompose_any _ _ a (identF nn) _ ((RAY1.out.below HXY2.out).below HXY3.out) RBY3.out (HMA).out (HMN).out).mono ?_
        rintro e Y4 ⟨⟨vF, rfl, hrc⟩, hb⟩
        obtain ⟨oa, of, he, hca, hcf⟩ := id hrc
        subst he
        obtain ⟨_, _, _, rfl, _, _, _, _⟩ := hca.rd.op
        obtain ⟨_, _, _, rfl, _, _, _, _⟩ := hcf.rd.op
        refine hK.out _ _ (bchain HSY3.out hb) ?_
        clear hK K hca hcf
        (try simp only [Act.put, List.setIfInBounds_toArray, List.set_cons_zero, List.set_cons_succ])
        have HSY4 := Lib.hid (bchain HSY3.out hb)
        have HXY4 := Lib.hid hb
        have OY4 := Lib.hid hrc
        clear hrc hb
        (refine wpE_take 5 (v := ?_) (by kernel_rfl) rfl rfl (by exact HSY4.out) (fun w' hS => ?_) ?_; rotate_left; (focus ((try obtain s0 := HS.out _ (hS rfl)); clear hS; go_simp; try with_reducible rfl; done)); (try simp only [Act.put, List.setIfInBounds_toArray, List.set_cons_zero, List.set_cons_succ]))
        (refine wpE_take 6 (v := ?_) (by kernel_rfl) rfl rfl (by exact HSY4.out) (fun w' hS => ?_) ?_; rotate_left; (focus ((try obtain s0 := HS.out _ (hS rfl)); clear hS; go_simp; try with_reducible rfl; done)); (try simp only [Act.put, List.setIfInBounds_toArray, List.set_cons_zero, List.set_cons_succ]))
        (refine wpE_take 7 (v := ?_) (by kernel_rfl) rfl rfl (by exact HSY4.out) (fun w' hS => ?_) ?_; rotate_left; (focus ((try obtain s0 := HS.out _ (hS rfl)); clear hS; go_simp; try with_reducible rfl; done)); (try simp only [Act.put, List.setIfInBounds_toArray, List.set_cons_zero, List.set_cons_succ]))
        have ZY4 := Lib.hid ((ZY2.out.below HXY3.out).below HXY4.out)
        have hge : W.heap.size ≤ Y1.heap.size := HSY1.out.size
        refine wpE_rest 9 (by kernel_rfl) ?_
        simp only [List.drop_succ_cons, List.drop_zero]
        obtain ⟨r0, r1, r2, f0, f1, f2⟩ := (ZY4).out.facts
        go_wp2_with fail
        refine NoPanic.normal ?_
        go_wp2_with fail
        go_meet
        case rel => exact ⟨_, rfl, rfl, Box.stored (OY4).out (ZY4).out, ((HSY4.out.setCell (by exact hge) _).setCell (by exact hge) _).setCell (by exact hge) _⟩
    · skip
      go_simp
      refine hK.out _ _ (HSD.out.alloc HSD.out.size _) ?_
      clear hK K
      (try simp only [Act.put, List.setIfInBounds_toArray, List.set_cons_zero, List.set_cons_succ])
      generalize hX : World.alloc D _ = Y1
      have HSY1 : Hid (Below W.heap.size W Y1) := by rw [← hX]; exact HSD.out.alloc HSD.out.size _
      have HXY1 : Hid (Below D.heap.size D Y1) := by rw [← hX]; exact (Below.refl _ _).alloc (Nat.le_refl _) _
      have ZY1 : Hid (FBlk Y1 D.heap.size (.int .i64 0) (.slice none 0 0) (.slice none 0 0)) := by rw [← hX]; exact heap_alloc_new _ _
      clear hX
      refine wpE_br [1] (by kernel_rfl) ?_
      refine AllE.cons rfl rfl (fun K hK => ?_) AllE.nil
      go_simp
      refine (copy_any _ a _ ((HRA).out.below HSY1.out) (HMA).out.n3 (HMA).out.f3).mono ?_
      rintro e Y2 ⟨⟨vcA, rfl, hrc⟩, hb⟩
      obtain ⟨caA, cfA, he, hca, hcf⟩ := id hrc
      subst he
      obtain ⟨_, _, _, rfl, _, _, _, _⟩ := hca.rd.op
      obtain ⟨_, _, _, rfl, _, _, _, _⟩ := hcf.rd.op
      refine hK.out _ _ (bchain HSY1.out hb) ?_
      clear hK K hca hcf
      (try simp only [Act.put, List.setIfInBounds_toArray, List.set_cons_zero, List.set_cons_succ])
      have HSY2 := Lib.hid (bchain HSY1.out hb)
      have HXY2 := Lib.hid hb
      have RAY2 := Lib.hid hrc.rd
      clear hrc hb
      refine wpE_br [3] (by kernel_rfl) ?_
      refine AllE.cons rfl rfl (fun K hK => ?_) AllE.nil
      go_simp
      refine (copy_any _ (identF nn) _ ((HRB).out.below HSY2.out) (HMN).out.n3 (HMN).out.f3).mono ?_
      rintro e Y3 ⟨⟨vcB, rfl, hrc⟩, hb⟩
      obtain ⟨caB, cfB, he, hca, hcf⟩ := id hrc
      subst he
      obtain ⟨_, _, _, rfl, _, _, _, _⟩ := hca.rd.op
      obtain ⟨_, _, _, rfl, _, _, _, _⟩ := hcf.rd.op
      refine hK.out _ _ (bchain HSY2.out hb) ?_
      clear hK K hca hcf
      (try simp only [Act.put, List.setIfInBounds_toArray, List.set_cons_zero, List.set_cons_succ])
      have HSY3 := Lib.hid (bchain HSY2.out hb)
      have HXY3 := Lib.hid hb
      have RBY3 := Lib.hid hrc.rd
      clear hrc hb
      refine wpE_br [4] (by kernel_rfl) ?_
      refine AllE.cons rfl rfl (fun K hK => ?_) AllE.nil
      go_simp
      refine (mcompose_any _ _ a (identF nn) _ (RAY2.out.below HXY3.out) RBY3.out (HMA).out (HMN).out).mono ?_
      rintro e Y4 ⟨⟨vF, rfl, hrc⟩, hb⟩
      obtain ⟨oa, of, he, hca, hcf⟩ := id hrc
      subst he
      obtain ⟨_, _, _, rfl, _, _, _, _⟩ := hca.rd.op
      obtain ⟨_, _, _, rfl, _, _, _, _⟩ := hcf.rd.op
      refine hK.out _ _ (bchain HSY3.out hb) ?_
      clear hK K hca hcf
      (try simp only [Act.put, List.setIfInBounds_toArray, List.set_cons_zero, List.set_cons_succ])
      have HSY4 := Lib.hid (bchain HSY3.out hb)
      have HXY4 := Lib.hid hb
      have OY4 := Lib.hid hrc
      clear hrc hb
      (refine wpE_take 5 (v := ?_) (by kernel_rfl) rfl rfl (by exact HSY4.out) (fun w' hS => ?_) ?_; rotate_left; (focus ((try obtain s0 := HS.out _ (hS rfl)); clear hS; go_simp; try with_reducible rfl; done)); (try simp only [Act.put, List.setIfInBounds_toArray, List.set_cons_zero, List.set_cons_succ]))
      (refine wpE_take 6 (v := ?_) (by kernel_rfl) rfl rfl (by exact HSY4.out) (fun w' hS => ?_) ?_; rotate_left; (focus ((try obtain s0 := HS.out _ (hS rfl)); clear hS; go_simp; try with_reducible rfl; done)); (try simp only [Act.put, List.setIfInBounds_toArray, List.set_cons_zero, List.set_cons_succ]))
      (refine wpE_take 7 (v := ?_) (by kernel_rfl) rfl rfl (by exact HSY4.out) (fun w' hS => ?_) ?_; rotate_left; (focus ((try obtain s0 := HS.out _ (hS rfl)); clear hS; go_simp; try with_reducible rfl; done)); (try simp only [Act.put, List.setIfInBounds_toArray, List.set_cons_zero, List.set_cons_succ]))
      have ZY4 := Lib.hid (((ZY1.out.below HXY2.out).below HXY3.out).below HXY4.out)
      have hge : W.heap.size ≤ D.heap.size := HSD.out.size
      refine wpE_rest 9 (by kernel_rfl) ?_
      simp only [List.drop_succ_cons, List.drop_zero]
      obtain ⟨r0, r1, r2, f0, f1, f2⟩ := (ZY4).out.facts
      go_wp2_with fail
      refine NoPanic.normal ?_
      go_wp2_with fail
      go_meet
      case rel => exact ⟨_, rfl, rfl, Box.stored (OY4).out (ZY4).out, ((HSY4.out.setCell (by exact hge) _).setCell (by exact hge) _).setCell (by exact hge) _⟩
  case rest =>
    obtain ⟨gf, rfl, rfl, BF, HBC⟩ := hcut
    have BN := Lib.hid (BN.out.below HBC.out)
    have HBW := Lib.hid (bchain HBW.out (HBC).out)
    have BA := Lib.hid (BA.out.below (HBC).out)
    have HT := Lib.hid (HT.out.below (HBC).out)
    have HX := Lib.hid (HX.out.below (HBC).out)
    have HX1 := Lib.hid (HX1.out.below (HBC).out)
    have HX2 := Lib.hid (HX2.out.below (HBC).out)
    clear HBC
    go_upto_region 7 with (fail)
    obtain ⟨W, rfl⟩ : ∃ W' : World, W' = wc := ⟨_, rfl⟩
    go_cut [9, 10] (fun s7 s8 wx => ∃ g : Nat, s7 = .pointer (some ⟨g, 0, none⟩) ∧ s8 = .int .i64 0 ∧ Hid (Box wx g (compF (identF nn) a)) ∧ Hid (Below W.heap.size W wx))
    case first =>
      obtain ⟨A1, n1, c1, A2, n2, c2, p0, p1, p2, hg1, HRA⟩ := (BN).out.open
      obtain ⟨B1, m1, d1, B2, m2, d2, q0, q1, q2, hg2, HRB⟩ := (BA).out.open
      have HS := Lib.hid (fun (w' : World) (h : Below W.heap.size W w') => And.intro ((h.cell hg1).trans p0) (And.intro ((h.cell hg1).trans p1) (And.intro ((h.cell hg1).trans p2) (And.intro ((h.cell hg2).trans q0) (And.intro ((h.cell hg2).trans q1) ((h.cell hg2).trans q2))))))
      clear p0 p1 p2 q0 q1 q2
      refine wp_region_steps 11 9 [0, 1, 2, 3, 4, 5, 6, 8] [7] (fun w' => Below W.heap.size W w') (by kernel_rfl) (by kernel_rfl) ?_
      rintro D hD
      have HSD : Hid (Below W.heap.size W D) := by rw [hD]; exact (Below.refl _ _).drew
      clear hD
      (refine wpE_take 0 (v := ?_) (by kernel_rfl) rfl rfl (by exact HSD.out) (fun w' hS => ?_) ?_; rotate_left; (focus ((try obtain ⟨s0, s1, s2, s3, s4, s5⟩ := HS.out _ (hS rfl)); clear hS; go_simp; try with_reducible rfl; done)); (try simp only [Act.put, List.setIfInBounds_toArray, List.set_cons_zero, List.set_cons_succ]))
      (refine wpE_take 2 (v := ?_) (by kernel_rfl) rfl rfl (by exact HSD.out) (fun w' hS => ?_) ?_; rotate_left; (focus ((try obtain ⟨s0, s1, s2, s3, s4, s5⟩ := HS.out _ (hS rfl)); clear hS; go_simp; try with_reducible rfl; done)); (try simp only [Act.put, List.setIfInBounds_toArray, List.set_cons_zero, List.set_cons_succ]))
      refine wpE_br [1, 8] (by kernel_rfl) ?_
      refine AllE.cons rfl rfl (fun K hK => ?_) (AllE.cons rfl rfl (fun K hK => ?_) AllE.nil)
      · skip
        go_simp
        refine (copy_any _ (identF nn) _ ((HRA).out.below HSD.out) (HMN).out.n3 (HMN).out.f3).mono ?_
        rintro e Y1 ⟨⟨vcA, rfl, hrc⟩, hb⟩
        obtain ⟨caA, cfA, he, hca, hcf⟩ := id hrc
        subst he
        obtain ⟨_, _, _, rfl, _, _, _, _⟩ := hca.rd.op
        obtain ⟨_, _, _, rfl, _, _, _, _⟩ := hcf.rd.op
        refine hK.out _ _ (bchain HSD.out hb) ?_
        clear hK K hca hcf
        (try simp only [Act.put, List.setIfInBounds_toArray, List.set_cons_zero, List.set_cons_succ])
        have HSY1 := Lib.hid (bchain HSD.out hb)
        have HXY1 := Lib.hid hb
        have RAY1 := Lib.hid hrc.rd
        clear hrc hb
        refine wpE_br [3, 8] (by kernel_rfl) ?_
        refine AllE.cons rfl rfl (fun K hK => ?_) (AllE.cons rfl rfl (fun K hK => ?_) AllE.nil)
        · skip
          go_simp
          refine (copy_any _ a _ ((HRB).out.below HSY1.out) (HMA).out.n3 (HMA).out.f3).mono ?_
          rintro e Y2 ⟨⟨vcB, rfl, hrc⟩, hb⟩
          obtain ⟨caB, cfB, he, hca, hcf⟩ := id hrc
          subst he
          obtain ⟨_, _, _, rfl, _, _, _, _⟩ := hca.rd.op
          obtain ⟨_, _, _, rfl, _, _, _, _⟩ := hcf.rd.op
          refine hK.out _ _ (bchain HSY1.out hb) ?_
          clear hK K hca hcf
          (try simp only [Act.put, List.setIfInBounds_toArray, List.set_cons_zero, List.set_cons_succ])
          have HSY2 := Lib.hid (bchain HSY1.out hb)
          have HXY2 := Lib.hid hb
          have RBY2 := Lib.hid hrc.rd
          clear hrc hb
          refine wpE_br [4, 8] (by kernel_rfl) ?_
          refine AllE.cons rfl rfl (fun K hK => ?_) (AllE.cons rfl rfl (fun K hK => ?_) AllE.nil)
          · skip
            go_simp
            refine (mcompose_any _ _ (identF nn) a _ (RAY1.out.below HXY2.out) RBY2.out (HMN).out (HMA).out).mono ?_
            rintro e Y3 ⟨⟨vF, rfl, hrc⟩, hb⟩
            obtain ⟨oa, of, he, hca, hcf⟩ := id hrc
            subst he
            obtain ⟨_, _, _, rfl, _, _, _, _⟩ := hca.rd.op
            obtain ⟨_, _, _, rfl, _, _, _, _⟩ := hcf.rd.op
            refine hK.out _ _ (bchain HSY2.out hb) ?_
            clear hK K hca hcf
            (try simp only [Act.put, List.setIfInBounds_toArray, List.set_cons_zero, List.set_cons_succ])
            have HSY3 := Lib.hid (bchain HSY2.out hb)
            have HXY3 := Lib.hid hb
            have OY3 := Lib.hid hrc
            clear hrc hb
            (refine wpE_take 5 (v := ?_) (by kernel_rfl) rfl rfl (by exact HSY3.out) (fun w' hS => ?_) ?_; rotate_left; (focus ((try obtain s0 := HS.out _ (hS rfl)); clear hS; go_simp; try with_reducible rfl; done)); (try simp only [Act.put, List.setIfInBounds_toArray, List.set_cons_zero, List.set_cons_succ]))
            (refine wpE_take 6 (v := ?_) (by kernel_rfl) rfl rfl (by exact HSY3.out) (fun w' hS => ?_) ?_; rotate_left; (focus ((try obtain s0 := HS.out _ (hS rfl)); clear hS; go_simp; try with_reducible rfl; done)); (try simp only [Act.put, List.setIfInBounds_toArray, List.set_cons_zero, List.set_cons_succ]))
            (refine wpE_take 7 (v := ?_) (by kernel_rfl) rfl rfl (by exact HSY3.out) (fun w' hS => ?_) ?_; rotate_left; (focus ((try obtain s0 := HS.out _ (hS rfl)); clear hS; go_simp; try with_reducible rfl; done)); (try simp only [Act.put, List.setIfInBounds_toArray, List.set_cons_zero, List.set_cons_succ]))
            refine wpE_br [8] (by kernel_rfl) ?_
            refine AllE.cons rfl rfl (fun K hK => ?_) AllE.nil
            go_simp
            refine hK.out _ _ (HSY3.out.alloc HSY3.out.size _) ?_
            clear hK K
            (try simp only [Act.put, List.setIfInBounds_toArray, List.set_cons_zero, List.set_cons_succ])
            generalize hX : World.alloc Y3 _ = Y4
            have HSY4 : Hid (Below W.heap.size W Y4) := by rw [← hX]; exact HSY3.out.alloc HSY3.out.size _
            have HXY4 : Hid (Below Y3.heap.size Y3 Y4) := by rw [← hX]; exact (Below.refl _ _).alloc (Nat.le_refl _) _
            have ZY4 : Hid (FBlk Y4 Y3.heap.size (.int .i64 0) (.slice none 0 0) (.slice none 0 0)) := by rw [← hX]; exact heap_alloc_new _ _
            clear hX
            have OY4 := Lib.hid (OY3.out.below HXY4.out)
            have hge : W.heap.size ≤ Y3.heap.size := HSY3.out.size
            refine wpE_rest 9 (by kernel_rfl) ?_
            simp only [List.drop_succ_cons, List.drop_zero]
            obtain ⟨r0, r1, r2, f0, f1, f2⟩ := (ZY4).out.facts
            go_wp2_with fail
            refine NoPanic.normal ?_
            go_wp2_with fail
            go_meet
            case rel => exact ⟨_, rfl, rfl, Box.stored (OY4).out (ZY4).out, ((HSY4.out.setCell (by exact hge) _).setCell (by exact hge) _).setCell (by exact hge) _⟩
          · skip
            go_simp
            refine hK.out _ _ (HSY2.out.alloc HSY2.out.size _) ?_
            clear hK K
            (try simp only [Act.put, List.setIfInBounds_toArray, List.set_cons_zero, List.set_cons_succ])
            generalize hX : World.alloc Y2 _ = Y3
            have HSY3 : Hid (Below W.heap.size W Y3) := by rw [← hX]; exact HSY2.out.alloc HSY2.out.size _
            have HXY3 : Hid (Below Y2.heap.size Y2 Y3) := by rw [← hX]; exact (Below.refl _ _).alloc (Nat.le_refl _) _
            have ZY3 : Hid (FBlk Y3 Y2.heap.size (.int .i64 0) (.slice none 0 0) (.slice none 0 0)) := by rw [← hX]; exact heap_alloc_new _ _
            clear hX
            refine wpE_br [4] (by kernel_rfl) ?_
            refine AllE.cons rfl rfl (fun K hK => ?_) AllE.nil
            go_simp
            refine (mcompose_any _ _ (identF nn) a _ ((RAY1.out.below HXY2.out).below HXY3.out) (RBY2.out.below HXY3.out) (HMN).out (HMA).out).mono ?_
            rintro e Y4 ⟨⟨vF, rfl, hrc⟩, hb⟩
            obtain ⟨oa, of, he, hca, hcf⟩ := id hrc
            subst he
            obtain ⟨_, _, _, rfl, _, _, _, _⟩ := hca.rd.op
            obtain ⟨_, _, _, rfl, _, _, _, _⟩ := hcf.rd.op
            refine hK.out _ _ (bchain HSY3.out hb) ?_
            clear hK K hca hcf
            (try simp only [Act.put, List.setIfInBounds_toArray, List.set_cons_zero, List.set_cons_succ])
            have HSY4 := Lib.hid (bchain HSY3.out hb)
            have HXY4 := Lib.hid hb
            have OY4 := Lib.hid hrc
            clear hrc hb
            (refine wpE_take 5 (v := ?_) (by kernel_rfl) rfl rfl (by exact HSY4.out) (fun w' hS => ?_) ?_; rotate_left; (focus ((try obtain s0 := HS.out _ (hS rfl)); clear hS; go_simp; try with_reducible rfl; done)); (try simp only [Act.put, List.setIfInBounds_toArray, List.set_cons_zero, List.set_cons_succ]))
            (refine wpE_take 6 (v := ?_) (by kernel_rfl) rfl rfl (by exact HSY4.out) (fun w' hS => ?_) ?_; rotate_left; (focus ((try obtain s0 := HS.out _ (hS rfl)); clear hS; go_simp; try with_reducible rfl; done)); (try simp only [Act.put, List.setIfInBounds_toArray, List.set_cons_zero, List.set_cons_succ]))
            (refine wpE_take 7 (v := ?_) (by kernel_rfl) rfl rfl (by exact HSY4.out) (fun w' hS => ?_) ?_; rotate_left; (focus ((try obtain s0 := HS.out _ (hS rfl)); clear hS; go_simp; try with_reducible rfl; done)); (try simp only [Act.put, List.setIfInBounds_toArray, List.set_cons_zero, List.set_cons_succ]))
            have ZY4 := Lib.hid (ZY3.out.below HXY4.out)
            have hge : W.heap.size ≤ Y2.heap.size := HSY2.out.size
            refine wpE_rest 9 (by kernel_rfl) ?_
            simp only [List.drop_succ_cons, List.drop_zero]
            obtain ⟨r0, r1, r2, f0, f1, f2⟩ := (ZY4).out.facts
            go_wp2_with fail
            refine NoPanic.normal ?_
            go_wp2_with fail
            go_meet
            case rel => exact ⟨_, rfl, rfl, Box.stored (OY4).out (ZY4).out, ((HSY4.out.setCell (by exact hge) _).setCell (by exact hge) _).setCell (by exact hge) _⟩
        · skip
          go_simp
          refine hK.out _ _ (HSY1.out.alloc HSY1.out.size _) ?_
          clear hK K
          (try simp only [Act.put, List.setIfInBounds_toArray, List.set_cons_zero, List.set_cons_succ])
          generalize hX : World.alloc Y1 _ = Y2
          have HSY2 : Hid (Below W.heap.size W Y2) := by rw [← hX]; exact HSY1.out.alloc HSY1.out.size _
          have HXY2 : Hid (Below Y1.heap.size Y1 Y2) := by rw [← hX]; exact (Below.refl _ _).alloc (Nat.le_refl _) _
          have ZY2 : Hid (FBlk Y2 Y1.heap.size (.int .i64 0) (.slice none 0 0) (.slice none 0 0)) := by rw [← hX]; exact heap_alloc_new _ _
          clear hX
          refine wpE_br [3] (by kernel_rfl) ?_
          refine AllE.cons rfl rfl (fun K hK => ?_) AllE.nil
          go_simp
          refine (copy_any _ a _ ((HRB).out.below HSY2.out) (HMA).out.n3 (HMA).out.f3).mono ?_
          rintro e Y3 ⟨⟨vcB, rfl, hrc⟩, hb⟩
          obtain ⟨caB, cfB, he, hca, hcf⟩ := id hrc
          subst he
          obtain ⟨_, _, _, rfl, _, _, _, _⟩ := hca.rd.op
          obtain ⟨_, _, _, rfl, _, _, _, _⟩ := hcf.rd.op
          refine hK.out _ _ (bchain HSY2.out hb) ?_
          clear hK K hca hcf
          (try simp only [Act.put, List.setIfInBounds_toArray, List.set_cons_zero, List.set_cons_succ])
          have HSY3 := Lib.hid (bchain HSY2.out hb)
          have HXY3 := Lib.hid hb
          have RBY3 := Lib.hid hrc.rd
          clear hrc hb
          refine wpE_br [4] (by kernel_rfl) ?_
          refine AllE.cons rfl rfl (fun K hK => ?_) AllE.nil
          go_simp
          refine (mcompose_any _ _ (identF nn) a _ ((RAY1.out.below HXY2.out).below HXY3.out) RBY3.out (HMN).out (HMA).out).mono ?_
          rintro e Y4 ⟨⟨vF, rfl, hrc⟩, hb⟩
          obtain ⟨oa, of, he, hca, hcf⟩ := id hrc
          subst he
          obtain ⟨_, _, _, rfl, _, _, _, _⟩ := hca.rd.op
          obtain ⟨_, _, _, rfl, _, _, _, _⟩ := hcf.rd.op
          refine hK.out _ _ (bchain HSY3.out hb) ?_
          clear hK K hca hcf
          (try simp only [Act.put, List.setIfInBounds_toArray, List.set_cons_zero, List.set_cons_succ])
          have HSY4 := Lib.hid (bchain HSY3.out hb)
          have HXY4 := Lib.hid hb
          have OY4 := Lib.hid hrc
          clear hrc hb
          (refine wpE_take 5 (v := ?_) (by kernel_rfl) rfl rfl (by exact HSY4.out) (fun w' hS => ?_) ?_; rotate_left; (focus ((try obtain s0 := HS.out _ (hS rfl)); clear hS; go_simp; try with_reducible rfl; done)); (try simp only [Act.put, List.setIfInBounds_toArray, List.set_cons_zero, List.set_cons_succ]))
          (refine wpE_take 6 (v := ?_) (by kernel_rfl) rfl rfl (by exact HSY4.out) (fun w' hS => ?_) ?_; rotate_left; (focus ((try obtain s0 := HS.out _ (hS rfl)); clear hS; go_simp; try with_reducible rfl; done)); (try simp only [Act.put, List.setIfInBounds_toArray, List.set_cons_zero, List.set_cons_succ]))
          (refine wpE_take 7 (v := ?_) (by kernel_rfl) rfl rfl (by exact HSY4.out) (fun w' hS => ?_) ?_; rotate_left; (focus ((try obtain s0 := HS.out _ (hS rfl)); clear hS; go_simp; try with_reducible rfl; done)); (try simp only [Act.put, List.setIfInBounds_toArray, List.set_cons_zero, List.set_cons_succ]))
          have ZY4 := Lib.hid ((ZY2.out.below HXY3.out).below HXY4.out)
          have hge : W.heap.size ≤ Y1.heap.size := HSY1.out.size
          refine wpE_rest 9 (by kernel_rfl) ?_
          simp only [List.drop_succ_cons, List.drop_zero]
          obtain ⟨r0, r1, r2, f0, f1, f2⟩ := (ZY4).out.facts
          go_wp2_with fail
          refine NoPanic.normal ?_
          go_wp2_with fail
          go_meet
          case rel => exact ⟨_, rfl, rfl, Box.stored (OY4).out (ZY4).out, ((HSY4.out.setCell (by exact hge) _).setCell (by exact hge) _).setCell (by exact hge) _⟩
      · skip
        go_simp
        refine hK.out _ _ (HSD.out.alloc HSD.out.size _) ?_
        clear hK K
        (try simp only [Act.put, List.setIfInBounds_toArray, List.set_cons_zero, List.set_cons_succ])
        generalize hX : World.alloc D _ = Y1
        have HSY1 : Hid (Below W.heap.size W Y1) := by rw [← hX]; exact HSD.out.alloc HSD.out.size _
        have HXY1 : Hid (Below D.heap.size D Y1) := by rw [← hX]; exact (Below.refl _ _).alloc (Nat.le_refl _) _
        have ZY1 : Hid (FBlk Y1 D.heap.size (.int .i64 0) (.slice none 0 0) (.slice none 0 0)) := by rw [← hX]; exact heap_alloc_new _ _
        clear hX
        refine wpE_br [1] (by kernel_rfl) ?_
        refine AllE.cons rfl rfl (fun K hK => ?_) AllE.nil
        go_simp
        refine (copy_any _ (identF nn) _ ((HRA).out.below HSY1.out) (HMN).out.n3 (HMN).out.f3).mono ?_
        rintro e Y2 ⟨⟨vcA, rfl, hrc⟩, hb⟩
        obtain ⟨caA, cfA, he, hca, hcf⟩ := id hrc
        subst he
        obtain ⟨_, _, _, rfl, _, _, _, _⟩ := hca.rd.op
        obtain ⟨_, _, _, rfl, _, _, _, _⟩ := hcf.rd.op
        refine hK.out _ _ (bchain HSY1.out hb) ?_
        clear hK K hca hcf
        (try simp only [Act.put, List.setIfInBounds_toArray, List.set_cons_zero, List.set_cons_succ])
        have HSY2 := Lib.hid (bchain HSY1.out hb)
        have HXY2 := Lib.hid hb
        have RAY2 := Lib.hid hrc.rd
        clear hrc hb
        refine wpE_br [3] (by kernel_rfl) ?_
        refine AllE.cons rfl rfl (fun K hK => ?_) AllE.nil
        go_simp
        refine (copy_any _ a _ ((HRB).out.below HSY2.out) (HMA).out.n3 (HMA).out.f3).mono ?_
        rintro e Y3 ⟨⟨vcB, rfl, hrc⟩, hb⟩
        obtain ⟨caB, cfB, he, hca, hcf⟩ := id hrc
        subst he
        obtain ⟨_, _, _, rfl, _, _, _, _⟩ := hca.rd.op
        obtain ⟨_, _, _, rfl, _, _, _, _⟩ := hcf.rd.op
        refine hK.out _ _ (bchain HSY2.out hb) ?_
        clear hK K hca hcf
        (try simp only [Act.put, List.setIfInBounds_toArray, List.set_cons_zero, List.set_cons_succ])
        have HSY3 := Lib.hid (bchain HSY2.out hb)
        have HXY3 := Lib.hid hb
        have RBY3 := Lib.hid hrc.rd
        clear hrc hb
        refine wpE_br [4] (by kernel_rfl) ?_
        refine AllE.cons rfl rfl (fun K hK => ?_) AllE.nil
        go_simp
        refine (mcompose_any _ _ (identF nn) a _ (RAY2.out.below HXY3.out) RBY3.out (HMN).out (HMA).out).mono ?_
        rintro e Y4 ⟨⟨vF, rfl, hrc⟩, hb⟩
        obtain ⟨oa, of, he, hca, hcf⟩ := id hrc
        subst he
        obtain ⟨_, _, _, rfl, _, _, _, _⟩ := hca.rd.op
        obtain ⟨_, _, _, rfl, _, _, _, _⟩ := hcf.rd.op
        refine hK.out _ _ (bchain HSY3.out hb) ?_
        clear hK K hca hcf
        (try simp only [Act.put, List.setIfInBounds_toArray, List.set_cons_zero, List.set_cons_succ])
        have HSY4 := Lib.hid (bchain HSY3.out hb)
        have HXY4 := Lib.hid hb
        have OY4 := Lib.hid hrc
        clear hrc hb
        (refine wpE_take 5 (v := ?_) (by kernel_rfl) rfl rfl (by exact HSY4.out) (fun w' hS => ?_) ?_; rotate_left; (focus ((try obtain s0 := HS.out _ (hS rfl)); clear hS; go_simp; try with_reducible rfl; done)); (try simp only [Act.put, List.setIfInBounds_toArray, List.set_cons_zero, List.set_cons_succ]))
        (refine wpE_take 6 (v := ?_) (by kernel_rfl) rfl rfl (by exact HSY4.out) (fun w' hS => ?_) ?_; rotate_left; (focus ((try obtain s0 := HS.out _ (hS rfl)); clear hS; go_simp; try with_reducible rfl; done)); (try simp only [Act.put, List.setIfInBounds_toArray, List.set_cons_zero, List.set_cons_succ]))
        (refine wpE_take 7 (v := ?_) (by kernel_rfl) rfl rfl (by exact HSY4.out) (fun w' hS => ?_) ?_; rotate_left; (focus ((try obtain s0 := HS.out _ (hS rfl)); clear hS; go_simp; try with_reducible rfl; done)); (try simp only [Act.put, List.setIfInBounds_toArray, List.set_cons_zero, List.set_cons_succ]))
        have ZY4 := Lib.hid (((ZY1.out.below HXY2.out).below HXY3.out).below HXY4.out)
        have hge : W.heap.size ≤ D.heap.size := HSD.out.size
        refine wpE_rest 9 (by kernel_rfl) ?_
        simp only [List.drop_succ_cons, List.drop_zero]
        obtain ⟨r0, r1, r2, f0, f1, f2⟩ := (ZY4).out.facts
        go_wp2_with fail
        refine NoPanic.normal ?_
        go_wp2_with fail
        go_meet
        case rel => exact ⟨_, rfl, rfl, Box.stored (OY4).out (ZY4).out, ((HSY4.out.setCell (by exact hge) _).setCell (by exact hge) _).setCell (by exact hge) _⟩
    case rest =>
      obtain ⟨gh, rfl, rfl, BH, HBC⟩ := hcut
      have BF := Lib.hid (BF.out.below HBC.out)
      have HBW := Lib.hid (bchain HBW.out (HBC).out)
      have BA := Lib.hid (BA.out.below (HBC).out)
      have HT := Lib.hid (HT.out.below (HBC).out)
      have HX := Lib.hid (HX.out.below (HBC).out)
      have HX1 := Lib.hid (HX1.out.below (HBC).out)
      have HX2 := Lib.hid (HX2.out.below (HBC).out)
      clear HBC
      obtain ⟨W, rfl⟩ : ∃ W' : World, W' = wc := ⟨_, rfl⟩
      go_wp2_with fail
      obtain ⟨D1, j1, f1, D2, j2, f2, p0, p1, p2, hg1, HRA⟩ := BA.out.open
      have HS := Lib.hid (fun (w' : World) (h : Below W.heap.size W w') => And.intro (And.intro ((h.cell hg1).trans p0) (And.intro ((h.cell hg1).trans p1) ((h.cell hg1).trans p2))) (And.intro (HT.out.below h).facts.1 (HT.out.below h).facts.2.1))
      clear p0 p1 p2
      refine wp_region_ord 6 [0, 1, 2, 3, 4, 5] [] [0, 2, 3, 4, 5] [1, 6, 7] (fun w' => Below W.heap.size W w') (by kernel_rfl) (by kernel_rfl) ?_
      rintro D hD
      have HSD : Hid (Below W.heap.size W D) := by rw [hD]; exact (Below.refl _ _).drew
      clear hD
      refine ⟨HSD.out, ?_⟩
      iterate 5 (refine wpHead_cons (v := ?_) rfl rfl (fun w' hS => ?_) ?_; rotate_left; (focus ((try obtain ⟨⟨s0, s1, s2⟩, s3, s4⟩ := HS.out _ (hS rfl)); clear hS; go_simp; try with_reducible rfl; done)); (try simp only [Act.put, List.setIfInBounds_toArray, List.set_cons_zero, List.set_cons_succ]))
      refine wpHead_nil ?_
      refine wpTail_cons rfl rfl (fun K hK => ?_)
      go_simp
      refine (copy_any _ a _ (HRA.out.below HSD.out) HLA.out.n3 HLA.out.f3).mono ?_
      rintro e Y1 ⟨⟨vcQ, rfl, hrc⟩, hb⟩
      obtain ⟨caQ, cfQ, he, hca, hcf⟩ := id hrc
      subst he
      obtain ⟨_, _, _, rfl, _, _, _, _⟩ := hca.rd.op
      obtain ⟨_, _, _, rfl, _, _, _, _⟩ := hcf.rd.op
      refine hK.out _ _ (fun _ => bchain HSD.out hb) ?_
      clear hK K hca hcf
      (try simp only [Act.put, List.setIfInBounds_toArray, List.set_cons_zero, List.set_cons_succ])
      have HSY1 := Lib.hid (bchain HSD.out hb)
      have HXY1 := Lib.hid hb
      have RY1 := Lib.hid hrc.rd
      clear hrc hb
      refine wpTail_cons rfl rfl (fun K hK => ?_)
      go_simp
      refine (ngood_any _ _ _ a xs ys _ RY1.out (HX1.out.below HSY1.out) (HX2.out.below HSY1.out) HLA.out.good (le4 HSH.out.1) (le4 HSH.out.2)).mono ?_
      rintro e Y2 ⟨rfl, hb⟩
      refine hK.out _ _ (fun _ => bchain HSY1.out hb) ?_
      clear hK K
      (try simp only [Act.put, List.setIfInBounds_toArray, List.set_cons_zero, List.set_cons_succ])
      have HSY2 := Lib.hid (bchain HSY1.out hb)
      have HXY2 := Lib.hid hb
      clear hb
      refine wpTail_rest 7 rfl ?_
      simp only [List.drop_succ_cons, List.drop_zero]
      generalize accB a xs ys = want at HNA ⊢
      have HE1 : Hid ((accB (compF a (identF nn)) xs ys == want) = true) := by rw [Hid, HNA.out.1]; simp
      have HE2 : Hid ((accB (compF (identF nn) a) xs ys == want) = true) := by rw [Hid, HNA.out.2]; simp
      obtain ⟨_, _, _, _, _, _, p0, p1, p2, hg2, HRF⟩ := (BF.out.below HSY2.out).open
      obtain ⟨t0, t1, ht⟩ := (HT.out.below HSY2.out).facts
      clear hg1 HRA
      go_wp2_with fail
      refine NoPanic.normal ?_
      go_wp2_with fail
      refine (takes_any _ _ (compF a (identF nn)) xs ys want _ HRF.out (HX.out.below HSY2.out) (mid_good HMA.out HMN.out) (le4 HSH.out.1) (le4 HSH.out.2)).mono ?_
      rintro e Y3 ⟨rfl, hb⟩
      rw [HE1.out]
      have HSY3 := Lib.hid (bchain HSY2.out hb)
      clear p0 p1 p2 hg2 HRF t0 t1 ht hb
      obtain ⟨_, _, _, _, _, _, p0, p1, p2, hg2, HRF⟩ := (BH.out.below HSY3.out).open
      obtain ⟨t0, t1, ht⟩ := (HT.out.below HSY3.out).facts
      go_wp2_with fail
      refine (takes_any _ _ (compF (identF nn) a) xs ys want _ HRF.out (HX.out.below HSY3.out) (mid_good HMN.out HMA.out) (le4 HSH.out.1) (le4 HSH.out.2)).mono ?_
      rintro e Y4 ⟨rfl, hb⟩
      rw [HE2.out]
      have HSY4 := Lib.hid (bchain HSY3.out hb)
      clear p0 p1 p2 hg2 HRF t0 t1 ht hb
      go_wp2_with fail
      refine (awake_any _).mono ?_
      rintro e wz ⟨rfl, hbz⟩
      have HBZ := Lib.hid (bchain (HSY4).out hbz)
      clear hbz
      go_wp2_with fail
      go_ret
      exact ⟨rfl, bchain HBW.out HBZ.out⟩
end Go.Proofs.Ytmeppkkoepmlnaa
