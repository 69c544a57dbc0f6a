/-
  FstopsPairs: the walk.
-/
import Derived.Test.YtmeppkkoepmlnaaT34
import Derived.Test.YtmeppkkoepmlnaaT28
namespace Go.Proofs.Ytmeppkkoepmlnaa
open Go.ChangeShapes Go.WideShapes Go.ChangeAt Go.RowKit
/-- two rows of ints of the call's own, apart -/
structure St (w : World) (base : Nat) (va : Value) (la : List Int) (vb : Value) (lb : List Int) : Prop where
  a : OwnI w base va la
  b : OwnI w base vb lb
  ne : va.ownBlock ≠ vb.ownBlock
theorem St.below {w w' : World} {base : Nat} {va vb : Value} {la lb : List Int} (h : St w base va la vb lb) (hb : Below w.heap.size w w') : St w' base va la vb lb := ⟨own_below h.a hb, own_below h.b hb, h.ne⟩
theorem St.newB {w w' : World} {base g : Nat} {va : Value} {la : List Int} (h : OwnI w base va la) (hb : Below w.heap.size w w') (ho : OwnI w' base (.slice (some ⟨g, 0, none⟩) 0 0) []) (hg : w.heap.size ≤ g) : St w' base va la (.slice (some ⟨g, 0, none⟩) 0 0) [] :=
  ⟨own_below h hb, ho, fun he => by have := (World.ownsRow.lt h g (he.trans rfl)).2; omega⟩
theorem St.newA {w w' : World} {base g : Nat} {va : Value} {la : List Int} (h : OwnI w base va la) (hb : Below w.heap.size w w') (ho : OwnI w' base (.slice (some ⟨g, 0, none⟩) 0 0) []) (hg : w.heap.size ≤ g) : St w' base (.slice (some ⟨g, 0, none⟩) 0 0) [] va la :=
  ⟨ho, own_below h hb, fun he => by have := (World.ownsRow.lt h g (he.symm.trans rfl)).2; omega⟩
theorem St.appA {w w' : World} {base : Nat} {va vb va' : Value} {la lb l : List Int} (h : St w base va la vb lb) (ho : OwnI w' base va' l) (hg : w.grownBy w' va.ownBlock) (hor : va'.ownBlock = va.ownBlock ∨ va'.ownBlock = some w.heap.size) : St w' base va' l vb lb := by
  refine ⟨ho, World.ownsRow.kept h.b hg (.inr (Ne.symm h.ne)), fun he => ?_⟩
  rcases hor with hr | hr
  · exact h.ne (hr.symm.trans he)
  · have := (World.ownsRow.lt h.b _ (he.symm.trans hr)).2; omega
theorem St.appB {w w' : World} {base : Nat} {va vb vb' : Value} {la lb l : List Int} (h : St w base va la vb lb) (ho : OwnI w' base vb' l) (hg : w.grownBy w' vb.ownBlock) (hor : vb'.ownBlock = vb.ownBlock ∨ vb'.ownBlock = some w.heap.size) : St w' base va la vb' l := by
  refine ⟨World.ownsRow.kept h.a hg (.inr h.ne), ho, fun he => ?_⟩
  rcases hor with hr | hr
  · exact h.ne (he.trans hr)
  · have := (World.ownsRow.lt h.a _ (he.trans hr)).2; omega
theorem ztrans {w w' : World} {R base : Nat} {x y z v : Value} {l : List Int} (h : FBlk w R x y z) (ho : OwnI w base v l) (hg : w.grownBy w' v.ownBlock) : FBlk w' R x y z := by
  refine (hg.block R h.lt (Ne.symm fun he => ?_)).trans h
  obtain ⟨cs, hc⟩ := row_type ho he
  exact ne_of_type h hc (by decide) rfl
def resP (xs ys : List Int) : PFst := if wrongE 24 [xs, ys] = 0 then pairF xs ys else ⟨0, [], []⟩
theorem lpair_any (v v' : Value) (xs ys : List Int) (w : World) (hv : RdI w v xs) (hv' : RdI w v' ys) (hx : xs.length ≤ 40) (hy : ys.length ≤ 40) :
    Calls Try.prog 16 #[v, v'] w fun e w' => (∃ vF, e = .returned (.tuple #[vF, .int .i64 (wrongE 24 [xs, ys])]) ∧ OwnF w.heap.size w' vF (resP xs ys)) ∧ Below w.heap.size w w' := by
  by_cases he : wrongE 24 [xs, ys] = 0
  · rw [resP, if_pos he, he]
    exact pair_yes v v' xs ys w hv hv' (by omega) (by omega) he
  · rw [resP, if_neg he]
    refine (pair_no v v' xs ys w hv hv' (by omega) (by omega) he).mono ?_
    rintro e w' ⟨rfl, hb⟩
    exact ⟨⟨_, rfl, _, _, rfl, World.ownsRow_nil _ _ _ _, World.ownsRow_nil _ _ _ _⟩, hb⟩
set_option maxHeartbeats 1000000 in
theorem fsame_z (v : Value) (w : World) (hv : RdF w v ⟨0, [], []⟩) :
    Calls Try.prog 18 #[v, .agg #[.int .i64 0, .slice none 0 0, .slice none 0 0]] w fun e w' => e = .returned (.bool true) ∧ Below w.heap.size w w' := by
  obtain ⟨va, vf, rfl, ha, hf⟩ := hv
  obtain ⟨A, n, c, rfl, _, _, HN, _⟩ := ha.op
  obtain ⟨A', n', c', rfl, _, _, HN', _⟩ := hf.op
  obtain rfl : n = 0 := HN.out.symm
  obtain rfl : n' = 0 := HN'.out.symm
  go_enter Try.func18, Try.ntmps18
  go_wp2_with fail
  refine wp_loop_rounds 1 ?_
  rw [rounds_succ]
  go_wp2_with fail
  refine wp_loop_rounds 1 ?_
  rw [rounds_succ]
  go_wp2_with fail
  go_ret
  exact ⟨rfl, by repeat (first | assumption | exact Below.refl _ _ | refine Below.alloc ?_ (by first | omega | (simp; done) | (simp; omega)) _ | refine Below.drew ?_ | refine below_drewN ?_ _ | refine Below.setCell ?_ (by first | omega | (simp; done) | (simp; omega)) _)⟩
theorem le40 {n : Nat} (h : n ≤ 40) : n ≤ 1000 := by omega
theorem wrongE_two {xs ys : List Int} (h : wrongE 24 [xs, ys] = 0) : SymOk xs ∧ SymOk ys ∧ xs.length ≤ 24 ∧ ys.length ≤ 24 := by
  unfold wrongE at h
  split at h
  · cases h
  · rename_i hl
    split at h
    · rename_i hs
      simp only [longB, List.any_cons, List.any_nil, Bool.or_false, Bool.or_eq_true, decide_eq_true_eq] at hl
      have hs' := symOk_of hs
      simp only [List.flatten_cons, List.flatten_nil, List.append_nil] at hs'
      exact ⟨fun x hx => hs' x (List.mem_append.2 (.inl hx)), fun x hx => hs' x (List.mem_append.2 (.inr hx)), by omega, by omega⟩
    · cases h
theorem app40 {xs : List Int} (h : xs.length ≤ 40) : ([] : List Int).length + xs.length ≤ 1000000 := by simp; omega
set_option maxHeartbeats 8000000 in
set_option maxRecDepth 100000 in
theorem pairs_walk (v x : Value) (xs ys us vs : List Int) (w : World) (hp : RdT w v xs ys) (hx : RdT w x us vs) :
    Calls Try.prog 3 #[v, x] w fun e w' => e = .returned (.bool true) ∧ Below w.heap.size w w' := by
  obtain ⟨pi, po, rfl, hpi, hpo⟩ := id hp
  obtain ⟨P1, n1, c1, rfl, _, _, HN1, _⟩ := hpi.op
  obtain ⟨P2, n2, c2, rfl, _, _, HN2, _⟩ := hpo.op
  obtain ⟨vx, vy, rfl, hx1, hx2⟩ := id hx
  obtain ⟨X1, k1, e1, rfl, _, _, _, _⟩ := hx1.op
  obtain ⟨X2, k2, e2, rfl, _, _, _, _⟩ := hx2.op
  have HP := Lib.hid hp
  have HPI := Lib.hid hpi
  have HPO := Lib.hid hpo
  have HX := Lib.hid hx
  have HX1 := Lib.hid hx1
  have HX2 := Lib.hid hx2
  clear hp hpi hpo hx hx1 hx2
  go_enter Try.func3, Try.ntmps3
  go_upto_region 1 with (fail)
  generalize hW : World.alloc (World.alloc w _) _ = W
  have HT1 : Hid (TBlk W w.heap.size (.slice P1 n1 c1) (.slice P2 n2 c2)) := by
    rw [← hW]; exact (Below.heap_alloc _ _ _ (by first | omega | (simp; done) | (simp; omega))).trans (heap_alloc_new w _)
  have HT2 : Hid (TBlk W (w.heap.size + 1) (.slice X1 k1 e1) (.slice X2 k2 e2)) := by
    rw [Hid, TBlk, ← hW]
    have := heap_alloc_new (w.alloc (.cells #[.slice P1 n1 c1, .slice P2 n2 c2] 24)) (.cells #[.slice X1 k1 e1, .slice X2 k2 e2] 24)
    simpa using this
  have HBW : Hid (Below w.heap.size w W) := by rw [← hW]; repeat (first | assumption | exact Below.refl _ _ | refine Below.alloc ?_ (by first | omega | (simp; done) | (simp; omega)) _ | refine Below.drew ?_ | refine below_drewN ?_ _ | refine Below.setCell ?_ (by first | omega | (simp; done) | (simp; omega)) _)
  clear hW
  have HP := Lib.hid (HP.out.below HBW.out)
  have HPI := Lib.hid (HPI.out.below HBW.out)
  have HPO := Lib.hid (HPO.out.below HBW.out)
  have HX := Lib.hid (HX.out.below HBW.out)
  have HX1 := Lib.hid (HX1.out.below HBW.out)
  have HX2 := Lib.hid (HX2.out.below HBW.out)
  have HBR : Hid (Below W.heap.size W W) := Below.refl _ _
  obtain ⟨p0, p1, hpl⟩ := HT1.out.facts
  obtain ⟨q0, q1, hql⟩ := HT2.out.facts
  by_cases h1 : 40 < n1
  · have h1' : decide (40 < (n1 : Int)) = true := by simp; omega
    go_wp2_with fail
    refine (awake_any _).mono ?_
    rintro e wz ⟨rfl, hbz⟩
    have HBZ := Lib.hid (bchain (HBR).out hbz)
    clear hbz
    go_wp2_with fail
    go_ret
    exact ⟨rfl, bchain HBW.out HBZ.out⟩
  have h1' : decide (40 < (n1 : Int)) = false := by simp; omega
  by_cases h2 : 40 < n2
  · have h2' : decide (40 < (n2 : Int)) = true := by simp; omega
    go_wp2_with fail
    refine (awake_any _).mono ?_
    rintro e wz ⟨rfl, hbz⟩
    have HBZ := Lib.hid (bchain (HBR).out hbz)
    clear hbz
    go_wp2_with fail
    go_ret
    exact ⟨rfl, bchain HBW.out HBZ.out⟩
  have h2' : decide (40 < (n2 : Int)) = false := by simp; omega
  have HL1 : Hid (xs.length ≤ 40) := by rw [Hid, HN1.out]; omega
  have HL2 : Hid (ys.length ≤ 40) := by rw [Hid, HN2.out]; omega
  go_wp2_with fail
  refine (short_any _ us vs _ HX.out).mono ?_
  rintro e w3 ⟨rfl, hb⟩
  have HB3 := Lib.hid hb
  clear hb p0 p1 hpl q0 q1 hql
  cases hsh : (decide (us.length ≤ 4) && decide (vs.length ≤ 4))
  · skip
    go_wp2_with fail
    refine (awake_any _).mono ?_
    rintro e wz ⟨rfl, hbz⟩
    have HBZ := Lib.hid (bchain (HB3).out hbz)
    clear hbz
    go_wp2_with fail
    go_ret
    exact ⟨rfl, bchain HBW.out HBZ.out⟩
  simp only [Bool.and_eq_true, decide_eq_true_eq] at hsh
  have HSH := Lib.hid hsh
  clear hsh h1 h2 h1' h2'
  go_upto_region 3 with (fail)
  go_cut [5, 6] (fun s5 s6 wx => ∃ g : Nat, s5 = .pointer (some ⟨g, 0, none⟩) ∧ s6 = .int .i64 (wrongE 24 [xs, ys]) ∧ Hid (Box wx g (resP xs ys)) ∧ Hid (Below W.heap.size W wx))
  case first =>
    refine wp_region_steps 15 13 [0, 1, 2, 3, 4, 5, 6, 7, 8, 9, 10, 12] [11] (fun w' => Below W.heap.size W w') (by kernel_rfl) (by kernel_rfl) ?_
    rintro D hD
    have HSD : Hid (Below W.heap.size W D) := by rw [hD]; exact HB3.out.drew
    clear hD
    have HS : Hid (∀ w' : World, Below W.heap.size W w' → w'.cell? ⟨w.heap.size, 0, none⟩ = some (.slice P1 n1 c1) ∧ w'.cell? ⟨w.heap.size, 1, none⟩ = some (.slice P2 n2 c2)) := by
      intro w' h
      obtain ⟨f0, f1, _⟩ := (HT1.out.below h).facts
      exact ⟨f0, f1⟩
    (refine wpE_take 1 (v := ?_) (by kernel_rfl) rfl rfl (by exact HSD.out) (fun w' hS => ?_) ?_; rotate_left; (focus ((try obtain ⟨s0, s1⟩ := HS.out _ (hS rfl)); clear hS; go_simp; try with_reducible rfl; done)); (try simp only [Act.put, List.setIfInBounds_toArray, List.set_cons_zero, List.set_cons_succ]))
    (refine wpE_take 2 (v := ?_) (by kernel_rfl) rfl rfl (by exact HSD.out) (fun w' hS => ?_) ?_; rotate_left; (focus ((try obtain ⟨s0, s1⟩ := HS.out _ (hS rfl)); clear hS; go_simp; try with_reducible rfl; done)); (try simp only [Act.put, List.setIfInBounds_toArray, List.set_cons_zero, List.set_cons_succ]))
    (refine wpE_take 5 (v := ?_) (by kernel_rfl) rfl rfl (by exact HSD.out) (fun w' hS => ?_) ?_; rotate_left; (focus ((try obtain ⟨s0, s1⟩ := HS.out _ (hS rfl)); clear hS; go_simp; try with_reducible rfl; done)); (try simp only [Act.put, List.setIfInBounds_toArray, List.set_cons_zero, List.set_cons_succ]))
    (refine wpE_take 6 (v := ?_) (by kernel_rfl) rfl rfl (by exact HSD.out) (fun w' hS => ?_) ?_; rotate_left; (focus ((try obtain ⟨s0, s1⟩ := HS.out _ (hS rfl)); clear hS; go_simp; try with_reducible rfl; done)); (try simp only [Act.put, List.setIfInBounds_toArray, List.set_cons_zero, List.set_cons_succ]))
    refine wpE_br [0, 4, 12] (by kernel_rfl) ?_
    refine AllE.cons rfl rfl (fun K hK => ?_) (AllE.cons rfl rfl (fun K hK => ?_) (AllE.cons rfl rfl (fun K hK => ?_) AllE.nil))
    · skip
      go_simp
      refine hK.out _ _ (HSD.out.alloc HSD.out.size _) ?_
      clear hK K
      (try simp only [Act.put, List.setIfInBounds_toArray, List.set_cons_zero, List.set_cons_succ])
      generalize hX : World.alloc D _ = Y1
      have HSY1 : Hid (Below W.heap.size W Y1) := by rw [← hX]; exact HSD.out.alloc HSD.out.size _
      have HXY1 : Hid (Below D.heap.size D Y1) := by rw [← hX]; exact (Below.refl _ _).alloc (Nat.le_refl _) _
      have OAY1 := Lib.hid (own_newI D W.heap.size _ rfl HSD.out.size)
      rw [hX] at OAY1
      clear hX
      refine wpE_br [3, 4, 12] (by kernel_rfl) ?_
      refine AllE.cons rfl rfl (fun K hK => ?_) (AllE.cons rfl rfl (fun K hK => ?_) (AllE.cons rfl rfl (fun K hK => ?_) AllE.nil))
      · skip
        refine wp_app_ints (.tmp 26) (.tmp 28) rfl W.heap.size _ [] rfl (OAY1.out) _ xs rfl (HPI.out.below HSY1.out) (app40 HL1.out) HSY1.out.size ?_
        intro va' Y2 ho hg hor
        refine hK.out _ _ (below_grown HSY1.out (Nat.le_refl _) (OAY1.out) hg) ?_
        clear hK K
        (try simp only [Act.put, List.setIfInBounds_toArray, List.set_cons_zero, List.set_cons_succ])
        have HSY2 := Lib.hid (below_grown HSY1.out (Nat.le_refl _) (OAY1.out) hg)
        have HO : Hid (OwnI Y2 W.heap.size va' xs) := ho
        have HG := Lib.hid hg
        have HOR := Lib.hid hor
        clear ho hg hor
        have OAY2 := Lib.hid HO.out
        clear HO HG HOR
        refine wpE_br [4, 12] (by kernel_rfl) ?_
        refine AllE.cons rfl rfl (fun K hK => ?_) (AllE.cons rfl rfl (fun K hK => ?_) AllE.nil)
        · skip
          go_simp
          refine hK.out _ _ (HSY2.out.alloc HSY2.out.size _) ?_
          clear hK K
          (try simp only [Act.put, List.setIfInBounds_toArray, List.set_cons_zero, List.set_cons_succ])
          generalize hX : World.alloc Y2 _ = Y3
          have HSY3 : Hid (Below W.heap.size W Y3) := by rw [← hX]; exact HSY2.out.alloc HSY2.out.size _
          have HXY3 : Hid (Below Y2.heap.size Y2 Y3) := by rw [← hX]; exact (Below.refl _ _).alloc (Nat.le_refl _) _
          have OBY3 := Lib.hid (own_newI Y2 W.heap.size _ rfl HSY2.out.size)
          rw [hX] at OBY3
          clear hX
          have SY3 := Lib.hid (St.newB OAY2.out HXY3.out OBY3.out (Nat.le_refl _))
          refine wpE_br [7, 12] (by kernel_rfl) ?_
          refine AllE.cons rfl rfl (fun K hK => ?_) (AllE.cons rfl rfl (fun K hK => ?_) AllE.nil)
          · skip
            refine wp_app_ints (.tmp 30) (.tmp 32) rfl W.heap.size _ [] rfl (SY3.out.b) _ ys rfl (HPO.out.below HSY3.out) (app40 HL2.out) HSY3.out.size ?_
            intro va' Y4 ho hg hor
            refine hK.out _ _ (below_grown HSY3.out (Nat.le_refl _) (SY3.out.b) hg) ?_
            clear hK K
            (try simp only [Act.put, List.setIfInBounds_toArray, List.set_cons_zero, List.set_cons_succ])
            have HSY4 := Lib.hid (below_grown HSY3.out (Nat.le_refl _) (SY3.out.b) hg)
            have HO : Hid (OwnI Y4 W.heap.size va' ys) := ho
            have HG := Lib.hid hg
            have HOR := Lib.hid hor
            clear ho hg hor
            have SY4 := Lib.hid (SY3.out.appB HO.out HG.out HOR.out)
            clear HO HG HOR
            refine wpE_br [8, 12] (by kernel_rfl) ?_
            refine AllE.cons rfl rfl (fun K hK => ?_) (AllE.cons rfl rfl (fun K hK => ?_) AllE.nil)
            · skip
              go_simp
              refine (lpair_any _ _ xs ys _ SY4.out.a.rd SY4.out.b.rd HL1.out HL2.out).mono ?_
              rintro e Y5 ⟨⟨vF, rfl, hrc⟩, hb⟩
              obtain ⟨oa, of, he, hca, hcf⟩ := id hrc
              subst he
              obtain ⟨_, _, _, rfl, _, _, _, _⟩ := hca.rd.op
              obtain ⟨_, _, _, rfl, _, _, _, _⟩ := hcf.rd.op
              refine hK.out _ _ (bchain HSY4.out hb) ?_
              clear hK K hca hcf
              (try simp only [Act.put, List.setIfInBounds_toArray, List.set_cons_zero, List.set_cons_succ])
              have HSY5 := Lib.hid (bchain HSY4.out hb)
              have HXY5 := Lib.hid hb
              have OY5 := Lib.hid hrc
              clear hrc hb
              (refine wpE_take 9 (v := ?_) (by kernel_rfl) rfl rfl (by exact HSY5.out) (fun w' hS => ?_) ?_; rotate_left; (focus ((try obtain s0 := HS.out _ (hS rfl)); clear hS; go_simp; try with_reducible rfl; done)); (try simp only [Act.put, List.setIfInBounds_toArray, List.set_cons_zero, List.set_cons_succ]))
              (refine wpE_take 10 (v := ?_) (by kernel_rfl) rfl rfl (by exact HSY5.out) (fun w' hS => ?_) ?_; rotate_left; (focus ((try obtain s0 := HS.out _ (hS rfl)); clear hS; go_simp; try with_reducible rfl; done)); (try simp only [Act.put, List.setIfInBounds_toArray, List.set_cons_zero, List.set_cons_succ]))
              (refine wpE_take 11 (v := ?_) (by kernel_rfl) rfl rfl (by exact HSY5.out) (fun w' hS => ?_) ?_; rotate_left; (focus ((try obtain s0 := HS.out _ (hS rfl)); clear hS; go_simp; try with_reducible rfl; done)); (try simp only [Act.put, List.setIfInBounds_toArray, List.set_cons_zero, List.set_cons_succ]))
              refine wpE_br [12] (by kernel_rfl) ?_
              refine AllE.cons rfl rfl (fun K hK => ?_) AllE.nil
              go_simp
              refine hK.out _ _ (HSY5.out.alloc HSY5.out.size _) ?_
              clear hK K
              (try simp only [Act.put, List.setIfInBounds_toArray, List.set_cons_zero, List.set_cons_succ])
              generalize hX : World.alloc Y5 _ = Y6
              have HSY6 : Hid (Below W.heap.size W Y6) := by rw [← hX]; exact HSY5.out.alloc HSY5.out.size _
              have HXY6 : Hid (Below Y5.heap.size Y5 Y6) := by rw [← hX]; exact (Below.refl _ _).alloc (Nat.le_refl _) _
              have ZY6 : Hid (FBlk Y6 Y5.heap.size (.int .i64 0) (.slice none 0 0) (.slice none 0 0)) := by rw [← hX]; exact heap_alloc_new _ _
              clear hX
              have hgeY6 : W.heap.size ≤ Y5.heap.size := HSY5.out.size
              have OY6 := Lib.hid (OY5.out.below HXY6.out)
              refine wpE_rest 13 (by kernel_rfl) ?_
              simp only [List.drop_succ_cons, List.drop_zero]
              obtain ⟨r0, r1, r2, f0, f1, f2⟩ := (ZY6).out.facts
              go_wp2_with fail
              refine NoPanic.normal ?_
              go_wp2_with fail
              go_meet
              case rel => exact ⟨_, rfl, rfl, Box.stored (OY6).out (ZY6).out, ((HSY6.out.setCell (by exact hgeY6) _).setCell (by exact hgeY6) _).setCell (by exact hgeY6) _⟩
            · skip
              go_simp
              refine hK.out _ _ (HSY4.out.alloc HSY4.out.size _) ?_
              clear hK K
              (try simp only [Act.put, List.setIfInBounds_toArray, List.set_cons_zero, List.set_cons_succ])
              generalize hX : World.alloc Y4 _ = Y5
              have HSY5 : Hid (Below W.heap.size W Y5) := by rw [← hX]; exact HSY4.out.alloc HSY4.out.size _
              have HXY5 : Hid (Below Y4.heap.size Y4 Y5) := by rw [← hX]; exact (Below.refl _ _).alloc (Nat.le_refl _) _
              have ZY5 : Hid (FBlk Y5 Y4.heap.size (.int .i64 0) (.slice none 0 0) (.slice none 0 0)) := by rw [← hX]; exact heap_alloc_new _ _
              clear hX
              have hgeY5 : W.heap.size ≤ Y4.heap.size := HSY4.out.size
              have SY5 := Lib.hid (SY4.out.below HXY5.out)
              refine wpE_br [8] (by kernel_rfl) ?_
              refine AllE.cons rfl rfl (fun K hK => ?_) AllE.nil
              go_simp
              refine (lpair_any _ _ xs ys _ SY5.out.a.rd SY5.out.b.rd HL1.out HL2.out).mono ?_
              rintro e Y6 ⟨⟨vF, rfl, hrc⟩, hb⟩
              obtain ⟨oa, of, he, hca, hcf⟩ := id hrc
              subst he
              obtain ⟨_, _, _, rfl, _, _, _, _⟩ := hca.rd.op
              obtain ⟨_, _, _, rfl, _, _, _, _⟩ := hcf.rd.op
              refine hK.out _ _ (bchain HSY5.out hb) ?_
              clear hK K hca hcf
              (try simp only [Act.put, List.setIfInBounds_toArray, List.set_cons_zero, List.set_cons_succ])
              have HSY6 := Lib.hid (bchain HSY5.out hb)
              have HXY6 := Lib.hid hb
              have OY6 := Lib.hid hrc
              clear hrc hb
              (refine wpE_take 9 (v := ?_) (by kernel_rfl) rfl rfl (by exact HSY6.out) (fun w' hS => ?_) ?_; rotate_left; (focus ((try obtain s0 := HS.out _ (hS rfl)); clear hS; go_simp; try with_reducible rfl; done)); (try simp only [Act.put, List.setIfInBounds_toArray, List.set_cons_zero, List.set_cons_succ]))
              (refine wpE_take 10 (v := ?_) (by kernel_rfl) rfl rfl (by exact HSY6.out) (fun w' hS => ?_) ?_; rotate_left; (focus ((try obtain s0 := HS.out _ (hS rfl)); clear hS; go_simp; try with_reducible rfl; done)); (try simp only [Act.put, List.setIfInBounds_toArray, List.set_cons_zero, List.set_cons_succ]))
              (refine wpE_take 11 (v := ?_) (by kernel_rfl) rfl rfl (by exact HSY6.out) (fun w' hS => ?_) ?_; rotate_left; (focus ((try obtain s0 := HS.out _ (hS rfl)); clear hS; go_simp; try with_reducible rfl; done)); (try simp only [Act.put, List.setIfInBounds_toArray, List.set_cons_zero, List.set_cons_succ]))
              have ZY6 := Lib.hid (ZY5.out.below HXY6.out)
              refine wpE_rest 13 (by kernel_rfl) ?_
              simp only [List.drop_succ_cons, List.drop_zero]
              obtain ⟨r0, r1, r2, f0, f1, f2⟩ := (ZY6).out.facts
              go_wp2_with fail
              refine NoPanic.normal ?_
              go_wp2_with fail
              go_meet
              case rel => exact ⟨_, rfl, rfl, Box.stored (OY6).out (ZY6).out, ((HSY6.out.setCell (by exact hgeY5) _).setCell (by exact hgeY5) _).setCell (by exact hgeY5) _⟩
          · skip
            go_simp
            refine hK.out _ _ (HSY3.out.alloc HSY3.out.size _) ?_
            clear hK K
            (try simp only [Act.put, List.setIfInBounds_toArray, List.set_cons_zero, List.set_cons_succ])
            generalize hX : World.alloc Y3 _ = Y4
            have HSY4 : Hid (Below W.heap.size W Y4) := by rw [← hX]; exact HSY3.out.alloc HSY3.out.size _
            have HXY4 : Hid (Below Y3.heap.size Y3 Y4) := by rw [← hX]; exact (Below.refl _ _).alloc (Nat.le_refl _) _
            have ZY4 : Hid (FBlk Y4 Y3.heap.size (.int .i64 0) (.slice none 0 0) (.slice none 0 0)) := by rw [← hX]; exact heap_alloc_new _ _
            clear hX
            have hgeY4 : W.heap.size ≤ Y3.heap.size := HSY3.out.size
            have SY4 := Lib.hid (SY3.out.below HXY4.out)
            refine wpE_br [7] (by kernel_rfl) ?_
            refine AllE.cons rfl rfl (fun K hK => ?_) AllE.nil
            refine wp_app_ints (.tmp 30) (.tmp 32) rfl W.heap.size _ [] rfl (SY4.out.b) _ ys rfl (HPO.out.below HSY4.out) (app40 HL2.out) HSY4.out.size ?_
            intro va' Y5 ho hg hor
            refine hK.out _ _ (below_grown HSY4.out (Nat.le_refl _) (SY4.out.b) hg) ?_
            clear hK K
            (try simp only [Act.put, List.setIfInBounds_toArray, List.set_cons_zero, List.set_cons_succ])
            have HSY5 := Lib.hid (below_grown HSY4.out (Nat.le_refl _) (SY4.out.b) hg)
            have HO : Hid (OwnI Y5 W.heap.size va' ys) := ho
            have HG := Lib.hid hg
            have HOR := Lib.hid hor
            clear ho hg hor
            have SY5 := Lib.hid (SY4.out.appB HO.out HG.out HOR.out)
            have ZY5 := Lib.hid (ztrans ZY4.out (SY4.out.b) HG.out)
            clear HO HG HOR
            refine wpE_br [8] (by kernel_rfl) ?_
            refine AllE.cons rfl rfl (fun K hK => ?_) AllE.nil
            go_simp
            refine (lpair_any _ _ xs ys _ SY5.out.a.rd SY5.out.b.rd HL1.out HL2.out).mono ?_
            rintro e Y6 ⟨⟨vF, rfl, hrc⟩, hb⟩
            obtain ⟨oa, of, he, hca, hcf⟩ := id hrc
            subst he
            obtain ⟨_, _, _, rfl, _, _, _, _⟩ := hca.rd.op
            obtain ⟨_, _, _, rfl, _, _, _, _⟩ := hcf.rd.op
            refine hK.out _ _ (bchain HSY5.out hb) ?_
            clear hK K hca hcf
            (try simp only [Act.put, List.setIfInBounds_toArray, List.set_cons_zero, List.set_cons_succ])
            have HSY6 := Lib.hid (bchain HSY5.out hb)
            have HXY6 := Lib.hid hb
            have OY6 := Lib.hid hrc
            clear hrc hb
            (refine wpE_take 9 (v := ?_) (by kernel_rfl) rfl rfl (by exact HSY6.out) (fun w' hS => ?_) ?_; rotate_left; (focus ((try obtain s0 := HS.out _ (hS rfl)); clear hS; go_simp; try with_reducible rfl; done)); (try simp only [Act.put, List.setIfInBounds_toArray, List.set_cons_zero, List.set_cons_succ]))
            (refine wpE_take 10 (v := ?_) (by kernel_rfl) rfl rfl (by exact HSY6.out) (fun w' hS => ?_) ?_; rotate_left; (focus ((try obtain s0 := HS.out _ (hS rfl)); clear hS; go_simp; try with_reducible rfl; done)); (try simp only [Act.put, List.setIfInBounds_toArray, List.set_cons_zero, List.set_cons_succ]))
            (refine wpE_take 11 (v := ?_) (by kernel_rfl) rfl rfl (by exact HSY6.out) (fun w' hS => ?_) ?_; rotate_left; (focus ((try obtain s0 := HS.out _ (hS rfl)); clear hS; go_simp; try with_reducible rfl; done)); (try simp only [Act.put, List.setIfInBounds_toArray, List.set_cons_zero, List.set_cons_succ]))
            have ZY6 := Lib.hid (ZY5.out.below HXY6.out)
            refine wpE_rest 13 (by kernel_rfl) ?_
            simp only [List.drop_succ_cons, List.drop_zero]
            obtain ⟨r0, r1, r2, f0, f1, f2⟩ := (ZY6).out.facts
            go_wp2_with fail
            refine NoPanic.normal ?_
            go_wp2_with fail
            go_meet
            case rel => exact ⟨_, rfl, rfl, Box.stored (OY6).out (ZY6).out, ((HSY6.out.setCell (by exact hgeY4) _).setCell (by exact hgeY4) _).setCell (by exact hgeY4) _⟩
        · skip
          go_simp
          refine hK.out _ _ (HSY2.out.alloc HSY2.out.size _) ?_
          clear hK K
          (try simp only [Act.put, List.setIfInBounds_toArray, List.set_cons_zero, List.set_cons_succ])
          generalize hX : World.alloc Y2 _ = Y3
          have HSY3 : Hid (Below W.heap.size W Y3) := by rw [← hX]; exact HSY2.out.alloc HSY2.out.size _
          have HXY3 : Hid (Below Y2.heap.size Y2 Y3) := by rw [← hX]; exact (Below.refl _ _).alloc (Nat.le_refl _) _
          have ZY3 : Hid (FBlk Y3 Y2.heap.size (.int .i64 0) (.slice none 0 0) (.slice none 0 0)) := by rw [← hX]; exact heap_alloc_new _ _
          clear hX
          have hgeY3 : W.heap.size ≤ Y2.heap.size := HSY2.out.size
          have OAY3 := Lib.hid (own_below OAY2.out HXY3.out)
          refine wpE_br [4] (by kernel_rfl) ?_
          refine AllE.cons rfl rfl (fun K hK => ?_) AllE.nil
          go_simp
          refine hK.out _ _ (HSY3.out.alloc HSY3.out.size _) ?_
          clear hK K
          (try simp only [Act.put, List.setIfInBounds_toArray, List.set_cons_zero, List.set_cons_succ])
          generalize hX : World.alloc Y3 _ = Y4
          have HSY4 : Hid (Below W.heap.size W Y4) := by rw [← hX]; exact HSY3.out.alloc HSY3.out.size _
          have HXY4 : Hid (Below Y3.heap.size Y3 Y4) := by rw [← hX]; exact (Below.refl _ _).alloc (Nat.le_refl _) _
          have OBY4 := Lib.hid (own_newI Y3 W.heap.size _ rfl HSY3.out.size)
          rw [hX] at OBY4
          clear hX
          have SY4 := Lib.hid (St.newB OAY3.out HXY4.out OBY4.out (Nat.le_refl _))
          have ZY4 := Lib.hid (ZY3.out.below HXY4.out)
          refine wpE_br [7] (by kernel_rfl) ?_
          refine AllE.cons rfl rfl (fun K hK => ?_) AllE.nil
          refine wp_app_ints (.tmp 30) (.tmp 32) rfl W.heap.size _ [] rfl (SY4.out.b) _ ys rfl (HPO.out.below HSY4.out) (app40 HL2.out) HSY4.out.size ?_
          intro va' Y5 ho hg hor
          refine hK.out _ _ (below_grown HSY4.out (Nat.le_refl _) (SY4.out.b) hg) ?_
          clear hK K
          (try simp only [Act.put, List.setIfInBounds_toArray, List.set_cons_zero, List.set_cons_succ])
          have HSY5 := Lib.hid (below_grown HSY4.out (Nat.le_refl _) (SY4.out.b) hg)
          have HO : Hid (OwnI Y5 W.heap.size va' ys) := ho
          have HG := Lib.hid hg
          have HOR := Lib.hid hor
          clear ho hg hor
          have SY5 := Lib.hid (SY4.out.appB HO.out HG.out HOR.out)
          have ZY5 := Lib.hid (ztrans ZY4.out (SY4.out.b) HG.out)
          clear HO HG HOR
          refine wpE_br [8] (by kernel_rfl) ?_
          refine AllE.cons rfl rfl (fun K hK => ?_) AllE.nil
          go_simp
          refine (lpair_any _ _ xs ys _ SY5.out.a.rd SY5.out.b.rd HL1.out HL2.out).mono ?_
          rintro e Y6 ⟨⟨vF, rfl, hrc⟩, hb⟩
          obtain ⟨oa, of, he, hca, hcf⟩ := id hrc
          subst he
          obtain ⟨_, _, _, rfl, _, _, _, _⟩ := hca.rd.op
          obtain ⟨_, _, _, rfl, _, _, _, _⟩ := hcf.rd.op
          refine hK.out _ _ (bchain HSY5.out hb) ?_
          clear hK K hca hcf
          (try simp only [Act.put, List.setIfInBounds_toArray, List.set_cons_zero, List.set_cons_succ])
          have HSY6 := Lib.hid (bchain HSY5.out hb)
          have HXY6 := Lib.hid hb
          have OY6 := Lib.hid hrc
          clear hrc hb
          (refine wpE_take 9 (v := ?_) (by kernel_rfl) rfl rfl (by exact HSY6.out) (fun w' hS => ?_) ?_; rotate_left; (focus ((try obtain s0 := HS.out _ (hS rfl)); clear hS; go_simp; try with_reducible rfl; done)); (try simp only [Act.put, List.setIfInBounds_toArray, List.set_cons_zero, List.set_cons_succ]))
          (refine wpE_take 10 (v := ?_) (by kernel_rfl) rfl rfl (by exact HSY6.out) (fun w' hS => ?_) ?_; rotate_left; (focus ((try obtain s0 := HS.out _ (hS rfl)); clear hS; go_simp; try with_reducible rfl; done)); (try simp only [Act.put, List.setIfInBounds_toArray, List.set_cons_zero, List.set_cons_succ]))
          (refine wpE_take 11 (v := ?_) (by kernel_rfl) rfl rfl (by exact HSY6.out) (fun w' hS => ?_) ?_; rotate_left; (focus ((try obtain s0 := HS.out _ (hS rfl)); clear hS; go_simp; try with_reducible rfl; done)); (try simp only [Act.put, List.setIfInBounds_toArray, List.set_cons_zero, List.set_cons_succ]))
          have ZY6 := Lib.hid (ZY5.out.below HXY6.out)
          refine wpE_rest 13 (by kernel_rfl) ?_
          simp only [List.drop_succ_cons, List.drop_zero]
          obtain ⟨r0, r1, r2, f0, f1, f2⟩ := (ZY6).out.facts
          go_wp2_with fail
          refine NoPanic.normal ?_
          go_wp2_with fail
          go_meet
          case rel => exact ⟨_, rfl, rfl, Box.stored (OY6).out (ZY6).out, ((HSY6.out.setCell (by exact hgeY3) _).setCell (by exact hgeY3) _).setCell (by exact hgeY3) _⟩
      · skip
        go_simp
        refine hK.out _ _ (HSY1.out.alloc HSY1.out.size _) ?_
        clear hK K
        (try simp only [Act.put, List.setIfInBounds_toArray, List.set_cons_zero, List.set_cons_succ])
        generalize hX : World.alloc Y1 _ = Y2
        have HSY2 : Hid (Below W.heap.size W Y2) := by rw [← hX]; exact HSY1.out.alloc HSY1.out.size _
        have HXY2 : Hid (Below Y1.heap.size Y1 Y2) := by rw [← hX]; exact (Below.refl _ _).alloc (Nat.le_refl _) _
        have OBY2 := Lib.hid (own_newI Y1 W.heap.size _ rfl HSY1.out.size)
        rw [hX] at OBY2
        clear hX
        have SY2 := Lib.hid (St.newB OAY1.out HXY2.out OBY2.out (Nat.le_refl _))
        refine wpE_br [3, 12] (by kernel_rfl) ?_
        refine AllE.cons rfl rfl (fun K hK => ?_) (AllE.cons rfl rfl (fun K hK => ?_) AllE.nil)
        · skip
          refine wp_app_ints (.tmp 26) (.tmp 28) rfl W.heap.size _ [] rfl (SY2.out.a) _ xs rfl (HPI.out.below HSY2.out) (app40 HL1.out) HSY2.out.size ?_
          intro va' Y3 ho hg hor
          refine hK.out _ _ (below_grown HSY2.out (Nat.le_refl _) (SY2.out.a) hg) ?_
          clear hK K
          (try simp only [Act.put, List.setIfInBounds_toArray, List.set_cons_zero, List.set_cons_succ])
          have HSY3 := Lib.hid (below_grown HSY2.out (Nat.le_refl _) (SY2.out.a) hg)
          have HO : Hid (OwnI Y3 W.heap.size va' xs) := ho
          have HG := Lib.hid hg
          have HOR := Lib.hid hor
          clear ho hg hor
          have SY3 := Lib.hid (SY2.out.appA HO.out HG.out HOR.out)
          clear HO HG HOR
          refine wpE_br [7, 12] (by kernel_rfl) ?_
          refine AllE.cons rfl rfl (fun K hK => ?_) (AllE.cons rfl rfl (fun K hK => ?_) AllE.nil)
          · skip
            refine wp_app_ints (.tmp 30) (.tmp 32) rfl W.heap.size _ [] rfl (SY3.out.b) _ ys rfl (HPO.out.below HSY3.out) (app40 HL2.out) HSY3.out.size ?_
            intro va' Y4 ho hg hor
            refine hK.out _ _ (below_grown HSY3.out (Nat.le_refl _) (SY3.out.b) hg) ?_
            clear hK K
            (try simp only [Act.put, List.setIfInBounds_toArray, List.set_cons_zero, List.set_cons_succ])
            have HSY4 := Lib.hid (below_grown HSY3.out (Nat.le_refl _) (SY3.out.b) hg)
            have HO : Hid (OwnI Y4 W.heap.size va' ys) := ho
            have HG := Lib.hid hg
            have HOR := Lib.hid hor
            clear ho hg hor
            have SY4 := Lib.hid (SY3.out.appB HO.out HG.out HOR.out)
            clear HO HG HOR
            refine wpE_br [8, 12] (by kernel_rfl) ?_
            refine AllE.cons rfl rfl (fun K hK => ?_) (AllE.cons rfl rfl (fun K hK => ?_) AllE.nil)
            · skip
              go_simp
              refine (lpair_any _ _ xs ys _ SY4.out.a.rd SY4.out.b.rd HL1.out HL2.out).mono ?_
              rintro e Y5 ⟨⟨vF, rfl, hrc⟩, hb⟩
              obtain ⟨oa, of, he, hca, hcf⟩ := id hrc
              subst he
              obtain ⟨_, _, _, rfl, _, _, _, _⟩ := hca.rd.op
              obtain ⟨_, _, _, rfl, _, _, _, _⟩ := hcf.rd.op
              refine hK.out _ _ (bchain HSY4.out hb) ?_
              clear hK K hca hcf
              (try simp only [Act.put, List.setIfInBounds_toArray, List.set_cons_zero, List.set_cons_succ])
              have HSY5 := Lib.hid (bchain HSY4.out hb)
              have HXY5 := Lib.hid hb
              have OY5 := Lib.hid hrc
              clear hrc hb
              (refine wpE_take 9 (v := ?_) (by kernel_rfl) rfl rfl (by exact HSY5.out) (fun w' hS => ?_) ?_; rotate_left; (focus ((try obtain s0 := HS.out _ (hS rfl)); clear hS; go_simp; try with_reducible rfl; done)); (try simp only [Act.put, List.setIfInBounds_toArray, List.set_cons_zero, List.set_cons_succ]))
              (refine wpE_take 10 (v := ?_) (by kernel_rfl) rfl rfl (by exact HSY5.out) (fun w' hS => ?_) ?_; rotate_left; (focus ((try obtain s0 := HS.out _ (hS rfl)); clear hS; go_simp; try with_reducible rfl; done)); (try simp only [Act.put, List.setIfInBounds_toArray, List.set_cons_zero, List.set_cons_succ]))
              (refine wpE_take 11 (v := ?_) (by kernel_rfl) rfl rfl (by exact HSY5.out) (fun w' hS => ?_) ?_; rotate_left; (focus ((try obtain s0 := HS.out _ (hS rfl)); clear hS; go_simp; try with_reducible rfl; done)); (try simp only [Act.put, List.setIfInBounds_toArray, List.set_cons_zero, List.set_cons_succ]))
              refine wpE_br [12] (by kernel_rfl) ?_
              refine AllE.cons rfl rfl (fun K hK => ?_) AllE.nil
              go_simp
              refine hK.out _ _ (HSY5.out.alloc HSY5.out.size _) ?_
              clear hK K
              (try simp only [Act.put, List.setIfInBounds_toArray, List.set_cons_zero, List.set_cons_succ])
              generalize hX : World.alloc Y5 _ = Y6
              have HSY6 : Hid (Below W.heap.size W Y6) := by rw [← hX]; exact HSY5.out.alloc HSY5.out.size _
              have HXY6 : Hid (Below Y5.heap.size Y5 Y6) := by rw [← hX]; exact (Below.refl _ _).alloc (Nat.le_refl _) _
              have ZY6 : Hid (FBlk Y6 Y5.heap.size (.int .i64 0) (.slice none 0 0) (.slice none 0 0)) := by rw [← hX]; exact heap_alloc_new _ _
              clear hX
              have hgeY6 : W.heap.size ≤ Y5.heap.size := HSY5.out.size
              have OY6 := Lib.hid (OY5.out.below HXY6.out)
              refine wpE_rest 13 (by kernel_rfl) ?_
              simp only [List.drop_succ_cons, List.drop_zero]
              obtain ⟨r0, r1, r2, f0, f1, f2⟩ := (ZY6).out.facts
              go_wp2_with fail
              refine NoPanic.normal ?_
              go_wp2_with fail
              go_meet
              case rel => exact ⟨_, rfl, rfl, Box.stored (OY6).out (ZY6).out, ((HSY6.out.setCell (by exact hgeY6) _).setCell (by exact hgeY6) _).setCell (by exact hgeY6) _⟩
            · skip
              go_simp
              refine hK.out _ _ (HSY4.out.alloc HSY4.out.size _) ?_
              clear hK K
              (try simp only [Act.put, List.setIfInBounds_toArray, List.set_cons_zero, List.set_cons_succ])
              generalize hX : World.alloc Y4 _ = Y5
              have HSY5 : Hid (Below W.heap.size W Y5) := by rw [← hX]; exact HSY4.out.alloc HSY4.out.size _
              have HXY5 : Hid (Below Y4.heap.size Y4 Y5) := by rw [← hX]; exact (Below.refl _ _).alloc (Nat.le_refl _) _
              have ZY5 : Hid (FBlk Y5 Y4.heap.size (.int .i64 0) (.slice none 0 0) (.slice none 0 0)) := by rw [← hX]; exact heap_alloc_new _ _
              clear hX
              have hgeY5 : W.heap.size ≤ Y4.heap.size := HSY4.out.size
              have SY5 := Lib.hid (SY4.out.below HXY5.out)
              refine wpE_br [8] (by kernel_rfl) ?_
              refine AllE.cons rfl rfl (fun K hK => ?_) AllE.nil
              go_simp
              refine (lpair_any _ _ xs ys _ SY5.out.a.rd SY5.out.b.rd HL1.out HL2.out).mono ?_
              rintro e Y6 ⟨⟨vF, rfl, hrc⟩, hb⟩
              obtain ⟨oa, of, he, hca, hcf⟩ := id hrc
              subst he
              obtain ⟨_, _, _, rfl, _, _, _, _⟩ := hca.rd.op
              obtain ⟨_, _, _, rfl, _, _, _, _⟩ := hcf.rd.op
              refine hK.out _ _ (bchain HSY5.out hb) ?_
              clear hK K hca hcf
              (try simp only [Act.put, List.setIfInBounds_toArray, List.set_cons_zero, List.set_cons_succ])
              have HSY6 := Lib.hid (bchain HSY5.out hb)
              have HXY6 := Lib.hid hb
              have OY6 := Lib.hid hrc
              clear hrc hb
              (refine wpE_take 9 (v := ?_) (by kernel_rfl) rfl rfl (by exact HSY6.out) (fun w' hS => ?_) ?_; rotate_left; (focus ((try obtain s0 := HS.out _ (hS rfl)); clear hS; go_simp; try with_reducible rfl; done)); (try simp only [Act.put, List.setIfInBounds_toArray, List.set_cons_zero, List.set_cons_succ]))
              (refine wpE_take 10 (v := ?_) (by kernel_rfl) rfl rfl (by exact HSY6.out) (fun w' hS => ?_) ?_; rotate_left; (focus ((try obtain s0 := HS.out _ (hS rfl)); clear hS; go_simp; try with_reducible rfl; done)); (try simp only [Act.put, List.setIfInBounds_toArray, List.set_cons_zero, List.set_cons_succ]))
              (refine wpE_take 11 (v := ?_) (by kernel_rfl) rfl rfl (by exact HSY6.out) (fun w' hS => ?_) ?_; rotate_left; (focus ((try obtain s0 := HS.out _ (hS rfl)); clear hS; go_simp; try with_reducible rfl; done)); (try simp only [Act.put, List.setIfInBounds_toArray, List.set_cons_zero, List.set_cons_succ]))
              have ZY6 := Lib.hid (ZY5.out.below HXY6.out)
              refine wpE_rest 13 (by kernel_rfl) ?_
              simp only [List.drop_succ_cons, List.drop_zero]
              obtain ⟨r0, r1, r2, f0, f1, f2⟩ := (ZY6).out.facts
              go_wp2_with fail
              refine NoPanic.normal ?_
              go_wp2_with fail
              go_meet
              case rel => exact ⟨_, rfl, rfl, Box.stored (OY6).out (ZY6).out, ((HSY6.out.setCell (by exact hgeY5) _).setCell (by exact hgeY5) _).setCell (by exact hgeY5) _⟩
          · skip
            go_simp
            refine hK.out _ _ (HSY3.out.alloc HSY3.out.size _) ?_
            clear hK K
            (try simp only [Act.put, List.setIfInBounds_toArray, List.set_cons_zero, List.set_cons_succ])
            generalize hX : World.alloc Y3 _ = Y4
            have HSY4 : Hid (Below W.heap.size W Y4) := by rw [← hX]; exact HSY3.out.alloc HSY3.out.size _
            have HXY4 : Hid (Below Y3.heap.size Y3 Y4) := by rw [← hX]; exact (Below.refl _ _).alloc (Nat.le_refl _) _
            have ZY4 : Hid (FBlk Y4 Y3.heap.size (.int .i64 0) (.slice none 0 0) (.slice none 0 0)) := by rw [← hX]; exact heap_alloc_new _ _
            clear hX
            have hgeY4 : W.heap.size ≤ Y3.heap.size := HSY3.out.size
            have SY4 := Lib.hid (SY3.out.below HXY4.out)
            refine wpE_br [7] (by kernel_rfl) ?_
            refine AllE.cons rfl rfl (fun K hK => ?_) AllE.nil
            refine wp_app_ints (.tmp 30) (.tmp 32) rfl W.heap.size _ [] rfl (SY4.out.b) _ ys rfl (HPO.out.below HSY4.out) (app40 HL2.out) HSY4.out.size ?_
            intro va' Y5 ho hg hor
            refine hK.out _ _ (below_grown HSY4.out (Nat.le_refl _) (SY4.out.b) hg) ?_
            clear hK K
            (try simp only [Act.put, List.setIfInBounds_toArray, List.set_cons_zero, List.set_cons_succ])
            have HSY5 := Lib.hid (below_grown HSY4.out (Nat.le_refl _) (SY4.out.b) hg)
            have HO : Hid (OwnI Y5 W.heap.size va' ys) := ho
            have HG := Lib.hid hg
            have HOR := Lib.hid hor
            clear ho hg hor
            have SY5 := Lib.hid (SY4.out.appB HO.out HG.out HOR.out)
            have ZY5 := Lib.hid (ztrans ZY4.out (SY4.out.b) HG.out)
            clear HO HG HOR
            refine wpE_br [8] (by kernel_rfl) ?_
            refine AllE.cons rfl rfl (fun K hK => ?_) AllE.nil
            go_simp
            refine (lpair_any _ _ xs ys _ SY5.out.a.rd SY5.out.b.rd HL1.out HL2.out).mono ?_
            rintro e Y6 ⟨⟨vF, rfl, hrc⟩, hb⟩
            obtain ⟨oa, of, he, hca, hcf⟩ := id hrc
            subst he
            obtain ⟨_, _, _, rfl, _, _, _, _⟩ := hca.rd.op
            obtain ⟨_, _, _, rfl, _, _, _, _⟩ := hcf.rd.op
            refine hK.out _ _ (bchain HSY5.out hb) ?_
            clear hK K hca hcf
            (try simp only [Act.put, List.setIfInBounds_toArray, List.set_cons_zero, List.set_cons_succ])
            have HSY6 := Lib.hid (bchain HSY5.out hb)
            have HXY6 := Lib.hid hb
            have OY6 := Lib.hid hrc
            clear hrc hb
            (refine wpE_take 9 (v := ?_) (by kernel_rfl) rfl rfl (by exact HSY6.out) (fun w' hS => ?_) ?_; rotate_left; (focus ((try obtain s0 := HS.out _ (hS rfl)); clear hS; go_simp; try with_reducible rfl; done)); (try simp only [Act.put, List.setIfInBounds_toArray, List.set_cons_zero, List.set_cons_succ]))
            (refine wpE_take 10 (v := ?_) (by kernel_rfl) rfl rfl (by exact HSY6.out) (fun w' hS => ?_) ?_; rotate_left; (focus ((try obtain s0 := HS.out _ (hS rfl)); clear hS; go_simp; try with_reducible rfl; done)); (try simp only [Act.put, List.setIfInBounds_toArray, List.set_cons_zero, List.set_cons_succ]))
            (refine wpE_take 11 (v := ?_) (by kernel_rfl) rfl rfl (by exact HSY6.out) (fun w' hS => ?_) ?_; rotate_left; (focus ((try obtain s0 := HS.out _ (hS rfl)); clear hS; go_simp; try with_reducible rfl; done)); (try simp only [Act.put, List.setIfInBounds_toArray, List.set_cons_zero, List.set_cons_succ]))
            have ZY6 := Lib.hid (ZY5.out.below HXY6.out)
            refine wpE_rest 13 (by kernel_rfl) ?_
            simp only [List.drop_succ_cons, List.drop_zero]
            obtain ⟨r0, r1, r2, f0, f1, f2⟩ := (ZY6).out.facts
            go_wp2_with fail
            refine NoPanic.normal ?_
            go_wp2_with fail
            go_meet
            case rel => exact ⟨_, rfl, rfl, Box.stored (OY6).out (ZY6).out, ((HSY6.out.setCell (by exact hgeY4) _).setCell (by exact hgeY4) _).setCell (by exact hgeY4) _⟩
        · skip
          go_simp
          refine hK.out _ _ (HSY2.out.alloc HSY2.out.size _) ?_
          clear hK K
          (try simp only [Act.put, List.setIfInBounds_toArray, List.set_cons_zero, List.set_cons_succ])
          generalize hX : World.alloc Y2 _ = Y3
          have HSY3 : Hid (Below W.heap.size W Y3) := by rw [← hX]; exact HSY2.out.alloc HSY2.out.size _
          have HXY3 : Hid (Below Y2.heap.size Y2 Y3) := by rw [← hX]; exact (Below.refl _ _).alloc (Nat.le_refl _) _
          have ZY3 : Hid (FBlk Y3 Y2.heap.size (.int .i64 0) (.slice none 0 0) (.slice none 0 0)) := by rw [← hX]; exact heap_alloc_new _ _
          clear hX
          have hgeY3 : W.heap.size ≤ Y2.heap.size := HSY2.out.size
          have SY3 := Lib.hid (SY2.out.below HXY3.out)
          refine wpE_br [3] (by kernel_rfl) ?_
          refine AllE.cons rfl rfl (fun K hK => ?_) AllE.nil
          refine wp_app_ints (.tmp 26) (.tmp 28) rfl W.heap.size _ [] rfl (SY3.out.a) _ xs rfl (HPI.out.below HSY3.out) (app40 HL1.out) HSY3.out.size ?_
          intro va' Y4 ho hg hor
          refine hK.out _ _ (below_grown HSY3.out (Nat.le_refl _) (SY3.out.a) hg) ?_
          clear hK K
          (try simp only [Act.put, List.setIfInBounds_toArray, List.set_cons_zero, List.set_cons_succ])
          have HSY4 := Lib.hid (below_grown HSY3.out (Nat.le_refl _) (SY3.out.a) hg)
          have HO : Hid (OwnI Y4 W.heap.size va' xs) := ho
          have HG := Lib.hid hg
          have HOR := Lib.hid hor
          clear ho hg hor
          have SY4 := Lib.hid (SY3.out.appA HO.out HG.out HOR.out)
          have ZY4 := Lib.hid (ztrans ZY3.out (SY3.out.a) HG.out)
          clear HO HG HOR
          refine wpE_br [7] (by kernel_rfl) ?_
          refine AllE.cons rfl rfl (fun K hK => ?_) AllE.nil
          refine wp_app_ints (.tmp 30) (.tmp 32) rfl W.heap.size _ [] rfl (SY4.out.b) _ ys rfl (HPO.out.below HSY4.out) (app40 HL2.out) HSY4.out.size ?_
          intro va' Y5 ho hg hor
          refine hK.out _ _ (below_grown HSY4.out (Nat.le_refl _) (SY4.out.b) hg) ?_
          clear hK K
          (try simp only [Act.put, List.setIfInBounds_toArray, List.set_cons_zero, List.set_cons_succ])
          have HSY5 := Lib.hid (below_grown HSY4.out (Nat.le_refl _) (SY4.out.b) hg)
          have HO : Hid (OwnI Y5 W.heap.size va' ys) := ho
          have HG := Lib.hid hg
          have HOR := Lib.hid hor
          clear ho hg hor
          have SY5 := Lib.hid (SY4.out.appB HO.out HG.out HOR.out)
          have ZY5 := Lib.hid (ztrans ZY4.out (SY4.out.b) HG.out)
          clear HO HG HOR
          refine wpE_br [8] (by kernel_rfl) ?_
          refine AllE.cons rfl rfl (fun K hK => ?_) AllE.nil
          go_simp
          refine (lpair_any _ _ xs ys _ SY5.out.a.rd SY5.out.b.rd HL1.out HL2.out).mono ?_
          rintro e Y6 ⟨⟨vF, rfl, hrc⟩, hb⟩
          obtain ⟨oa, of, he, hca, hcf⟩ := id hrc
          subst he
          obtain ⟨_, _, _, rfl, _, _, _, _⟩ := hca.rd.op
          obtain ⟨_, _, _, rfl, _, _, _, _⟩ := hcf.rd.op
          refine hK.out _ _ (bchain HSY5.out hb) ?_
          clear hK K hca hcf
          (try simp only [Act.put, List.setIfInBounds_toArray, List.set_cons_zero, List.set_cons_succ])
          have HSY6 := Lib.hid (bchain HSY5.out hb)
          have HXY6 := Lib.hid hb
          have OY6 := Lib.hid hrc
          clear hrc hb
          (refine wpE_take 9 (v := ?_) (by kernel_rfl) rfl rfl (by exact HSY6.out) (fun w' hS => ?_) ?_; rotate_left; (focus ((try obtain s0 := HS.out _ (hS rfl)); clear hS; go_simp; try with_reducible rfl; done)); (try simp only [Act.put, List.setIfInBounds_toArray, List.set_cons_zero, List.set_cons_succ]))
          (refine wpE_take 10 (v := ?_) (by kernel_rfl) rfl rfl (by exact HSY6.out) (fun w' hS => ?_) ?_; rotate_left; (focus ((try obtain s0 := HS.out _ (hS rfl)); clear hS; go_simp; try with_reducible rfl; done)); (try simp only [Act.put, List.setIfInBounds_toArray, List.set_cons_zero, List.set_cons_succ]))
          (refine wpE_take 11 (v := ?_) (by kernel_rfl) rfl rfl (by exact HSY6.out) (fun w' hS => ?_) ?_; rotate_left; (focus ((try obtain s0 := HS.out _ (hS rfl)); clear hS; go_simp; try with_reducible rfl; done)); (try simp only [Act.put, List.setIfInBounds_toArray, List.set_cons_zero, List.set_cons_succ]))
          have ZY6 := Lib.hid (ZY5.out.below HXY6.out)
          refine wpE_rest 13 (by kernel_rfl) ?_
          simp only [List.drop_succ_cons, List.drop_zero]
          obtain ⟨r0, r1, r2, f0, f1, f2⟩ := (ZY6).out.facts
          go_wp2_with fail
          refine NoPanic.normal ?_
          go_wp2_with fail
          go_meet
          case rel => exact ⟨_, rfl, rfl, Box.stored (OY6).out (ZY6).out, ((HSY6.out.setCell (by exact hgeY3) _).setCell (by exact hgeY3) _).setCell (by exact hgeY3) _⟩
      · skip
        go_simp
        refine hK.out _ _ (HSY1.out.alloc HSY1.out.size _) ?_
        clear hK K
        (try simp only [Act.put, List.setIfInBounds_toArray, List.set_cons_zero, List.set_cons_succ])
        generalize hX : World.alloc Y1 _ = Y2
        have HSY2 : Hid (Below W.heap.size W Y2) := by rw [← hX]; exact HSY1.out.alloc HSY1.out.size _
        have HXY2 : Hid (Below Y1.heap.size Y1 Y2) := by rw [← hX]; exact (Below.refl _ _).alloc (Nat.le_refl _) _
        have ZY2 : Hid (FBlk Y2 Y1.heap.size (.int .i64 0) (.slice none 0 0) (.slice none 0 0)) := by rw [← hX]; exact heap_alloc_new _ _
        clear hX
        have hgeY2 : W.heap.size ≤ Y1.heap.size := HSY1.out.size
        have OAY2 := Lib.hid (own_below OAY1.out HXY2.out)
        refine wpE_br [3, 4] (by kernel_rfl) ?_
        refine AllE.cons rfl rfl (fun K hK => ?_) (AllE.cons rfl rfl (fun K hK => ?_) AllE.nil)
        · skip
          refine wp_app_ints (.tmp 26) (.tmp 28) rfl W.heap.size _ [] rfl (OAY2.out) _ xs rfl (HPI.out.below HSY2.out) (app40 HL1.out) HSY2.out.size ?_
          intro va' Y3 ho hg hor
          refine hK.out _ _ (below_grown HSY2.out (Nat.le_refl _) (OAY2.out) hg) ?_
          clear hK K
          (try simp only [Act.put, List.setIfInBounds_toArray, List.set_cons_zero, List.set_cons_succ])
          have HSY3 := Lib.hid (below_grown HSY2.out (Nat.le_refl _) (OAY2.out) hg)
          have HO : Hid (OwnI Y3 W.heap.size va' xs) := ho
          have HG := Lib.hid hg
          have HOR := Lib.hid hor
          clear ho hg hor
          have OAY3 := Lib.hid HO.out
          have ZY3 := Lib.hid (ztrans ZY2.out (OAY2.out) HG.out)
          clear HO HG HOR
          refine wpE_br [4] (by kernel_rfl) ?_
          refine AllE.cons rfl rfl (fun K hK => ?_) AllE.nil
          go_simp
          refine hK.out _ _ (HSY3.out.alloc HSY3.out.size _) ?_
          clear hK K
          (try simp only [Act.put, List.setIfInBounds_toArray, List.set_cons_zero, List.set_cons_succ])
          generalize hX : World.alloc Y3 _ = Y4
          have HSY4 : Hid (Below W.heap.size W Y4) := by rw [← hX]; exact HSY3.out.alloc HSY3.out.size _
          have HXY4 : Hid (Below Y3.heap.size Y3 Y4) := by rw [← hX]; exact (Below.refl _ _).alloc (Nat.le_refl _) _
          have OBY4 := Lib.hid (own_newI Y3 W.heap.size _ rfl HSY3.out.size)
          rw [hX] at OBY4
          clear hX
          have SY4 := Lib.hid (St.newB OAY3.out HXY4.out OBY4.out (Nat.le_refl _))
          have ZY4 := Lib.hid (ZY3.out.below HXY4.out)
          refine wpE_br [7] (by kernel_rfl) ?_
          refine AllE.cons rfl rfl (fun K hK => ?_) AllE.nil
          refine wp_app_ints (.tmp 30) (.tmp 32) rfl W.heap.size _ [] rfl (SY4.out.b) _ ys rfl (HPO.out.below HSY4.out) (app40 HL2.out) HSY4.out.size ?_
          intro va' Y5 ho hg hor
          refine hK.out _ _ (below_grown HSY4.out (Nat.le_refl _) (SY4.out.b) hg) ?_
          clear hK K
          (try simp only [Act.put, List.setIfInBounds_toArray, List.set_cons_zero, List.set_cons_succ])
          have HSY5 := Lib.hid (below_grown HSY4.out (Nat.le_refl _) (SY4.out.b) hg)
          have HO : Hid (OwnI Y5 W.heap.size va' ys) := ho
          have HG := Lib.hid hg
          have HOR := Lib.hid hor
          clear ho hg hor
          have SY5 := Lib.hid (SY4.out.appB HO.out HG.out HOR.out)
          have ZY5 := Lib.hid (ztrans ZY4.out (SY4.out.b) HG.out)
          clear HO HG HOR
          refine wpE_br [8] (by kernel_rfl) ?_
          refine AllE.cons rfl rfl (fun K hK => ?_) AllE.nil
          go_simp
          refine (lpair_any _ _ xs ys _ SY5.out.a.rd SY5.out.b.rd HL1.out HL2.out).mono ?_
          rintro e Y6 ⟨⟨vF, rfl, hrc⟩, hb⟩
          obtain ⟨oa, of, he, hca, hcf⟩ := id hrc
          subst he
          obtain ⟨_, _, _, rfl, _, _, _, _⟩ := hca.rd.op
          obtain ⟨_, _, _, rfl, _, _, _, _⟩ := hcf.rd.op
          refine hK.out _ _ (bchain HSY5.out hb) ?_
          clear hK K hca hcf
          (try simp only [Act.put, List.setIfInBounds_toArray, List.set_cons_zero, List.set_cons_succ])
          have HSY6 := Lib.hid (bchain HSY5.out hb)
          have HXY6 := Lib.hid hb
          have OY6 := Lib.hid hrc
          clear hrc hb
          (refine wpE_take 9 (v := ?_) (by kernel_rfl) rfl rfl (by exact HSY6.out) (fun w' hS => ?_) ?_; rotate_left; (focus ((try obtain s0 := HS.out _ (hS rfl)); clear hS; go_simp; try with_reducible rfl; done)); (try simp only [Act.put, List.setIfInBounds_toArray, List.set_cons_zero, List.set_cons_succ]))
          (refine wpE_take 10 (v := ?_) (by kernel_rfl) rfl rfl (by exact HSY6.out) (fun w' hS => ?_) ?_; rotate_left; (focus ((try obtain s0 := HS.out _ (hS rfl)); clear hS; go_simp; try with_reducible rfl; done)); (try simp only [Act.put, List.setIfInBounds_toArray, List.set_cons_zero, List.set_cons_succ]))
          (refine wpE_take 11 (v := ?_) (by kernel_rfl) rfl rfl (by exact HSY6.out) (fun w' hS => ?_) ?_; rotate_left; (focus ((try obtain s0 := HS.out _ (hS rfl)); clear hS; go_simp; try with_reducible rfl; done)); (try simp only [Act.put, List.setIfInBounds_toArray, List.set_cons_zero, List.set_cons_succ]))
          have ZY6 := Lib.hid (ZY5.out.below HXY6.out)
          refine wpE_rest 13 (by kernel_rfl) ?_
          simp only [List.drop_succ_cons, List.drop_zero]
          obtain ⟨r0, r1, r2, f0, f1, f2⟩ := (ZY6).out.facts
          go_wp2_with fail
          refine NoPanic.normal ?_
          go_wp2_with fail
          go_meet
          case rel => exact ⟨_, rfl, rfl, Box.stored (OY6).out (ZY6).out, ((HSY6.out.setCell (by exact hgeY2) _).setCell (by exact hgeY2) _).setCell (by exact hgeY2) _⟩
        · skip
          go_simp
          refine hK.out _ _ (HSY2.out.alloc HSY2.out.size _) ?_
          clear hK K
          (try simp only [Act.put, List.setIfInBounds_toArray, List.set_cons_zero, List.set_cons_succ])
          generalize hX : World.alloc Y2 _ = Y3
          have HSY3 : Hid (Below W.heap.size W Y3) := by rw [← hX]; exact HSY2.out.alloc HSY2.out.size _
          have HXY3 : Hid (Below Y2.heap.size Y2 Y3) := by rw [← hX]; exact (Below.refl _ _).alloc (Nat.le_refl _) _
          have OBY3 := Lib.hid (own_newI Y2 W.heap.size _ rfl HSY2.out.size)
          rw [hX] at OBY3
          clear hX
          have SY3 := Lib.hid (St.newB OAY2.out HXY3.out OBY3.out (Nat.le_refl _))
          have ZY3 := Lib.hid (ZY2.out.below HXY3.out)
          refine wpE_br [3] (by kernel_rfl) ?_
          refine AllE.cons rfl rfl (fun K hK => ?_) AllE.nil
          refine wp_app_ints (.tmp 26) (.tmp 28) rfl W.heap.size _ [] rfl (SY3.out.a) _ xs rfl (HPI.out.below HSY3.out) (app40 HL1.out) HSY3.out.size ?_
          intro va' Y4 ho hg hor
          refine hK.out _ _ (below_grown HSY3.out (Nat.le_refl _) (SY3.out.a) hg) ?_
          clear hK K
          (try simp only [Act.put, List.setIfInBounds_toArray, List.set_cons_zero, List.set_cons_succ])
          have HSY4 := Lib.hid (below_grown HSY3.out (Nat.le_refl _) (SY3.out.a) hg)
          have HO : Hid (OwnI Y4 W.heap.size va' xs) := ho
          have HG := Lib.hid hg
          have HOR := Lib.hid hor
          clear ho hg hor
          have SY4 := Lib.hid (SY3.out.appA HO.out HG.out HOR.out)
          have ZY4 := Lib.hid (ztrans ZY3.out (SY3.out.a) HG.out)
          clear HO HG HOR
          refine wpE_br [7] (by kernel_rfl) ?_
          refine AllE.cons rfl rfl (fun K hK => ?_) AllE.nil
          refine wp_app_ints (.tmp 30) (.tmp 32) rfl W.heap.size _ [] rfl (SY4.out.b) _ ys rfl (HPO.out.below HSY4.out) (app40 HL2.out) HSY4.out.size ?_
          intro va' Y5 ho hg hor
          refine hK.out _ _ (below_grown HSY4.out (Nat.le_refl _) (SY4.out.b) hg) ?_
          clear hK K
          (try simp only [Act.put, List.setIfInBounds_toArray, List.set_cons_zero, List.set_cons_succ])
          have HSY5 := Lib.hid (below_grown HSY4.out (Nat.le_refl _) (SY4.out.b) hg)
          have HO : Hid (OwnI Y5 W.heap.size va' ys) := ho
          have HG := Lib.hid hg
          have HOR := Lib.hid hor
          clear ho hg hor
          have SY5 := Lib.hid (SY4.out.appB HO.out HG.out HOR.out)
          have ZY5 := Lib.hid (ztrans ZY4.out (SY4.out.b) HG.out)
          clear HO HG HOR
          refine wpE_br [8] (by kernel_rfl) ?_
          refine AllE.cons rfl rfl (fun K hK => ?_) AllE.nil
          go_simp
          refine (lpair_any _ _ xs ys _ SY5.out.a.rd SY5.out.b.rd HL1.out HL2.out).mono ?_
          rintro e Y6 ⟨⟨vF, rfl, hrc⟩, hb⟩
          obtain ⟨oa, of, he, hca, hcf⟩ := id hrc
          subst he
          obtain ⟨_, _, _, rfl, _, _, _, _⟩ := hca.rd.op
          obtain ⟨_, _, _, rfl, _, _, _, _⟩ := hcf.rd.op
          refine hK.out _ _ (bchain HSY5.out hb) ?_
          clear hK K hca hcf
          (try simp only [Act.put, List.setIfInBounds_toArray, List.set_cons_zero, List.set_cons_succ])
          have HSY6 := Lib.hid (bchain HSY5.out hb)
          have HXY6 := Lib.hid hb
          have OY6 := Lib.hid hrc
          clear hrc hb
          (refine wpE_take 9 (v := ?_) (by kernel_rfl) rfl rfl (by exact HSY6.out) (fun w' hS => ?_) ?_; rotate_left; (focus ((try obtain s0 := HS.out _ (hS rfl)); clear hS; go_simp; try with_reducible rfl; done)); (try simp only [Act.put, List.setIfInBounds_toArray, List.set_cons_zero, List.set_cons_succ]))
          (refine wpE_take 10 (v := ?_) (by kernel_rfl) rfl rfl (by exact HSY6.out) (fun w' hS => ?_) ?_; rotate_left; (focus ((try obtain s0 := HS.out _ (hS rfl)); clear hS; go_simp; try with_reducible rfl; done)); (try simp only [Act.put, List.setIfInBounds_toArray, List.set_cons_zero, List.set_cons_succ]))
          (refine wpE_take 11 (v := ?_) (by kernel_rfl) rfl rfl (by exact HSY6.out) (fun w' hS => ?_) ?_; rotate_left; (focus ((try obtain s0 := HS.out _ (hS rfl)); clear hS; go_simp; try with_reducible rfl; done)); (try simp only [Act.put, List.setIfInBounds_toArray, List.set_cons_zero, List.set_cons_succ]))
          have ZY6 := Lib.hid (ZY5.out.below HXY6.out)
          refine wpE_rest 13 (by kernel_rfl) ?_
          simp only [List.drop_succ_cons, List.drop_zero]
          obtain ⟨r0, r1, r2, f0, f1, f2⟩ := (ZY6).out.facts
          go_wp2_with fail
          refine NoPanic.normal ?_
          go_wp2_with fail
          go_meet
          case rel => exact ⟨_, rfl, rfl, Box.stored (OY6).out (ZY6).out, ((HSY6.out.setCell (by exact hgeY2) _).setCell (by exact hgeY2) _).setCell (by exact hgeY2) _⟩
    · skip
      go_simp
      refine hK.out _ _ (HSD.out.alloc HSD.out.size _) ?_
      clear hK K
      (try simp only [Act.put, List.setIfInBounds_toArray, List.set_cons_zero, List.set_cons_succ])
      generalize hX : World.alloc D _ = Y1
      have HSY1 : Hid (Below W.heap.size W Y1) := by rw [← hX]; exact HSD.out.alloc HSD.out.size _
      have HXY1 : Hid (Below D.heap.size D Y1) := by rw [← hX]; exact (Below.refl _ _).alloc (Nat.le_refl _) _
      have OBY1 := Lib.hid (own_newI D W.heap.size _ rfl HSD.out.size)
      rw [hX] at OBY1
      clear hX
      refine wpE_br [0, 12] (by kernel_rfl) ?_
      refine AllE.cons rfl rfl (fun K hK => ?_) (AllE.cons rfl rfl (fun K hK => ?_) AllE.nil)
      · skip
        go_simp
        refine hK.out _ _ (HSY1.out.alloc HSY1.out.size _) ?_
        clear hK K
        (try simp only [Act.put, List.setIfInBounds_toArray, List.set_cons_zero, List.set_cons_succ])
        generalize hX : World.alloc Y1 _ = Y2
        have HSY2 : Hid (Below W.heap.size W Y2) := by rw [← hX]; exact HSY1.out.alloc HSY1.out.size _
        have HXY2 : Hid (Below Y1.heap.size Y1 Y2) := by rw [← hX]; exact (Below.refl _ _).alloc (Nat.le_refl _) _
        have OAY2 := Lib.hid (own_newI Y1 W.heap.size _ rfl HSY1.out.size)
        rw [hX] at OAY2
        clear hX
        have SY2 := Lib.hid (St.newA OBY1.out HXY2.out OAY2.out (Nat.le_refl _))
        refine wpE_br [3, 12] (by kernel_rfl) ?_
        refine AllE.cons rfl rfl (fun K hK => ?_) (AllE.cons rfl rfl (fun K hK => ?_) AllE.nil)
        · skip
          refine wp_app_ints (.tmp 26) (.tmp 28) rfl W.heap.size _ [] rfl (SY2.out.a) _ xs rfl (HPI.out.below HSY2.out) (app40 HL1.out) HSY2.out.size ?_
          intro va' Y3 ho hg hor
          refine hK.out _ _ (below_grown HSY2.out (Nat.le_refl _) (SY2.out.a) hg) ?_
          clear hK K
          (try simp only [Act.put, List.setIfInBounds_toArray, List.set_cons_zero, List.set_cons_succ])
          have HSY3 := Lib.hid (below_grown HSY2.out (Nat.le_refl _) (SY2.out.a) hg)
          have HO : Hid (OwnI Y3 W.heap.size va' xs) := ho
          have HG := Lib.hid hg
          have HOR := Lib.hid hor
          clear ho hg hor
          have SY3 := Lib.hid (SY2.out.appA HO.out HG.out HOR.out)
          clear HO HG HOR
          refine wpE_br [7, 12] (by kernel_rfl) ?_
          refine AllE.cons rfl rfl (fun K hK => ?_) (AllE.cons rfl rfl (fun K hK => ?_) AllE.nil)
          · skip
            refine wp_app_ints (.tmp 30) (.tmp 32) rfl W.heap.size _ [] rfl (SY3.out.b) _ ys rfl (HPO.out.below HSY3.out) (app40 HL2.out) HSY3.out.size ?_
            intro va' Y4 ho hg hor
            refine hK.out _ _ (below_grown HSY3.out (Nat.le_refl _) (SY3.out.b) hg) ?_
            clear hK K
            (try simp only [Act.put, List.setIfInBounds_toArray, List.set_cons_zero, List.set_cons_succ])
            have HSY4 := Lib.hid (below_grown HSY3.out (Nat.le_refl _) (SY3.out.b) hg)
            have HO : Hid (OwnI Y4 W.heap.size va' ys) := ho
            have HG := Lib.hid hg
            have HOR := Lib.hid hor
            clear ho hg hor
            have SY4 := Lib.hid (SY3.out.appB HO.out HG.out HOR.out)
            clear HO HG HOR
            refine wpE_br [8, 12] (by kernel_rfl) ?_
            refine AllE.cons rfl rfl (fun K hK => ?_) (AllE.cons rfl rfl (fun K hK => ?_) AllE.nil)
            · skip
              go_simp
              refine (lpair_any _ _ xs ys _ SY4.out.a.rd SY4.out.b.rd HL1.out HL2.out).mono ?_
              rintro e Y5 ⟨⟨vF, rfl, hrc⟩, hb⟩
              obtain ⟨oa, of, he, hca, hcf⟩ := id hrc
              subst he
              obtain ⟨_, _, _, rfl, _, _, _, _⟩ := hca.rd.op
              obtain ⟨_, _, _, rfl, _, _, _, _⟩ := hcf.rd.op
              refine hK.out _ _ (bchain HSY4.out hb) ?_
              clear hK K hca hcf
              (try simp only [Act.put, List.setIfInBounds_toArray, List.set_cons_zero, List.set_cons_succ])
              have HSY5 := Lib.hid (bchain HSY4.out hb)
              have HXY5 := Lib.hid hb
              have OY5 := Lib.hid hrc
              clear hrc hb
              (refine wpE_take 9 (v := ?_) (by kernel_rfl) rfl rfl (by exact HSY5.out) (fun w' hS => ?_) ?_; rotate_left; (focus ((try obtain s0 := HS.out _ (hS rfl)); clear hS; go_simp; try with_reducible rfl; done)); (try simp only [Act.put, List.setIfInBounds_toArray, List.set_cons_zero, List.set_cons_succ]))
              (refine wpE_take 10 (v := ?_) (by kernel_rfl) rfl rfl (by exact HSY5.out) (fun w' hS => ?_) ?_; rotate_left; (focus ((try obtain s0 := HS.out _ (hS rfl)); clear hS; go_simp; try with_reducible rfl; done)); (try simp only [Act.put, List.setIfInBounds_toArray, List.set_cons_zero, List.set_cons_succ]))
              (refine wpE_take 11 (v := ?_) (by kernel_rfl) rfl rfl (by exact HSY5.out) (fun w' hS => ?_) ?_; rotate_left; (focus ((try obtain s0 := HS.out _ (hS rfl)); clear hS; go_simp; try with_reducible rfl; done)); (try simp only [Act.put, List.setIfInBounds_toArray, List.set_cons_zero, List.set_cons_succ]))
              refine wpE_br [12] (by kernel_rfl) ?_
              refine AllE.cons rfl rfl (fun K hK => ?_) AllE.nil
              go_simp
              refine hK.out _ _ (HSY5.out.alloc HSY5.out.size _) ?_
              clear hK K
              (try simp only [Act.put, List.setIfInBounds_toArray, List.set_cons_zero, List.set_cons_succ])
              generalize hX : World.alloc Y5 _ = Y6
              have HSY6 : Hid (Below W.heap.size W Y6) := by rw [← hX]; exact HSY5.out.alloc HSY5.out.size _
              have HXY6 : Hid (Below Y5.heap.size Y5 Y6) := by rw [← hX]; exact (Below.refl _ _).alloc (Nat.le_refl _) _
              have ZY6 : Hid (FBlk Y6 Y5.heap.size (.int .i64 0) (.slice none 0 0) (.slice none 0 0)) := by rw [← hX]; exact heap_alloc_new _ _
              clear hX
              have hgeY6 : W.heap.size ≤ Y5.heap.size := HSY5.out.size
              have OY6 := Lib.hid (OY5.out.below HXY6.out)
              refine wpE_rest 13 (by kernel_rfl) ?_
              simp only [List.drop_succ_cons, List.drop_zero]
              obtain ⟨r0, r1, r2, f0, f1, f2⟩ := (ZY6).out.facts
              go_wp2_with fail
              refine NoPanic.normal ?_
              go_wp2_with fail
              go_meet
              case rel => exact ⟨_, rfl, rfl, Box.stored (OY6).out (ZY6).out, ((HSY6.out.setCell (by exact hgeY6) _).setCell (by exact hgeY6) _).setCell (by exact hgeY6) _⟩
            · skip
              go_simp
              refine hK.out _ _ (HSY4.out.alloc HSY4.out.size _) ?_
              clear hK K
              (try simp only [Act.put, List.setIfInBounds_toArray, List.set_cons_zero, List.set_cons_succ])
              generalize hX : World.alloc Y4 _ = Y5
              have HSY5 : Hid (Below W.heap.size W Y5) := by rw [← hX]; exact HSY4.out.alloc HSY4.out.size _
              have HXY5 : Hid (Below Y4.heap.size Y4 Y5) := by rw [← hX]; exact (Below.refl _ _).alloc (Nat.le_refl _) _
              have ZY5 : Hid (FBlk Y5 Y4.heap.size (.int .i64 0) (.slice none 0 0) (.slice none 0 0)) := by rw [← hX]; exact heap_alloc_new _ _
              clear hX
              have hgeY5 : W.heap.size ≤ Y4.heap.size := HSY4.out.size
              have SY5 := Lib.hid (SY4.out.below HXY5.out)
              refine wpE_br [8] (by kernel_rfl) ?_
              refine AllE.cons rfl rfl (fun K hK => ?_) AllE.nil
              go_simp
              refine (lpair_any _ _ xs ys _ SY5.out.a.rd SY5.out.b.rd HL1.out HL2.out).mono ?_
              rintro e Y6 ⟨⟨vF, rfl, hrc⟩, hb⟩
              obtain ⟨oa, of, he, hca, hcf⟩ := id hrc
              subst he
              obtain ⟨_, _, _, rfl, _, _, _, _⟩ := hca.rd.op
              obtain ⟨_, _, _, rfl, _, _, _, _⟩ := hcf.rd.op
              refine hK.out _ _ (bchain HSY5.out hb) ?_
              clear hK K hca hcf
              (try simp only [Act.put, List.setIfInBounds_toArray, List.set_cons_zero, List.set_cons_succ])
              have HSY6 := Lib.hid (bchain HSY5.out hb)
              have HXY6 := Lib.hid hb
              have OY6 := Lib.hid hrc
              clear hrc hb
              (refine wpE_take 9 (v := ?_) (by kernel_rfl) rfl rfl (by exact HSY6.out) (fun w' hS => ?_) ?_; rotate_left; (focus ((try obtain s0 := HS.out _ (hS rfl)); clear hS; go_simp; try with_reducible rfl; done)); (try simp only [Act.put, List.setIfInBounds_toArray, List.set_cons_zero, List.set_cons_succ]))
              (refine wpE_take 10 (v := ?_) (by kernel_rfl) rfl rfl (by exact HSY6.out) (fun w' hS => ?_) ?_; rotate_left; (focus ((try obtain s0 := HS.out _ (hS rfl)); clear hS; go_simp; try with_reducible rfl; done)); (try simp only [Act.put, List.setIfInBounds_toArray, List.set_cons_zero, List.set_cons_succ]))
              (refine wpE_take 11 (v := ?_) (by kernel_rfl) rfl rfl (by exact HSY6.out) (fun w' hS => ?_) ?_; rotate_left; (focus ((try obtain s0 := HS.out _ (hS rfl)); clear hS; go_simp; try with_reducible rfl; done)); (try simp only [Act.put, List.setIfInBounds_toArray, List.set_cons_zero, List.set_cons_succ]))
              have ZY6 := Lib.hid (ZY5.out.below HXY6.out)
              refine wpE_rest 13 (by kernel_rfl) ?_
              simp only [List.drop_succ_cons, List.drop_zero]
              obtain ⟨r0, r1, r2, f0, f1, f2⟩ := (ZY6).out.facts
              go_wp2_with fail
              refine NoPanic.normal ?_
              go_wp2_with fail
              go_meet
              case rel => exact ⟨_, rfl, rfl, Box.stored (OY6).out (ZY6).out, ((HSY6.out.setCell (by exact hgeY5) _).setCell (by exact hgeY5) _).setCell (by exact hgeY5) _⟩
          · skip
            go_simp
            refine hK.out _ _ (HSY3.out.alloc HSY3.out.size _) ?_
            clear hK K
            (try simp only [Act.put, List.setIfInBounds_toArray, List.set_cons_zero, List.set_cons_succ])
            generalize hX : World.alloc Y3 _ = Y4
            have HSY4 : Hid (Below W.heap.size W Y4) := by rw [← hX]; exact HSY3.out.alloc HSY3.out.size _
            have HXY4 : Hid (Below Y3.heap.size Y3 Y4) := by rw [← hX]; exact (Below.refl _ _).alloc (Nat.le_refl _) _
            have ZY4 : Hid (FBlk Y4 Y3.heap.size (.int .i64 0) (.slice none 0 0) (.slice none 0 0)) := by rw [← hX]; exact heap_alloc_new _ _
            clear hX
            have hgeY4 : W.heap.size ≤ Y3.heap.size := HSY3.out.size
            have SY4 := Lib.hid (SY3.out.below HXY4.out)
            refine wpE_br [7] (by kernel_rfl) ?_
            refine AllE.cons rfl rfl (fun K hK => ?_) AllE.nil
            refine wp_app_ints (.tmp 30) (.tmp 32) rfl W.heap.size _ [] rfl (SY4.out.b) _ ys rfl (HPO.out.below HSY4.out) (app40 HL2.out) HSY4.out.size ?_
            intro va' Y5 ho hg hor
            refine hK.out _ _ (below_grown HSY4.out (Nat.le_refl _) (SY4.out.b) hg) ?_
            clear hK K
            (try simp only [Act.put, List.setIfInBounds_toArray, List.set_cons_zero, List.set_cons_succ])
            have HSY5 := Lib.hid (below_grown HSY4.out (Nat.le_refl _) (SY4.out.b) hg)
            have HO : Hid (OwnI Y5 W.heap.size va' ys) := ho
            have HG := Lib.hid hg
            have HOR := Lib.hid hor
            clear ho hg hor
            have SY5 := Lib.hid (SY4.out.appB HO.out HG.out HOR.out)
            have ZY5 := Lib.hid (ztrans ZY4.out (SY4.out.b) HG.out)
            clear HO HG HOR
            refine wpE_br [8] (by kernel_rfl) ?_
            refine AllE.cons rfl rfl (fun K hK => ?_) AllE.nil
            go_simp
            refine (lpair_any _ _ xs ys _ SY5.out.a.rd SY5.out.b.rd HL1.out HL2.out).mono ?_
            rintro e Y6 ⟨⟨vF, rfl, hrc⟩, hb⟩
            obtain ⟨oa, of, he, hca, hcf⟩ := id hrc
            subst he
            obtain ⟨_, _, _, rfl, _, _, _, _⟩ := hca.rd.op
            obtain ⟨_, _, _, rfl, _, _, _, _⟩ := hcf.rd.op
            refine hK.out _ _ (bchain HSY5.out hb) ?_
            clear hK K hca hcf
            (try simp only [Act.put, List.setIfInBounds_toArray, List.set_cons_zero, List.set_cons_succ])
            have HSY6 := Lib.hid (bchain HSY5.out hb)
            have HXY6 := Lib.hid hb
            have OY6 := Lib.hid hrc
            clear hrc hb
            (refine wpE_take 9 (v := ?_) (by kernel_rfl) rfl rfl (by exact HSY6.out) (fun w' hS => ?_) ?_; rotate_left; (focus ((try obtain s0 := HS.out _ (hS rfl)); clear hS; go_simp; try with_reducible rfl; done)); (try simp only [Act.put, List.setIfInBounds_toArray, List.set_cons_zero, List.set_cons_succ]))
            (refine wpE_take 10 (v := ?_) (by kernel_rfl) rfl rfl (by exact HSY6.out) (fun w' hS => ?_) ?_; rotate_left; (focus ((try obtain s0 := HS.out _ (hS rfl)); clear hS; go_simp; try with_reducible rfl; done)); (try simp only [Act.put, List.setIfInBounds_toArray, List.set_cons_zero, List.set_cons_succ]))
            (refine wpE_take 11 (v := ?_) (by kernel_rfl) rfl rfl (by exact HSY6.out) (fun w' hS => ?_) ?_; rotate_left; (focus ((try obtain s0 := HS.out _ (hS rfl)); clear hS; go_simp; try with_reducible rfl; done)); (try simp only [Act.put, List.setIfInBounds_toArray, List.set_cons_zero, List.set_cons_succ]))
            have ZY6 := Lib.hid (ZY5.out.below HXY6.out)
            refine wpE_rest 13 (by kernel_rfl) ?_
            simp only [List.drop_succ_cons, List.drop_zero]
            obtain ⟨r0, r1, r2, f0, f1, f2⟩ := (ZY6).out.facts
            go_wp2_with fail
            refine NoPanic.normal ?_
            go_wp2_with fail
            go_meet
            case rel => exact ⟨_, rfl, rfl, Box.stored (OY6).out (ZY6).out, ((HSY6.out.setCell (by exact hgeY4) _).setCell (by exact hgeY4) _).setCell (by exact hgeY4) _⟩
        · skip
          go_simp
          refine hK.out _ _ (HSY2.out.alloc HSY2.out.size _) ?_
          clear hK K
          (try simp only [Act.put, List.setIfInBounds_toArray, List.set_cons_zero, List.set_cons_succ])
          generalize hX : World.alloc Y2 _ = Y3
          have HSY3 : Hid (Below W.heap.size W Y3) := by rw [← hX]; exact HSY2.out.alloc HSY2.out.size _
          have HXY3 : Hid (Below Y2.heap.size Y2 Y3) := by rw [← hX]; exact (Below.refl _ _).alloc (Nat.le_refl _) _
          have ZY3 : Hid (FBlk Y3 Y2.heap.size (.int .i64 0) (.slice none 0 0) (.slice none 0 0)) := by rw [← hX]; exact heap_alloc_new _ _
          clear hX
          have hgeY3 : W.heap.size ≤ Y2.heap.size := HSY2.out.size
          have SY3 := Lib.hid (SY2.out.below HXY3.out)
          refine wpE_br [3] (by kernel_rfl) ?_
          refine AllE.cons rfl rfl (fun K hK => ?_) AllE.nil
          refine wp_app_ints (.tmp 26) (.tmp 28) rfl W.heap.size _ [] rfl (SY3.out.a) _ xs rfl (HPI.out.below HSY3.out) (app40 HL1.out) HSY3.out.size ?_
          intro va' Y4 ho hg hor
          refine hK.out _ _ (below_grown HSY3.out (Nat.le_refl _) (SY3.out.a) hg) ?_
          clear hK K
          (try simp only [Act.put, List.setIfInBounds_toArray, List.set_cons_zero, List.set_cons_succ])
          have HSY4 := Lib.hid (below_grown HSY3.out (Nat.le_refl _) (SY3.out.a) hg)
          have HO : Hid (OwnI Y4 W.heap.size va' xs) := ho
          have HG := Lib.hid hg
          have HOR := Lib.hid hor
          clear ho hg hor
          have SY4 := Lib.hid (SY3.out.appA HO.out HG.out HOR.out)
          have ZY4 := Lib.hid (ztrans ZY3.out (SY3.out.a) HG.out)
          clear HO HG HOR
          refine wpE_br [7] (by kernel_rfl) ?_
          refine AllE.cons rfl rfl (fun K hK => ?_) AllE.nil
          refine wp_app_ints (.tmp 30) (.tmp 32) rfl W.heap.size _ [] rfl (SY4.out.b) _ ys rfl (HPO.out.below HSY4.out) (app40 HL2.out) HSY4.out.size ?_
          intro va' Y5 ho hg hor
          refine hK.out _ _ (below_grown HSY4.out (Nat.le_refl _) (SY4.out.b) hg) ?_
          clear hK K
          (try simp only [Act.put, List.setIfInBounds_toArray, List.set_cons_zero, List.set_cons_succ])
          have HSY5 := Lib.hid (below_grown HSY4.out (Nat.le_refl _) (SY4.out.b) hg)
          have HO : Hid (OwnI Y5 W.heap.size va' ys) := ho
          have HG := Lib.hid hg
          have HOR := Lib.hid hor
          clear ho hg hor
          have SY5 := Lib.hid (SY4.out.appB HO.out HG.out HOR.out)
          have ZY5 := Lib.hid (ztrans ZY4.out (SY4.out.b) HG.out)
          clear HO HG HOR
          refine wpE_br [8] (by kernel_rfl) ?_
          refine AllE.cons rfl rfl (fun K hK => ?_) AllE.nil
          go_simp
          refine (lpair_any _ _ xs ys _ SY5.out.a.rd SY5.out.b.rd HL1.out HL2.out).mono ?_
          rintro e Y6 ⟨⟨vF, rfl, hrc⟩, hb⟩
          obtain ⟨oa, of, he, hca, hcf⟩ := id hrc
          subst he
          obtain ⟨_, _, _, rfl, _, _, _, _⟩ := hca.rd.op
          obtain ⟨_, _, _, rfl, _, _, _, _⟩ := hcf.rd.op
          refine hK.out _ _ (bchain HSY5.out hb) ?_
          clear hK K hca hcf
          (try simp only [Act.put, List.setIfInBounds_toArray, List.set_cons_zero, List.set_cons_succ])
          have HSY6 := Lib.hid (bchain HSY5.out hb)
          have HXY6 := Lib.hid hb
          have OY6 := Lib.hid hrc
          clear hrc hb
          (refine wpE_take 9 (v := ?_) (by kernel_rfl) rfl rfl (by exact HSY6.out) (fun w' hS => ?_) ?_; rotate_left; (focus ((try obtain s0 := HS.out _ (hS rfl)); clear hS; go_simp; try with_reducible rfl; done)); (try simp only [Act.put, List.setIfInBounds_toArray, List.set_cons_zero, List.set_cons_succ]))
          (refine wpE_take 10 (v := ?_) (by kernel_rfl) rfl rfl (by exact HSY6.out) (fun w' hS => ?_) ?_; rotate_left; (focus ((try obtain s0 := HS.out _ (hS rfl)); clear hS; go_simp; try with_reducible rfl; done)); (try simp only [Act.put, List.setIfInBounds_toArray, List.set_cons_zero, List.set_cons_succ]))
          (refine wpE_take 11 (v := ?_) (by kernel_rfl) rfl rfl (by exact HSY6.out) (fun w' hS => ?_) ?_; rotate_left; (focus ((try obtain s0 := HS.out _ (hS rfl)); clear hS; go_simp; try with_reducible rfl; done)); (try simp only [Act.put, List.setIfInBounds_toArray, List.set_cons_zero, List.set_cons_succ]))
          have ZY6 := Lib.hid (ZY5.out.below HXY6.out)
          refine wpE_rest 13 (by kernel_rfl) ?_
          simp only [List.drop_succ_cons, List.drop_zero]
          obtain ⟨r0, r1, r2, f0, f1, f2⟩ := (ZY6).out.facts
          go_wp2_with fail
          refine NoPanic.normal ?_
          go_wp2_with fail
          go_meet
          case rel => exact ⟨_, rfl, rfl, Box.stored (OY6).out (ZY6).out, ((HSY6.out.setCell (by exact hgeY3) _).setCell (by exact hgeY3) _).setCell (by exact hgeY3) _⟩
      · skip
        go_simp
        refine hK.out _ _ (HSY1.out.alloc HSY1.out.size _) ?_
        clear hK K
        (try simp only [Act.put, List.setIfInBounds_toArray, List.set_cons_zero, List.set_cons_succ])
        generalize hX : World.alloc Y1 _ = Y2
        have HSY2 : Hid (Below W.heap.size W Y2) := by rw [← hX]; exact HSY1.out.alloc HSY1.out.size _
        have HXY2 : Hid (Below Y1.heap.size Y1 Y2) := by rw [← hX]; exact (Below.refl _ _).alloc (Nat.le_refl _) _
        have ZY2 : Hid (FBlk Y2 Y1.heap.size (.int .i64 0) (.slice none 0 0) (.slice none 0 0)) := by rw [← hX]; exact heap_alloc_new _ _
        clear hX
        have hgeY2 : W.heap.size ≤ Y1.heap.size := HSY1.out.size
        have OBY2 := Lib.hid (own_below OBY1.out HXY2.out)
        refine wpE_br [0] (by kernel_rfl) ?_
        refine AllE.cons rfl rfl (fun K hK => ?_) AllE.nil
        go_simp
        refine hK.out _ _ (HSY2.out.alloc HSY2.out.size _) ?_
        clear hK K
        (try simp only [Act.put, List.setIfInBounds_toArray, List.set_cons_zero, List.set_cons_succ])
        generalize hX : World.alloc Y2 _ = Y3
        have HSY3 : Hid (Below W.heap.size W Y3) := by rw [← hX]; exact HSY2.out.alloc HSY2.out.size _
        have HXY3 : Hid (Below Y2.heap.size Y2 Y3) := by rw [← hX]; exact (Below.refl _ _).alloc (Nat.le_refl _) _
        have OAY3 := Lib.hid (own_newI Y2 W.heap.size _ rfl HSY2.out.size)
        rw [hX] at OAY3
        clear hX
        have SY3 := Lib.hid (St.newA OBY2.out HXY3.out OAY3.out (Nat.le_refl _))
        have ZY3 := Lib.hid (ZY2.out.below HXY3.out)
        refine wpE_br [3] (by kernel_rfl) ?_
        refine AllE.cons rfl rfl (fun K hK => ?_) AllE.nil
        refine wp_app_ints (.tmp 26) (.tmp 28) rfl W.heap.size _ [] rfl (SY3.out.a) _ xs rfl (HPI.out.below HSY3.out) (app40 HL1.out) HSY3.out.size ?_
        intro va' Y4 ho hg hor
        refine hK.out _ _ (below_grown HSY3.out (Nat.le_refl _) (SY3.out.a) hg) ?_
        clear hK K
        (try simp only [Act.put, List.setIfInBounds_toArray, List.set_cons_zero, List.set_cons_succ])
        have HSY4 := Lib.hid (below_grown HSY3.out (Nat.le_refl _) (SY3.out.a) hg)
        have HO : Hid (OwnI Y4 W.heap.size va' xs) := ho
        have HG := Lib.hid hg
        have HOR := Lib.hid hor
        clear ho hg hor
        have SY4 := Lib.hid (SY3.out.appA HO.out HG.out HOR.out)
        have ZY4 := Lib.hid (ztrans ZY3.out (SY3.out.a) HG.out)
        clear HO HG HOR
        refine wpE_br [7] (by kernel_rfl) ?_
        refine AllE.cons rfl rfl (fun K hK => ?_) AllE.nil
        refine wp_app_ints (.tmp 30) (.tmp 32) rfl W.heap.size _ [] rfl (SY4.out.b) _ ys rfl (HPO.out.below HSY4.out) (app40 HL2.out) HSY4.out.size ?_
        intro va' Y5 ho hg hor
        refine hK.out _ _ (below_grown HSY4.out (Nat.le_refl _) (SY4.out.b) hg) ?_
        clear hK K
        (try simp only [Act.put, List.setIfInBounds_toArray, List.set_cons_zero, List.set_cons_succ])
        have HSY5 := Lib.hid (below_grown HSY4.out (Nat.le_refl _) (SY4.out.b) hg)
        have HO : Hid (OwnI Y5 W.heap.size va' ys) := ho
        have HG := Lib.hid hg
        have HOR := Lib.hid hor
        clear ho hg hor
        have SY5 := Lib.hid (SY4.out.appB HO.out HG.out HOR.out)
        have ZY5 := Lib.hid (ztrans ZY4.out (SY4.out.b) HG.out)
        clear HO HG HOR
        refine wpE_br [8] (by kernel_rfl) ?_
        refine AllE.cons rfl rfl (fun K hK => ?_) AllE.nil
        go_simp
        refine (lpair_any _ _ xs ys _ SY5.out.a.rd SY5.out.b.rd HL1.out HL2.out).mono ?_
        rintro e Y6 ⟨⟨vF, rfl, hrc⟩, hb⟩
        obtain ⟨oa, of, he, hca, hcf⟩ := id hrc
        subst he
        obtain ⟨_, _, _, rfl, _, _, _, _⟩ := hca.rd.op
        obtain ⟨_, _, _, rfl, _, _, _, _⟩ := hcf.rd.op
        refine hK.out _ _ (bchain HSY5.out hb) ?_
        clear hK K hca hcf
        (try simp only [Act.put, List.setIfInBounds_toArray, List.set_cons_zero, List.set_cons_succ])
        have HSY6 := Lib.hid (bchain HSY5.out hb)
        have HXY6 := Lib.hid hb
        have OY6 := Lib.hid hrc
        clear hrc hb
        (refine wpE_take 9 (v := ?_) (by kernel_rfl) rfl rfl (by exact HSY6.out) (fun w' hS => ?_) ?_; rotate_left; (focus ((try obtain s0 := HS.out _ (hS rfl)); clear hS; go_simp; try with_reducible rfl; done)); (try simp only [Act.put, List.setIfInBounds_toArray, List.set_cons_zero, List.set_cons_succ]))
        (refine wpE_take 10 (v := ?_) (by kernel_rfl) rfl rfl (by exact HSY6.out) (fun w' hS => ?_) ?_; rotate_left; (focus ((try obtain s0 := HS.out _ (hS rfl)); clear hS; go_simp; try with_reducible rfl; done)); (try simp only [Act.put, List.setIfInBounds_toArray, List.set_cons_zero, List.set_cons_succ]))
        (refine wpE_take 11 (v := ?_) (by kernel_rfl) rfl rfl (by exact HSY6.out) (fun w' hS => ?_) ?_; rotate_left; (focus ((try obtain s0 := HS.out _ (hS rfl)); clear hS; go_simp; try with_reducible rfl; done)); (try simp only [Act.put, List.setIfInBounds_toArray, List.set_cons_zero, List.set_cons_succ]))
        have ZY6 := Lib.hid (ZY5.out.below HXY6.out)
        refine wpE_rest 13 (by kernel_rfl) ?_
        simp only [List.drop_succ_cons, List.drop_zero]
        obtain ⟨r0, r1, r2, f0, f1, f2⟩ := (ZY6).out.facts
        go_wp2_with fail
        refine NoPanic.normal ?_
        go_wp2_with fail
        go_meet
        case rel => exact ⟨_, rfl, rfl, Box.stored (OY6).out (ZY6).out, ((HSY6.out.setCell (by exact hgeY2) _).setCell (by exact hgeY2) _).setCell (by exact hgeY2) _⟩
    · skip
      go_simp
      refine hK.out _ _ (HSD.out.alloc HSD.out.size _) ?_
      clear hK K
      (try simp only [Act.put, List.setIfInBounds_toArray, List.set_cons_zero, List.set_cons_succ])
      generalize hX : World.alloc D _ = Y1
      have HSY1 : Hid (Below W.heap.size W Y1) := by rw [← hX]; exact HSD.out.alloc HSD.out.size _
      have HXY1 : Hid (Below D.heap.size D Y1) := by rw [← hX]; exact (Below.refl _ _).alloc (Nat.le_refl _) _
      have ZY1 : Hid (FBlk Y1 D.heap.size (.int .i64 0) (.slice none 0 0) (.slice none 0 0)) := by rw [← hX]; exact heap_alloc_new _ _
      clear hX
      have hgeY1 : W.heap.size ≤ D.heap.size := HSD.out.size
      refine wpE_br [0, 4] (by kernel_rfl) ?_
      refine AllE.cons rfl rfl (fun K hK => ?_) (AllE.cons rfl rfl (fun K hK => ?_) AllE.nil)
      · skip
        go_simp
        refine hK.out _ _ (HSY1.out.alloc HSY1.out.size _) ?_
        clear hK K
        (try simp only [Act.put, List.setIfInBounds_toArray, List.set_cons_zero, List.set_cons_succ])
        generalize hX : World.alloc Y1 _ = Y2
        have HSY2 : Hid (Below W.heap.size W Y2) := by rw [← hX]; exact HSY1.out.alloc HSY1.out.size _
        have HXY2 : Hid (Below Y1.heap.size Y1 Y2) := by rw [← hX]; exact (Below.refl _ _).alloc (Nat.le_refl _) _
        have OAY2 := Lib.hid (own_newI Y1 W.heap.size _ rfl HSY1.out.size)
        rw [hX] at OAY2
        clear hX
        have ZY2 := Lib.hid (ZY1.out.below HXY2.out)
        refine wpE_br [3, 4] (by kernel_rfl) ?_
        refine AllE.cons rfl rfl (fun K hK => ?_) (AllE.cons rfl rfl (fun K hK => ?_) AllE.nil)
        · skip
          refine wp_app_ints (.tmp 26) (.tmp 28) rfl W.heap.size _ [] rfl (OAY2.out) _ xs rfl (HPI.out.below HSY2.out) (app40 HL1.out) HSY2.out.size ?_
          intro va' Y3 ho hg hor
          refine hK.out _ _ (below_grown HSY2.out (Nat.le_refl _) (OAY2.out) hg) ?_
          clear hK K
          (try simp only [Act.put, List.setIfInBounds_toArray, List.set_cons_zero, List.set_cons_succ])
          have HSY3 := Lib.hid (below_grown HSY2.out (Nat.le_refl _) (OAY2.out) hg)
          have HO : Hid (OwnI Y3 W.heap.size va' xs) := ho
          have HG := Lib.hid hg
          have HOR := Lib.hid hor
          clear ho hg hor
          have OAY3 := Lib.hid HO.out
          have ZY3 := Lib.hid (ztrans ZY2.out (OAY2.out) HG.out)
          clear HO HG HOR
          refine wpE_br [4] (by kernel_rfl) ?_
          refine AllE.cons rfl rfl (fun K hK => ?_) AllE.nil
          go_simp
          refine hK.out _ _ (HSY3.out.alloc HSY3.out.size _) ?_
          clear hK K
          (try simp only [Act.put, List.setIfInBounds_toArray, List.set_cons_zero, List.set_cons_succ])
          generalize hX : World.alloc Y3 _ = Y4
          have HSY4 : Hid (Below W.heap.size W Y4) := by rw [← hX]; exact HSY3.out.alloc HSY3.out.size _
          have HXY4 : Hid (Below Y3.heap.size Y3 Y4) := by rw [← hX]; exact (Below.refl _ _).alloc (Nat.le_refl _) _
          have OBY4 := Lib.hid (own_newI Y3 W.heap.size _ rfl HSY3.out.size)
          rw [hX] at OBY4
          clear hX
          have SY4 := Lib.hid (St.newB OAY3.out HXY4.out OBY4.out (Nat.le_refl _))
          have ZY4 := Lib.hid (ZY3.out.below HXY4.out)
          refine wpE_br [7] (by kernel_rfl) ?_
          refine AllE.cons rfl rfl (fun K hK => ?_) AllE.nil
          refine wp_app_ints (.tmp 30) (.tmp 32) rfl W.heap.size _ [] rfl (SY4.out.b) _ ys rfl (HPO.out.below HSY4.out) (app40 HL2.out) HSY4.out.size ?_
          intro va' Y5 ho hg hor
          refine hK.out _ _ (below_grown HSY4.out (Nat.le_refl _) (SY4.out.b) hg) ?_
          clear hK K
          (try simp only [Act.put, List.setIfInBounds_toArray, List.set_cons_zero, List.set_cons_succ])
          have HSY5 := Lib.hid (below_grown HSY4.out (Nat.le_refl _) (SY4.out.b) hg)
          have HO : Hid (OwnI Y5 W.heap.size va' ys) := ho
          have HG := Lib.hid hg
          have HOR := Lib.hid hor
          clear ho hg hor
          have SY5 := Lib.hid (SY4.out.appB HO.out HG.out HOR.out)
          have ZY5 := Lib.hid (ztrans ZY4.out (SY4.out.b) HG.out)
          clear HO HG HOR
          refine wpE_br [8] (by kernel_rfl) ?_
          refine AllE.cons rfl rfl (fun K hK => ?_) AllE.nil
          go_simp
          refine (lpair_any _ _ xs ys _ SY5.out.a.rd SY5.out.b.rd HL1.out HL2.out).mono ?_
          rintro e Y6 ⟨⟨vF, rfl, hrc⟩, hb⟩
          obtain ⟨oa, of, he, hca, hcf⟩ := id hrc
          subst he
          obtain ⟨_, _, _, rfl, _, _, _, _⟩ := hca.rd.op
          obtain ⟨_, _, _, rfl, _, _, _, _⟩ := hcf.rd.op
          refine hK.out _ _ (bchain HSY5.out hb) ?_
          clear hK K hca hcf
          (try simp only [Act.put, List.setIfInBounds_toArray, List.set_cons_zero, List.set_cons_succ])
          have HSY6 := Lib.hid (bchain HSY5.out hb)
          have HXY6 := Lib.hid hb
          have OY6 := Lib.hid hrc
          clear hrc hb
          (refine wpE_take 9 (v := ?_) (by kernel_rfl) rfl rfl (by exact HSY6.out) (fun w' hS => ?_) ?_; rotate_left; (focus ((try obtain s0 := HS.out _ (hS rfl)); clear hS; go_simp; try with_reducible rfl; done)); (try simp only [Act.put, List.setIfInBounds_toArray, List.set_cons_zero, List.set_cons_succ]))
          (refine wpE_take 10 (v := ?_) (by kernel_rfl) rfl rfl (by exact HSY6.out) (fun w' hS => ?_) ?_; rotate_left; (focus ((try obtain s0 := HS.out _ (hS rfl)); clear hS; go_simp; try with_reducible rfl; done)); (try simp only [Act.put, List.setIfInBounds_toArray, List.set_cons_zero, List.set_cons_succ]))
          (refine wpE_take 11 (v := ?_) (by kernel_rfl) rfl rfl (by exact HSY6.out) (fun w' hS => ?_) ?_; rotate_left; (focus ((try obtain s0 := HS.out _ (hS rfl)); clear hS; go_simp; try with_reducible rfl; done)); (try simp only [Act.put, List.setIfInBounds_toArray, List.set_cons_zero, List.set_cons_succ]))
          have ZY6 := Lib.hid (ZY5.out.below HXY6.out)
          refine wpE_rest 13 (by kernel_rfl) ?_
          simp only [List.drop_succ_cons, List.drop_zero]
          obtain ⟨r0, r1, r2, f0, f1, f2⟩ := (ZY6).out.facts
          go_wp2_with fail
          refine NoPanic.normal ?_
          go_wp2_with fail
          go_meet
          case rel => exact ⟨_, rfl, rfl, Box.stored (OY6).out (ZY6).out, ((HSY6.out.setCell (by exact hgeY1) _).setCell (by exact hgeY1) _).setCell (by exact hgeY1) _⟩
        · skip
          go_simp
          refine hK.out _ _ (HSY2.out.alloc HSY2.out.size _) ?_
          clear hK K
          (try simp only [Act.put, List.setIfInBounds_toArray, List.set_cons_zero, List.set_cons_succ])
          generalize hX : World.alloc Y2 _ = Y3
          have HSY3 : Hid (Below W.heap.size W Y3) := by rw [← hX]; exact HSY2.out.alloc HSY2.out.size _
          have HXY3 : Hid (Below Y2.heap.size Y2 Y3) := by rw [← hX]; exact (Below.refl _ _).alloc (Nat.le_refl _) _
          have OBY3 := Lib.hid (own_newI Y2 W.heap.size _ rfl HSY2.out.size)
          rw [hX] at OBY3
          clear hX
          have SY3 := Lib.hid (St.newB OAY2.out HXY3.out OBY3.out (Nat.le_refl _))
          have ZY3 := Lib.hid (ZY2.out.below HXY3.out)
          refine wpE_br [3] (by kernel_rfl) ?_
          refine AllE.cons rfl rfl (fun K hK => ?_) AllE.nil
          refine wp_app_ints (.tmp 26) (.tmp 28) rfl W.heap.size _ [] rfl (SY3.out.a) _ xs rfl (HPI.out.below HSY3.out) (app40 HL1.out) HSY3.out.size ?_
          intro va' Y4 ho hg hor
          refine hK.out _ _ (below_grown HSY3.out (Nat.le_refl _) (SY3.out.a) hg) ?_
          clear hK K
          (try simp only [Act.put, List.setIfInBounds_toArray, List.set_cons_zero, List.set_cons_succ])
          have HSY4 := Lib.hid (below_grown HSY3.out (Nat.le_refl _) (SY3.out.a) hg)
          have HO : Hid (OwnI Y4 W.heap.size va' xs) := ho
          have HG := Lib.hid hg
          have HOR := Lib.hid hor
          clear ho hg hor
          have SY4 := Lib.hid (SY3.out.appA HO.out HG.out HOR.out)
          have ZY4 := Lib.hid (ztrans ZY3.out (SY3.out.a) HG.out)
          clear HO HG HOR
          refine wpE_br [7] (by kernel_rfl) ?_
          refine AllE.cons rfl rfl (fun K hK => ?_) AllE.nil
          refine wp_app_ints (.tmp 30) (.tmp 32) rfl W.heap.size _ [] rfl (SY4.out.b) _ ys rfl (HPO.out.below HSY4.out) (app40 HL2.out) HSY4.out.size ?_
          intro va' Y5 ho hg hor
          refine hK.out _ _ (below_grown HSY4.out (Nat.le_refl _) (SY4.out.b) hg) ?_
          clear hK K
          (try simp only [Act.put, List.setIfInBounds_toArray, List.set_cons_zero, List.set_cons_succ])
          have HSY5 := Lib.hid (below_grown HSY4.out (Nat.le_refl _) (SY4.out.b) hg)
          have HO : Hid (OwnI Y5 W.heap.size va' ys) := ho
          have HG := Lib.hid hg
          have HOR := Lib.hid hor
          clear ho hg hor
          have SY5 := Lib.hid (SY4.out.appB HO.out HG.out HOR.out)
          have ZY5 := Lib.hid (ztrans ZY4.out (SY4.out.b) HG.out)
          clear HO HG HOR
          refine wpE_br [8] (by kernel_rfl) ?_
          refine AllE.cons rfl rfl (fun K hK => ?_) AllE.nil
          go_simp
          refine (lpair_any _ _ xs ys _ SY5.out.a.rd SY5.out.b.rd HL1.out HL2.out).mono ?_
          rintro e Y6 ⟨⟨vF, rfl, hrc⟩, hb⟩
          obtain ⟨oa, of, he, hca, hcf⟩ := id hrc
          subst he
          obtain ⟨_, _, _, rfl, _, _, _, _⟩ := hca.rd.op
          obtain ⟨_, _, _, rfl, _, _, _, _⟩ := hcf.rd.op
          refine hK.out _ _ (bchain HSY5.out hb) ?_
          clear hK K hca hcf
          (try simp only [Act.put, List.setIfInBounds_toArray, List.set_cons_zero, List.set_cons_succ])
          have HSY6 := Lib.hid (bchain HSY5.out hb)
          have HXY6 := Lib.hid hb
          have OY6 := Lib.hid hrc
          clear hrc hb
          (refine wpE_take 9 (v := ?_) (by kernel_rfl) rfl rfl (by exact HSY6.out) (fun w' hS => ?_) ?_; rotate_left; (focus ((try obtain s0 := HS.out _ (hS rfl)); clear hS; go_simp; try with_reducible rfl; done)); (try simp only [Act.put, List.setIfInBounds_toArray, List.set_cons_zero, List.set_cons_succ]))
          (refine wpE_take 10 (v := ?_) (by kernel_rfl) rfl rfl (by exact HSY6.out) (fun w' hS => ?_) ?_; rotate_left; (focus ((try obtain s0 := HS.out _ (hS rfl)); clear hS; go_simp; try with_reducible rfl; done)); (try simp only [Act.put, List.setIfInBounds_toArray, List.set_cons_zero, List.set_cons_succ]))
          (refine wpE_take 11 (v := ?_) (by kernel_rfl) rfl rfl (by exact HSY6.out) (fun w' hS => ?_) ?_; rotate_left; (focus ((try obtain s0 := HS.out _ (hS rfl)); clear hS; go_simp; try with_reducible rfl; done)); (try simp only [Act.put, List.setIfInBounds_toArray, List.set_cons_zero, List.set_cons_succ]))
          have ZY6 := Lib.hid (ZY5.out.below HXY6.out)
          refine wpE_rest 13 (by kernel_rfl) ?_
          simp only [List.drop_succ_cons, List.drop_zero]
          obtain ⟨r0, r1, r2, f0, f1, f2⟩ := (ZY6).out.facts
          go_wp2_with fail
          refine NoPanic.normal ?_
          go_wp2_with fail
          go_meet
          case rel => exact ⟨_, rfl, rfl, Box.stored (OY6).out (ZY6).out, ((HSY6.out.setCell (by exact hgeY1) _).setCell (by exact hgeY1) _).setCell (by exact hgeY1) _⟩
      · skip
        go_simp
        refine hK.out _ _ (HSY1.out.alloc HSY1.out.size _) ?_
        clear hK K
        (try simp only [Act.put, List.setIfInBounds_toArray, List.set_cons_zero, List.set_cons_succ])
        generalize hX : World.alloc Y1 _ = Y2
        have HSY2 : Hid (Below W.heap.size W Y2) := by rw [← hX]; exact HSY1.out.alloc HSY1.out.size _
        have HXY2 : Hid (Below Y1.heap.size Y1 Y2) := by rw [← hX]; exact (Below.refl _ _).alloc (Nat.le_refl _) _
        have OBY2 := Lib.hid (own_newI Y1 W.heap.size _ rfl HSY1.out.size)
        rw [hX] at OBY2
        clear hX
        have ZY2 := Lib.hid (ZY1.out.below HXY2.out)
        refine wpE_br [0] (by kernel_rfl) ?_
        refine AllE.cons rfl rfl (fun K hK => ?_) AllE.nil
        go_simp
        refine hK.out _ _ (HSY2.out.alloc HSY2.out.size _) ?_
        clear hK K
        (try simp only [Act.put, List.setIfInBounds_toArray, List.set_cons_zero, List.set_cons_succ])
        generalize hX : World.alloc Y2 _ = Y3
        have HSY3 : Hid (Below W.heap.size W Y3) := by rw [← hX]; exact HSY2.out.alloc HSY2.out.size _
        have HXY3 : Hid (Below Y2.heap.size Y2 Y3) := by rw [← hX]; exact (Below.refl _ _).alloc (Nat.le_refl _) _
        have OAY3 := Lib.hid (own_newI Y2 W.heap.size _ rfl HSY2.out.size)
        rw [hX] at OAY3
        clear hX
        have SY3 := Lib.hid (St.newA OBY2.out HXY3.out OAY3.out (Nat.le_refl _))
        have ZY3 := Lib.hid (ZY2.out.below HXY3.out)
        refine wpE_br [3] (by kernel_rfl) ?_
        refine AllE.cons rfl rfl (fun K hK => ?_) AllE.nil
        refine wp_app_ints (.tmp 26) (.tmp 28) rfl W.heap.size _ [] rfl (SY3.out.a) _ xs rfl (HPI.out.below HSY3.out) (app40 HL1.out) HSY3.out.size ?_
        intro va' Y4 ho hg hor
        refine hK.out _ _ (below_grown HSY3.out (Nat.le_refl _) (SY3.out.a) hg) ?_
        clear hK K
        (try simp only [Act.put, List.setIfInBounds_toArray, List.set_cons_zero, List.set_cons_succ])
        have HSY4 := Lib.hid (below_grown HSY3.out (Nat.le_refl _) (SY3.out.a) hg)
        have HO : Hid (OwnI Y4 W.heap.size va' xs) := ho
        have HG := Lib.hid hg
        have HOR := Lib.hid hor
        clear ho hg hor
        have SY4 := Lib.hid (SY3.out.appA HO.out HG.out HOR.out)
        have ZY4 := Lib.hid (ztrans ZY3.out (SY3.out.a) HG.out)
        clear HO HG HOR
        refine wpE_br [7] (by kernel_rfl) ?_
        refine AllE.cons rfl rfl (fun K hK => ?_) AllE.nil
        refine wp_app_ints (.tmp 30) (.tmp 32) rfl W.heap.size _ [] rfl (SY4.out.b) _ ys rfl (HPO.out.below HSY4.out) (app40 HL2.out) HSY4.out.size ?_
        intro va' Y5 ho hg hor
        refine hK.out _ _ (below_grown HSY4.out (Nat.le_refl _) (SY4.out.b) hg) ?_
        clear hK K
        (try simp only [Act.put, List.setIfInBounds_toArray, List.set_cons_zero, List.set_cons_succ])
        have HSY5 := Lib.hid (below_grown HSY4.out (Nat.le_refl _) (SY4.out.b) hg)
        have HO : Hid (OwnI Y5 W.heap.size va' ys) := ho
        have HG := Lib.hid hg
        have HOR := Lib.hid hor
        clear ho hg hor
        have SY5 := Lib.hid (SY4.out.appB HO.out HG.out HOR.out)
        have ZY5 := Lib.hid (ztrans ZY4.out (SY4.out.b) HG.out)
        clear HO HG HOR
        refine wpE_br [8] (by kernel_rfl) ?_
        refine AllE.cons rfl rfl (fun K hK => ?_) AllE.nil
        go_simp
        refine (lpair_any _ _ xs ys _ SY5.out.a.rd SY5.out.b.rd HL1.out HL2.out).mono ?_
        rintro e Y6 ⟨⟨vF, rfl, hrc⟩, hb⟩
        obtain ⟨oa, of, he, hca, hcf⟩ := id hrc
        subst he
        obtain ⟨_, _, _, rfl, _, _, _, _⟩ := hca.rd.op
        obtain ⟨_, _, _, rfl, _, _, _, _⟩ := hcf.rd.op
        refine hK.out _ _ (bchain HSY5.out hb) ?_
        clear hK K hca hcf
        (try simp only [Act.put, List.setIfInBounds_toArray, List.set_cons_zero, List.set_cons_succ])
        have HSY6 := Lib.hid (bchain HSY5.out hb)
        have HXY6 := Lib.hid hb
        have OY6 := Lib.hid hrc
        clear hrc hb
        (refine wpE_take 9 (v := ?_) (by kernel_rfl) rfl rfl (by exact HSY6.out) (fun w' hS => ?_) ?_; rotate_left; (focus ((try obtain s0 := HS.out _ (hS rfl)); clear hS; go_simp; try with_reducible rfl; done)); (try simp only [Act.put, List.setIfInBounds_toArray, List.set_cons_zero, List.set_cons_succ]))
        (refine wpE_take 10 (v := ?_) (by kernel_rfl) rfl rfl (by exact HSY6.out) (fun w' hS => ?_) ?_; rotate_left; (focus ((try obtain s0 := HS.out _ (hS rfl)); clear hS; go_simp; try with_reducible rfl; done)); (try simp only [Act.put, List.setIfInBounds_toArray, List.set_cons_zero, List.set_cons_succ]))
        (refine wpE_take 11 (v := ?_) (by kernel_rfl) rfl rfl (by exact HSY6.out) (fun w' hS => ?_) ?_; rotate_left; (focus ((try obtain s0 := HS.out _ (hS rfl)); clear hS; go_simp; try with_reducible rfl; done)); (try simp only [Act.put, List.setIfInBounds_toArray, List.set_cons_zero, List.set_cons_succ]))
        have ZY6 := Lib.hid (ZY5.out.below HXY6.out)
        refine wpE_rest 13 (by kernel_rfl) ?_
        simp only [List.drop_succ_cons, List.drop_zero]
        obtain ⟨r0, r1, r2, f0, f1, f2⟩ := (ZY6).out.facts
        go_wp2_with fail
        refine NoPanic.normal ?_
        go_wp2_with fail
        go_meet
        case rel => exact ⟨_, rfl, rfl, Box.stored (OY6).out (ZY6).out, ((HSY6.out.setCell (by exact hgeY1) _).setCell (by exact hgeY1) _).setCell (by exact hgeY1) _⟩
  case rest =>
    obtain ⟨g, rfl, rfl, HBOX, HBC⟩ := hcut
    obtain ⟨p0, p1, hpl⟩ := (HT1.out.below HBC.out).facts
    go_wp2_with fail
    clear p0 p1 hpl
    refine (rpair_any _ _ xs ys _ (HPI.out.below HBC.out) (HPO.out.below HBC.out)).mono ?_
    rintro e w4 ⟨⟨s5, A5, n5, c5, A5', n5', c5', rfl⟩, hb⟩
    have HB5 := Lib.hid (bchain HBC.out hb)
    have BX5 := Lib.hid (HBOX.out.below hb)
    clear hb HBOX
    by_cases he : wrongE 24 [xs, ys] = 0
    · have HRP : Hid (resP xs ys = pairF xs ys) := by rw [Hid, resP, if_pos he]
      rw [HRP.out] at BX5
      rw [he]
      have HER := Lib.hid he
      clear he
      go_wp2_with fail
      generalize hX3 : World.alloc w4 _ = W4
      have HB6 : Hid (Below W.heap.size W W4) := by rw [← hX3]; exact HB5.out.alloc HB5.out.size _
      have BX6 : Hid (Box W4 g (pairF xs ys)) := by rw [← hX3]; exact BX5.out.below ((Below.refl _ _).alloc (Nat.le_refl _) _)
      clear hX3 BX5 HB5
      obtain ⟨D1, y1, q1, D2, y2, q2, r0, r1, r2, hgl, HRU⟩ := BX6.out.open
      have HSO := Lib.hid (wrongE_two HER.out)
      have HGI := Lib.hid (pair_good xs ys HSO.out.1 HSO.out.2.1 HSO.out.2.2.1 HSO.out.2.2.2)
      have HA1 : Hid (accB (pairF xs ys) xs ys = true) := by
        rw [Hid, accB_iff, pair_acc xs ys xs ys HSO.out.1 HSO.out.2.1 HSO.out.2.2.1 HSO.out.2.2.2]; exact ⟨rfl, rfl⟩
      have HA2 : Hid (accB (pairF xs ys) us vs = (sameB us xs && sameB vs ys)) := by
        rw [Hid, Bool.eq_iff_iff, accB_iff, pair_acc xs ys us vs HSO.out.1 HSO.out.2.1 HSO.out.2.2.1 HSO.out.2.2.2, Bool.and_eq_true, sameB_iff, sameB_iff]
      have HS : Hid (∀ w' : World, Below W4.heap.size W4 w' → (w'.cell? ⟨g, 0, none⟩ = some (.int .i64 (pairF xs ys).states) ∧ w'.cell? ⟨g, 1, none⟩ = some (.slice D1 y1 q1) ∧ w'.cell? ⟨g, 2, none⟩ = some (.slice D2 y2 q2)) ∧ (w'.cell? ⟨w.heap.size, 0, none⟩ = some (.slice P1 n1 c1) ∧ w'.cell? ⟨w.heap.size, 1, none⟩ = some (.slice P2 n2 c2)) ∧ w'.cell? ⟨w.heap.size + 1, 0, none⟩ = some (.slice X1 k1 e1) ∧ w'.cell? ⟨w.heap.size + 1, 1, none⟩ = some (.slice X2 k2 e2)) := by
        intro w' h
        obtain ⟨t0, t1, _⟩ := (HT1.out.below (bchain HB6.out h)).facts
        obtain ⟨t2, t3, _⟩ := (HT2.out.below (bchain HB6.out h)).facts
        exact ⟨⟨(h.cell hgl).trans r0, (h.cell hgl).trans r1, (h.cell hgl).trans r2⟩, ⟨t0, t1⟩, t2, t3⟩
      clear r0 r1 r2
      have HQ1 := Lib.hid (HX1.out.below HB6.out)
      have HQ2 := Lib.hid (HX2.out.below HB6.out)
      have HQX := Lib.hid (HX.out.below HB6.out)
      have HQP := Lib.hid (HP.out.below HB6.out)
      have HQP1 := Lib.hid (HPI.out.below HB6.out)
      have HQP2 := Lib.hid (HPO.out.below HB6.out)
      have HBB := Lib.hid (bchain HBW.out HB6.out)
      refine wp_region_mix 20 [0, 1, 2, 3, 4, 5, 6, 7, 8, 9, 10, 11, 12, 13, 14, 15, 16, 17, 18, 19] [] [(true, 0), (true, 1), (true, 2), (false, 3), (true, 4), (true, 5), (true, 6), (true, 7), (true, 8), (true, 9), (true, 10), (true, 11), (false, 12), (true, 13), (true, 14), (true, 15), (true, 16), (true, 17), (false, 18), (true, 19), (false, 20), (false, 21), (false, 22), (false, 23), (false, 24), (false, 25)] (fun w' => Below W4.heap.size W4 w') (by kernel_rfl) (by kernel_rfl) ?_
      rintro D hD
      have HSD : Hid (Below W4.heap.size W4 D) := by rw [hD]; exact (Below.refl _ _).drew
      clear hD
      refine ⟨HSD.out, ?_⟩
      iterate 3 (refine wpMix_q (v := ?_) rfl rfl (fun w' hS => ?_) ?_; rotate_left; (focus ((try obtain ⟨⟨s0, s1, s2⟩, ⟨s3, s4⟩, s5, s6⟩ := HS.out _ (hS rfl)); clear hS; go_simp; try with_reducible rfl; done)); (try simp only [Act.put, List.setIfInBounds_toArray, List.set_cons_zero, List.set_cons_succ]))
      refine wpMix_e rfl rfl (fun K hK => ?_)
      go_simp
      refine (takes_any _ _ (pairF xs ys) xs ys _ _ (HRU.out.below HSD.out) (HQP.out.below HSD.out) HGI.out (le40 HL1.out) (le40 HL2.out)).mono ?_
      rintro e Y1 ⟨rfl, hb⟩
      refine hK.out _ _ (fun _ => bchain HSD.out hb) ?_
      clear hK K
      (try simp only [Act.put, List.setIfInBounds_toArray, List.set_cons_zero, List.set_cons_succ])
      have HSY1 := Lib.hid (bchain HSD.out hb)
      clear hb
      rw [show (accB (pairF xs ys) xs ys == true) = true by rw [HA1.out]; rfl]
      iterate 8 (refine wpMix_q (v := ?_) rfl rfl (fun w' hS => ?_) ?_; rotate_left; (focus ((try obtain ⟨⟨s0, s1, s2⟩, ⟨s3, s4⟩, s5, s6⟩ := HS.out _ (hS rfl)); clear hS; go_simp; try with_reducible rfl; done)); (try simp only [Act.put, List.setIfInBounds_toArray, List.set_cons_zero, List.set_cons_succ]))
      refine wpMix_e rfl rfl (fun K hK => ?_)
      go_simp
      refine (rsame_b _ _ us xs _ (HQ1.out.below HSY1.out) (HQP1.out.below HSY1.out)).mono ?_
      rintro e Y2 ⟨rfl, hb⟩
      refine hK.out _ _ (fun _ => bchain HSY1.out hb) ?_
      clear hK K
      (try simp only [Act.put, List.setIfInBounds_toArray, List.set_cons_zero, List.set_cons_succ])
      have HSY2 := Lib.hid (bchain HSY1.out hb)
      clear hb
      cases hsm : sameB us xs
      · (refine wpMix_q (v := ?_) rfl rfl (fun w' hS => ?_) ?_; rotate_left; (focus ((try obtain ⟨⟨s0, s1, s2⟩, ⟨s3, s4⟩, s5, s6⟩ := HS.out _ (hS rfl)); clear hS; go_simp; try with_reducible rfl; done)); (try simp only [Act.put, List.setIfInBounds_toArray, List.set_cons_zero, List.set_cons_succ]))
        iterate 4 (refine wpMix_qskip rfl rfl ?_; (try simp only [Act.put, List.setIfInBounds_toArray, List.set_cons_zero, List.set_cons_succ]))
        refine wpMix_eskip rfl rfl HSY2.out ?_
        (try simp only [Act.put, List.setIfInBounds_toArray, List.set_cons_zero, List.set_cons_succ])
        (refine wpMix_q (v := ?_) rfl rfl (fun w' hS => ?_) ?_; rotate_left; (focus ((try obtain ⟨⟨s0, s1, s2⟩, ⟨s3, s4⟩, s5, s6⟩ := HS.out _ (hS rfl)); clear hS; go_simp; try with_reducible rfl; done)); (try simp only [Act.put, List.setIfInBounds_toArray, List.set_cons_zero, List.set_cons_succ]))
        refine wpMix_e rfl rfl (fun K hK => ?_)
        go_simp
        refine (takes_any _ _ (pairF xs ys) us vs _ _ (HRU.out.below HSY2.out) (HQX.out.below HSY2.out) HGI.out (le4 HSH.out.1) (le4 HSH.out.2)).mono ?_
        rintro e Y3 ⟨rfl, hb⟩
        refine hK.out _ _ (fun _ => bchain HSY2.out hb) ?_
        clear hK K
        (try simp only [Act.put, List.setIfInBounds_toArray, List.set_cons_zero, List.set_cons_succ])
        have HSY3 := Lib.hid (bchain HSY2.out hb)
        clear hb
        rw [show (accB (pairF xs ys) us vs == false) = true by rw [HA2.out, hsm]; rfl]
        (refine wpMix_e rfl rfl (fun K hK => ?_); go_simp; refine hK.out _ _ (fun h => absurd h (by decide)) ?_; clear hK K; (try simp only [Act.put, List.setIfInBounds_toArray, List.set_cons_zero, List.set_cons_succ]))
        (refine wpMix_e rfl rfl (fun K hK => ?_); go_simp; refine hK.out _ _ (fun h => absurd h (by decide)) ?_; clear hK K; (try simp only [Act.put, List.setIfInBounds_toArray, List.set_cons_zero, List.set_cons_succ]))
        refine wpMix_e rfl rfl (fun K hK => ?_)
        go_simp
        refine (awake_any _).mono ?_
        rintro e Y9 ⟨rfl, hb⟩
        refine hK.out _ _ (fun h => absurd h (by decide)) ?_
        clear hK K
        (try simp only [Act.put, List.setIfInBounds_toArray, List.set_cons_zero, List.set_cons_succ])
        have HSY9 := Lib.hid (bchain HSY3.out hb)
        clear hb
        (refine wpMix_e rfl rfl (fun K hK => ?_); go_simp; refine hK.out _ _ (fun h => absurd h (by decide)) ?_; clear hK K; (try simp only [Act.put, List.setIfInBounds_toArray, List.set_cons_zero, List.set_cons_succ]))
        (refine wpMix_e rfl rfl (fun K hK => ?_); go_simp; refine hK.out _ _ (fun h => absurd h (by decide)) ?_; clear hK K; (try simp only [Act.put, List.setIfInBounds_toArray, List.set_cons_zero, List.set_cons_succ]))
        refine wpMix_nil ?_
        refine NoPanic.normal ?_
        go_wp2_with fail
        go_ret
        exact ⟨rfl, bchain HBB.out HSY9.out⟩
      · iterate 5 (refine wpMix_q (v := ?_) rfl rfl (fun w' hS => ?_) ?_; rotate_left; (focus ((try obtain ⟨⟨s0, s1, s2⟩, ⟨s3, s4⟩, s5, s6⟩ := HS.out _ (hS rfl)); clear hS; go_simp; try with_reducible rfl; done)); (try simp only [Act.put, List.setIfInBounds_toArray, List.set_cons_zero, List.set_cons_succ]))
        refine wpMix_e rfl rfl (fun K hK => ?_)
        go_simp
        refine (rsame_b _ _ vs ys _ (HQ2.out.below HSY2.out) (HQP2.out.below HSY2.out)).mono ?_
        rintro e Y4 ⟨rfl, hb⟩
        refine hK.out _ _ (fun _ => bchain HSY2.out hb) ?_
        clear hK K
        (try simp only [Act.put, List.setIfInBounds_toArray, List.set_cons_zero, List.set_cons_succ])
        have HSY4 := Lib.hid (bchain HSY2.out hb)
        clear hb
        (refine wpMix_q (v := ?_) rfl rfl (fun w' hS => ?_) ?_; rotate_left; (focus ((try obtain ⟨⟨s0, s1, s2⟩, ⟨s3, s4⟩, s5, s6⟩ := HS.out _ (hS rfl)); clear hS; go_simp; try with_reducible rfl; done)); (try simp only [Act.put, List.setIfInBounds_toArray, List.set_cons_zero, List.set_cons_succ]))
        refine wpMix_e rfl rfl (fun K hK => ?_)
        go_simp
        refine (takes_any _ _ (pairF xs ys) us vs _ _ (HRU.out.below HSY4.out) (HQX.out.below HSY4.out) HGI.out (le4 HSH.out.1) (le4 HSH.out.2)).mono ?_
        rintro e Y3 ⟨rfl, hb⟩
        refine hK.out _ _ (fun _ => bchain HSY4.out hb) ?_
        clear hK K
        (try simp only [Act.put, List.setIfInBounds_toArray, List.set_cons_zero, List.set_cons_succ])
        have HSY3 := Lib.hid (bchain HSY4.out hb)
        clear hb
        rw [show (accB (pairF xs ys) us vs == sameB vs ys) = true by rw [HA2.out, hsm]; simp]
        (refine wpMix_e rfl rfl (fun K hK => ?_); go_simp; refine hK.out _ _ (fun h => absurd h (by decide)) ?_; clear hK K; (try simp only [Act.put, List.setIfInBounds_toArray, List.set_cons_zero, List.set_cons_succ]))
        (refine wpMix_e rfl rfl (fun K hK => ?_); go_simp; refine hK.out _ _ (fun h => absurd h (by decide)) ?_; clear hK K; (try simp only [Act.put, List.setIfInBounds_toArray, List.set_cons_zero, List.set_cons_succ]))
        refine wpMix_e rfl rfl (fun K hK => ?_)
        go_simp
        refine (awake_any _).mono ?_
        rintro e Y9 ⟨rfl, hb⟩
        refine hK.out _ _ (fun h => absurd h (by decide)) ?_
        clear hK K
        (try simp only [Act.put, List.setIfInBounds_toArray, List.set_cons_zero, List.set_cons_succ])
        have HSY9 := Lib.hid (bchain HSY3.out hb)
        clear hb
        (refine wpMix_e rfl rfl (fun K hK => ?_); go_simp; refine hK.out _ _ (fun h => absurd h (by decide)) ?_; clear hK K; (try simp only [Act.put, List.setIfInBounds_toArray, List.set_cons_zero, List.set_cons_succ]))
        (refine wpMix_e rfl rfl (fun K hK => ?_); go_simp; refine hK.out _ _ (fun h => absurd h (by decide)) ?_; clear hK K; (try simp only [Act.put, List.setIfInBounds_toArray, List.set_cons_zero, List.set_cons_succ]))
        refine wpMix_nil ?_
        refine NoPanic.normal ?_
        go_wp2_with fail
        go_ret
        exact ⟨rfl, bchain HBB.out HSY9.out⟩
    · have HRP : Hid (resP xs ys = ⟨0, [], []⟩) := by rw [Hid, resP, if_neg he]
      rw [HRP.out] at BX5
      obtain ⟨er, her⟩ : ∃ er, wrongE 24 [xs, ys] = er := ⟨_, rfl⟩
      have hne : (er != 0) = true := by rw [← her]; simpa using he
      have heq : (er == er) = true := by simp
      rw [her]
      clear her he
      obtain ⟨D1, y1, q1, D2, y2, q2, r0, r1, r2, hgl, HRU⟩ := BX5.out.open
      go_wp2_with fail
      generalize hX3 : World.alloc w4 _ = W4
      have HB6 : Hid (Below W.heap.size W W4) := by rw [← hX3]; exact HB5.out.alloc HB5.out.size _
      have HBA : Hid (Below w4.heap.size w4 W4) := by rw [← hX3]; exact (Below.refl _ _).alloc (Nat.le_refl _) _
      have HRU6 := Lib.hid (HRU.out.below HBA.out)
      refine (fsame_z _ _ HRU6.out).mono ?_
      rintro e w5 ⟨rfl, hb⟩
      have HB7 := Lib.hid (bchain HB6.out hb)
      clear hb
      go_wp2_with fail
      refine (awake_any _).mono ?_
      rintro e w6 ⟨rfl, hb⟩
      have HB8 := Lib.hid (bchain HB7.out hb)
      clear hb
      go_wp2_with fail
      go_ret
      exact ⟨rfl, bchain HBW.out HB8.out⟩
end Go.Proofs.Ytmeppkkoepmlnaa
