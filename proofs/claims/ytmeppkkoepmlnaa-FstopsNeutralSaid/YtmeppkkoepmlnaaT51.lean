/-
  all of the statements 21: the symbols of a transducer and of a pair, each once.
-/
import Derived.Test.YtmeppkkoepmlnaaT40
import Derived.Test.YtmeppkkoepmlnaaT49
namespace Go.Proofs.Ytmeppkkoepmlnaa
open Go.ChangeShapes Go.WideShapes Go.ChangeAt Go.RowKit
def okSym (x : Int) : Bool := decide (1 ≤ x) && decide (x ≤ 1099511627776)
def addS (out : List Int) (x : Int) : List Int := if okSym x && !hasB out x then out ++ [x] else out
def onceL (l : List Int) : List Int := l.foldl addS []
theorem onceL_take (l : List Int) (k : Nat) (x : Int) (r : List Int) (h : l.drop k = x :: r) : onceL (l.take (k + 1)) = addS (onceL (l.take k)) x := by
  have hk : k < l.length := by
    rcases Nat.lt_or_ge k l.length with h1 | h1
    · exact h1
    · rw [List.drop_of_length_le h1] at h; cases h
  rw [List.drop_eq_getElem_cons hk] at h
  rw [onceL, List.take_succ_eq_append_getElem hk, (List.cons.inj h).1, List.foldl_append]
  rfl
theorem fold_add (l acc : List Int) : (∀ x, x ∈ l.foldl addS acc ↔ x ∈ acc ∨ (x ∈ l ∧ okSym x = true)) ∧ (l.foldl addS acc).length ≤ acc.length + l.length := by
  induction l generalizing acc with
  | nil => simp
  | cons y l ih =>
    obtain ⟨h1, h2⟩ := ih (addS acc y)
    rw [List.foldl_cons]
    refine ⟨fun x => ?_, ?_⟩
    · rw [h1 x]
      unfold addS
      by_cases hy : (okSym y && !hasB acc y) = true
      · rw [if_pos hy]
        simp only [Bool.and_eq_true] at hy
        simp only [List.mem_append, List.mem_cons, List.not_mem_nil, or_false]
        constructor
        · rintro ((h | h) | h)
          · exact .inl h
          · subst h; exact .inr ⟨.inl rfl, hy.1⟩
          · exact .inr ⟨.inr h.1, h.2⟩
        · rintro (h | ⟨h | h, h'⟩)
          · exact .inl (.inl h)
          · exact .inl (.inr h)
          · exact .inr ⟨h, h'⟩
      · rw [if_neg hy]
        simp only [List.mem_cons]
        constructor
        · rintro (h | h)
          · exact .inl h
          · exact .inr ⟨.inr h.1, h.2⟩
        · rintro (h | ⟨h | h, h'⟩)
          · exact .inl h
          · subst h
            simp only [Bool.and_eq_true, not_and, h', Bool.not_eq_true', Bool.not_eq_false, forall_const, hasB_iff] at hy
            exact .inl hy
          · exact .inr ⟨h, h'⟩
    · unfold addS at h2 ⊢
      split at h2
      · rename_i hc
        rw [if_pos hc]
        simp at h2 ⊢; omega
      · rename_i hc
        rw [if_neg hc]
        simp at h2 ⊢; omega
theorem onceL_mem (l : List Int) (x : Int) : x ∈ onceL l ↔ x ∈ l ∧ okSym x = true := by simpa [onceL] using (fold_add l []).1 x
theorem onceL_len (l : List Int) : (onceL l).length ≤ l.length := by simpa [onceL] using (fold_add l []).2
theorem onceL_ok (l : List Int) : SymOk (onceL l) := fun x hx => by
  have := ((onceL_mem l x).1 hx).2
  simpa [okSym] using this
def symsOf (L : List PArc) : List Int := L.flatMap fun a => [a.inp, a.out]
theorem symsOf_len (L : List PArc) : (symsOf L).length = 2 * L.length := by
  induction L with
  | nil => rfl
  | cons a L ih => simp only [symsOf, List.flatMap_cons, List.length_append] at ih ⊢; rw [ih]; simp; omega
theorem symsOf_take (L : List PArc) (k : Nat) (x0 x1 x2 x3 : Int) (r : List PArc) (h : L.drop k = ⟨x0, x1, x2, x3⟩ :: r) : symsOf (L.take (k + 1)) = symsOf (L.take k) ++ [x1, x2] := by
  have hk : k < L.length := by
    rcases Nat.lt_or_ge k L.length with h1 | h1
    · exact h1
    · rw [List.drop_of_length_le h1] at h; cases h
  rw [List.drop_eq_getElem_cons hk] at h
  rw [List.take_succ_eq_append_getElem hk, (List.cons.inj h).1]
  simp [symsOf]
def allL (a : PFst) (xs ys : List Int) : List Int := onceL (xs ++ ys ++ symsOf a.arcs)
theorem rd_new2 (w : World) (g : Nat) (hg : w.heap.size = g) (x y : Int) : RdI (w.alloc (.cells #[.int .i64 x, .int .i64 y] 3)) (.slice (some ⟨g, 0, none⟩) 2 2) [x, y] := by
  subst hg
  refine ⟨_, 2, rfl, Nat.le_refl _, by decide, rfl, fun _ => ⟨w.heap.size, 0, rfl, by simp, fun j u hu => ?_⟩⟩
  rw [cell_of_row _ _ _ _ _ (0, 0) (heap_alloc_new w _)]
  simpa using hu
set_option maxHeartbeats 4000000 in
set_option maxRecDepth 100000 in
theorem all_any (v x : Value) (a : PFst) (xs ys : List Int) (w : World) (hv : RdF w v a) (hx : RdT w x xs ys) (hn : a.arcs.length ≤ 1000) (h1 : xs.length ≤ 1000) (h2 : ys.length ≤ 1000) :
    Calls Try.prog 39 #[v, x] w fun e w' => (∃ vl, e = .returned vl ∧ OwnI w' w.heap.size vl (allL a xs ys)) ∧ Below w.heap.size w w' := by
  obtain ⟨va, vf, rfl, ha, hf⟩ := id hv
  obtain ⟨A1, n1, c1, rfl, q1, q2, HN1, HR1⟩ := ha.op
  obtain ⟨A2, n2, c2, rfl, _, _, _, _⟩ := hf.op
  obtain ⟨vx, vy, rfl, hx1, hx2⟩ := id hx
  obtain ⟨X1, k1, e1, rfl, _, _, HK1, _⟩ := hx1.op
  obtain ⟨X2, k2, e2, rfl, _, _, HK2, _⟩ := hx2.op
  have HX1 := Lib.hid hx1
  have HX2 := Lib.hid hx2
  have HLN := Lib.hid hn
  have HL1 := Lib.hid h1
  have HL2 := Lib.hid h2
  rw [HN1.out] at hn
  clear ha hf hx1 hx2 hv hx h1 h2
  go_enter Try.func39, Try.ntmps39
  go_wp2_with fail
  generalize hW : World.alloc (World.alloc w _) _ = W
  have HP1 : Hid (FBlk W w.heap.size (.int .i64 a.states) (.slice A1 n1 c1) (.slice A2 n2 c2)) := by
    rw [← hW]; exact (Below.heap_alloc _ _ _ (by first | omega | (simp; done) | (simp; omega))).trans (heap_alloc_new w _)
  have HP3 : Hid (TBlk W (w.heap.size + 1) (.slice X1 k1 e1) (.slice X2 k2 e2)) := by
    rw [Hid, TBlk, ← hW]
    have := heap_alloc_new (w.alloc (.cells #[.int .i64 a.states, .slice A1 n1 c1, .slice A2 n2 c2] 29)) (.cells #[.slice X1 k1 e1, .slice X2 k2 e2] 24)
    simpa using this
  have HBW : Hid (Below w.heap.size w W) := by rw [← hW]; repeat (first | assumption | exact Below.refl _ _ | refine Below.alloc ?_ (by first | omega | (simp; done) | (simp; omega)) _ | refine Below.drew ?_ | refine below_drewN ?_ _ | refine Below.setCell ?_ (by first | omega | (simp; done) | (simp; omega)) _)
  clear hW
  have HX1 := Lib.hid (HX1.out.below HBW.out)
  have HX2 := Lib.hid (HX2.out.below HBW.out)
  refine wp_region_ord 6 [0, 1, 2, 3, 4, 5] [] [1, 2, 4, 5] [0, 3, 6, 7] (fun w' => Below W.heap.size W w') (by kernel_rfl) (by kernel_rfl) ?_
  rintro D hD
  have HSD : Hid (Below W.heap.size W D) := by rw [hD]; exact (Below.refl _ _).drew
  clear hD
  refine ⟨HSD.out, ?_⟩
  have HS : Hid (∀ w' : World, Below W.heap.size W w' → w'.cell? ⟨w.heap.size + 1, 0, none⟩ = some (.slice X1 k1 e1) ∧ w'.cell? ⟨w.heap.size + 1, 1, none⟩ = some (.slice X2 k2 e2)) := fun w' h => ⟨(HP3.out.below h).facts.1, (HP3.out.below h).facts.2.1⟩
  iterate 4 (refine wpHead_cons (v := ?_) rfl rfl (fun w' hS => ?_) ?_; rotate_left; (focus ((try obtain ⟨s0, s1⟩ := HS.out _ (hS rfl)); clear hS; go_simp; try with_reducible rfl; done)); (try simp only [Act.put, List.setIfInBounds_toArray, List.set_cons_zero, List.set_cons_succ]))
  refine wpHead_nil ?_
  refine wpTail_cons rfl rfl (fun K hK => ?_)
  go_simp
  refine hK.out _ _ (fun _ => HSD.out.alloc HSD.out.size _) ?_
  clear hK K
  (try simp only [Act.put, List.setIfInBounds_toArray, List.set_cons_zero, List.set_cons_succ])
  generalize hX : World.alloc D _ = X
  have HSX : Hid (Below W.heap.size W X) := by rw [← hX]; exact HSD.out.alloc HSD.out.size _
  have HO := Lib.hid (own_newI D W.heap.size _ rfl HSD.out.size)
  rw [hX] at HO
  clear hX
  generalize D.heap.size = gd at HO ⊢
  refine wpTail_cons rfl rfl (fun K hK => ?_)
  refine wp_app_ints (.tmp 9) (.tmp 11) rfl W.heap.size _ [] rfl HO.out _ xs rfl (HX1.out.below HSX.out) (by have := HL1.out; simp; omega) HSX.out.size ?_
  intro v1 Y1 ho hg _
  have HSY1 := Lib.hid (below_grown HSX.out (Nat.le_refl _) HO.out hg)
  refine hK.out _ _ (fun _ => HSY1.out) ?_
  clear hK K
  (try simp only [Act.put, List.setIfInBounds_toArray, List.set_cons_zero, List.set_cons_succ])
  have HO1 : Hid (OwnI Y1 W.heap.size v1 xs) := ho
  clear ho hg HO HSX
  refine wpTail_cons rfl rfl (fun K hK => ?_)
  refine wp_app_ints (.tmp 12) (.tmp 14) rfl W.heap.size _ xs rfl HO1.out _ ys rfl (HX2.out.below HSY1.out) (by have := HL1.out; have := HL2.out; omega) HSY1.out.size ?_
  intro v2 Y2 ho hg _
  have HSY2 := Lib.hid (below_grown HSY1.out (Nat.le_refl _) HO1.out hg)
  refine hK.out _ _ (fun h => absurd h (by decide)) ?_
  clear hK K
  (try simp only [Act.put, List.setIfInBounds_toArray, List.set_cons_zero, List.set_cons_succ])
  have HO2 := Lib.hid ho
  clear ho hg HO1
  refine wpTail_rest 7 rfl ?_
  simp only [List.drop_succ_cons, List.drop_zero]
  go_wp2_with fail
  refine NoPanic.normal ?_
  go_wp2_with fail
  obtain ⟨Av, nv, cv, rfl, _, _, _, _⟩ := HO2.out.rd.op
  go_loopw [5, 6] (fun s5 s6 wr => ∃ (k : Nat) (A : Option Addr) (n c : Nat), k ≤ n1 ∧ s6 = .int .i64 k ∧ s5 = .slice A n c ∧ Hid (OwnI wr W.heap.size (.slice A n c) (xs ++ ys ++ symsOf (a.arcs.take k))) ∧ Hid (Below W.heap.size W wr)) (fun _ i _ => n1 - (intOf i).toNat)
  case atStart => exact ⟨0, _, _, _, Nat.zero_le _, rfl, rfl, by simpa [Hid, symsOf] using HO2.out, HSY2.out⟩
  case round =>
    obtain ⟨k, A, n, c, hk, rfl, rfl, HOK, HBK⟩ := hrel
    have HBR := Lib.hid (bchain HBW.out HBK.out)
    obtain ⟨p0, p1, p2, p3, _, _⟩ := (HP1.out.below HBK.out).facts
    have hpl := (HP1.out.below HBK.out).lt
    by_cases hlt : k < n1
    · clear p3
      obtain ⟨bb, off, x0, x1, x2, x3, rfl, hbb, hdr, z0, z1, z2, z3⟩ := HR1.out k hlt
      have HZ := Lib.hid (And.intro z1 z2)
      clear z0 z1 z2 z3
      go_wp2_with fail
      clear p0 p1 p2 hpl
      refine wp_region_ord 13 [1, 2, 3, 4, 5, 6, 7, 8, 9, 10, 11, 12] [0] [0, 1, 2, 3, 4, 5, 6, 7, 8, 9, 10, 11, 12] [13, 14, 15] (fun w' => Below W.heap.size W w') (by kernel_rfl) (by kernel_rfl) ?_
      rintro D hD
      have HSD : Hid (Below W.heap.size W D) := by rw [hD]; exact HBK.out.drew
      have HOD : Hid (OwnI D W.heap.size (.slice A n c) (xs ++ ys ++ symsOf (a.arcs.take k))) := by rw [hD]; exact HOK.out
      clear hD
      refine ⟨HSD.out, ?_⟩
      have HS : Hid (∀ w' : World, Below W.heap.size W w' → w'.cell? ⟨w.heap.size, 1, none⟩ = some (.slice (some ⟨bb, off, none⟩) n1 c1) ∧ w'.cell? ⟨bb, off + k * 4 + 1, none⟩ = some (.int .i64 x1) ∧ w'.cell? ⟨bb, off + k * 4 + 2, none⟩ = some (.int .i64 x2)) := by
        intro w' h
        have hb := bchain HBW.out h
        exact ⟨(HP1.out.below h).facts.2.1, (hb.cell (p := ⟨bb, off + k * 4 + 1, none⟩) hbb).trans HZ.out.1, (hb.cell (p := ⟨bb, off + k * 4 + 2, none⟩) hbb).trans HZ.out.2⟩
      have hk0 : (0 : Int) ≤ (k : Int) := by omega
      have hk1 : (k : Int) < (n1 : Int) := by omega
      iterate 13 (refine wpHead_cons (v := ?_) rfl rfl (fun w' hS => ?_) ?_; rotate_left; (focus ((try obtain ⟨s0, s1, s2⟩ := HS.out _ (hS rfl)); clear hS; go_simp; try with_reducible rfl; done)); (try simp only [Act.put, List.setIfInBounds_toArray, List.set_cons_zero, List.set_cons_succ]))
      refine wpHead_nil ?_
      clear hk0 hk1
      refine wpTail_cons rfl rfl (fun K hK => ?_)
      go_simp
      refine hK.out _ _ (fun h => absurd h (by decide)) ?_
      clear hK K
      (try simp only [Act.put, List.setIfInBounds_toArray, List.set_cons_zero, List.set_cons_succ])
      have HR2 := Lib.hid (rd_new2 D _ rfl x1 x2)
      have HSX0 : Hid (Below W.heap.size W (D.alloc (.cells #[.int .i64 x1, .int .i64 x2] 3))) := HSD.out.alloc HSD.out.size _
      have HOX0 : Hid (OwnI (D.alloc (.cells #[.int .i64 x1, .int .i64 x2] 3)) W.heap.size (.slice A n c) (xs ++ ys ++ symsOf (a.arcs.take k))) := World.ownsRow.alloc HOD.out _
      generalize hX : World.alloc D _ = X
      rw [hX] at HR2 HSX0 HOX0
      clear hX
      generalize D.heap.size = gd2 at HR2 ⊢
      refine wpTail_cons rfl rfl (fun K hK => ?_)
      refine wp_app_ints (.tmp 23) (.tmp 36) rfl W.heap.size _ _ rfl HOX0.out _ [x1, x2] rfl HR2.out (by have := HL1.out; have := HL2.out; have := HLN.out; simp only [List.length_append, symsOf_len, List.length_take, List.length_cons, List.length_nil]; omega) HSX0.out.size ?_
      intro v3 Y3 ho hg _
      have HSY3 := Lib.hid (below_grown HSX0.out (Nat.le_refl _) HOX0.out hg)
      have HOY3 : Hid (OwnI Y3 W.heap.size v3 (xs ++ ys ++ symsOf (a.arcs.take (k + 1)))) := by rw [Hid, symsOf_take _ _ _ _ _ _ _ hdr.out, ← List.append_assoc]; exact ho
      refine hK.out _ _ (fun h => absurd h (by decide)) ?_
      clear hK K ho hg
      (try simp only [Act.put, List.setIfInBounds_toArray, List.set_cons_zero, List.set_cons_succ])
      obtain ⟨A3, n3, c3, rfl, _, _, _, _⟩ := HOY3.out.rd.op
      refine wpTail_rest 15 rfl ?_
      simp only [List.drop_succ_cons, List.drop_zero]
      go_wp2_with fail
      refine NoPanic.normal ?_
      go_wp2_with fail
      go_roundw
      case rel => exact ⟨k + 1, _, _, _, by omega, by go_num, rfl, HOY3.out, HSY3.out⟩
      case measure => simp [intOf]; omega
    · clear p3
      have hkn : k = n1 := by omega
      have HALL : Hid (onceL (xs ++ ys ++ symsOf (a.arcs.take k)) = allL a xs ys) := by rw [Hid, allL, List.take_of_length_le (by rw [HN1.out]; omega)]
      obtain ⟨L, hL⟩ : ∃ L, xs ++ ys ++ symsOf (a.arcs.take k) = L := ⟨_, rfl⟩
      have HLL : Hid (L.length ≤ 1000000) := by rw [Hid, ← hL]; have := HL1.out; have := HL2.out; have := HLN.out; simp only [List.length_append, symsOf_len, List.length_take]; omega
      rw [hL] at HOK HALL
      clear hL hkn
      obtain ⟨wo, rfl⟩ : ∃ wo : World, wo = wr := ⟨_, rfl⟩
      have HRL := Lib.hid HOK.out.rd
      obtain ⟨AL, nL, cL, hee, hl1, hl2, HNL, HATL⟩ := HRL.out.op
      cases hee
      have HO0 := Lib.hid (own_newI wo wo.heap.size _ rfl (Nat.le_refl _))
      go_wp2_with fail
      clear p0 p1 p2 hpl
      generalize hX : World.alloc wo _ = X
      have HBX : Hid (Below wo.heap.size wo X) := by rw [← hX]; exact (Below.refl _ _).alloc (Nat.le_refl _) _
      rw [hX] at HO0
      clear hX
      obtain ⟨b2, hb2⟩ : ∃ b2, wo.heap.size = b2 := ⟨_, rfl⟩
      rw [hb2] at HO0 HBX ⊢
      have HB2 := Lib.hid hb2
      clear hb2
      go_loopw [7, 8] (fun s7 s8 wr => ∃ (j : Nat) (A : Option Addr) (n' c' : Nat), j ≤ n ∧ s8 = .int .i64 j ∧ s7 = .slice A n' c' ∧ Hid (OwnI wr b2 (.slice A n' c') (onceL (L.take j))) ∧ Hid (Below b2 wo wr)) (fun _ i _ => n - (intOf i).toNat)
      case atStart => exact ⟨0, _, _, _, Nat.zero_le _, rfl, rfl, HO0.out, HBX.out⟩
      case round =>
        obtain ⟨j, A', n', c', hj, rfl, rfl, HOJ, HBJ⟩ := hrel
        by_cases hltj : j < n
        · obtain ⟨b3, off3, x, rfl, hb3, hdrx, z0⟩ := (HATL.out j hltj).below (by rw [HB2.out]; exact HBJ.out)
          have HON : Hid (onceL (L.take (j + 1)) = addS (onceL (L.take j)) x) := onceL_take _ _ _ _ hdrx.out
          by_cases g1 : 1 ≤ x
          · by_cases g2 : x ≤ 1099511627776
            · have hok : okSym x = true := by simp [okSym, g1, g2]
              have HOK2 := Lib.hid hok
              clear hok
              have d1 : decide (1 ≤ x) = true := by simpa using g1
              have d2 : decide (x ≤ 1099511627776) = true := by simpa using g2
              go_wp2_with fail
              refine (has_any _ (onceL (L.take j)) x _ HOJ.out.rd).mono ?_
              rintro e w' ⟨rfl, rfl⟩
              cases hh : hasB (onceL (L.take j)) x
              · have HON2 : Hid (onceL (L.take (j + 1)) = onceL (L.take j) ++ [x]) := by rw [Hid, HON.out, addS, HOK2.out, hh]; rfl
                clear hh
                have hb4 : b2 ≤ wr.heap.size := by have := HBJ.out.size; have := HB2.out; omega
                obtain ⟨m, hm⟩ : ∃ m, (onceL (L.take j)).length = m := ⟨_, rfl⟩
                have hml : m ≤ 1000000 := by have h1 := onceL_len (L.take j); rw [List.length_take] at h1; have h2 := HLL.out; omega
                have HM := Lib.hid hm
                clear hm
                go_wp2_with (at_builtin; refine wpList_app_int rfl (.tmp 66) (.tmp 71) rfl b2 (.slice A' n' c') (onceL (L.take j)) rfl HOJ.out x m HM hml hb4 rfl ?_; intro g' cap w5 ho hge hg)
                have HO5 := Lib.hid ho
                have HG5 := Lib.hid hg
                clear ho hg
                go_roundw
                case rel => exact ⟨j + 1, _, _, _, by omega, by go_num, rfl, by rw [Hid, HON2.out]; exact HO5.out, HBJ.out.grown HG5.out hb4 (fun k hk => (World.ownsRow.lt HOJ.out k hk).1)⟩
                case measure => simp [intOf]; omega
              · have HON2 : Hid (onceL (L.take (j + 1)) = onceL (L.take j)) := by rw [Hid, HON.out, addS, HOK2.out, hh]; rfl
                clear hh
                go_wp2_with fail
                go_roundw
                case rel => exact ⟨j + 1, _, _, _, by omega, by go_num, rfl, by rw [Hid, HON2.out]; exact HOJ.out, HBJ.out⟩
                case measure => simp [intOf]; omega
            · have HON2 : Hid (onceL (L.take (j + 1)) = onceL (L.take j)) := by rw [Hid, HON.out]; simp [addS, okSym, g2]
              have d1 : decide (1 ≤ x) = true := by simpa using g1
              have d2 : decide (x ≤ 1099511627776) = false := by simpa using g2
              go_wp2_with fail
              go_roundw
              case rel => exact ⟨j + 1, _, _, _, by omega, by go_num, rfl, by rw [Hid, HON2.out]; exact HOJ.out, HBJ.out⟩
              case measure => simp [intOf]; omega
          · have HON2 : Hid (onceL (L.take (j + 1)) = onceL (L.take j)) := by rw [Hid, HON.out]; simp [addS, okSym, g1]
            have d1 : decide (1 ≤ x) = false := by simpa using g1
            go_wp2_with fail
            go_roundw
            case rel => exact ⟨j + 1, _, _, _, by omega, by go_num, rfl, by rw [Hid, HON2.out]; exact HOJ.out, HBJ.out⟩
            case measure => simp [intOf]; omega
        · go_wp2_with fail
          go_ret
          refine ⟨⟨_, rfl, ?_⟩, ?_⟩
          · have h := HOJ.out
            rw [List.take_of_length_le (by rw [HNL.out]; omega), HALL.out] at h
            exact own_base h (by have := HBW.out.size; have := HBK.out.size; have := HB2.out; omega)
          · exact (bchain HBW.out HBK.out).trans (HBJ.out.mono (by have := HBW.out.size; have := HBK.out.size; have := HB2.out; omega))
end Go.Proofs.Ytmeppkkoepmlnaa
