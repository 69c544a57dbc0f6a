/-
  Join of variants.
-/
import Derived.Test.YtnjniganlielcaaV10
namespace Go.Proofs.Ytnjniganlielcaa
open Go.ChangeShapes Go.WideShapes Go.ChangeAt Go.RowKit Go.Shelf
attribute [local go_sem] Oper.semAt_some
def joinK (K : List EK) (id tt : Int) : Int := if getK K id = none ∨ getK K tt = none then 9 else if (wK K tt).any (fun e => e.id == id) then 17 else 0
def joinE (L : List EV) (id tt : Int) : List EV := if joinK (keys L) id tt = 0 then setE L id tt else []
theorem any_keys (L : List EV) (id tt : Int) : (wayL L (L.length + 1) tt).any (fun e => e.id == id) = (wK (keys L) tt).any (fun e => e.id == id) := by
  rw [← wK_keys, List.any_map]
  rfl
theorem getV_cases (L : List EV) (id : Int) : ∃ (e : EV) (k : Bool), getV L id = .tuple #[.agg #[.int .i64 e.id, .slice e.f.A e.f.n e.f.c, .int .i64 e.cls, .slice e.a.A e.a.n e.a.c, .int .i64 e.main, .slice e.s.A e.s.n e.s.c, .slice e.l.A e.l.n e.l.c, .slice e.r.A e.r.n e.r.c], .bool k] ∧ (k = false ↔ getE L id = none) := by
  unfold getV
  cases getE L id with
  | none => exact ⟨evz, false, rfl, by simp⟩
  | some e => exact ⟨e, true, rfl, by simp⟩
def JoinOut (L : List EV) (id tt : Int) (w : World) (e : Ending) (w' : World) : Prop :=
  (∃ v', e = .returned (.tuple #[v', .int .i64 (joinK (keys L) id tt)]) ∧ OwnV w' w.heap.size v' (joinE L id tt)) ∧ Below w.heap.size w w'
set_option maxHeartbeats 8000000 in
set_option maxRecDepth 100000 in
theorem join_any (v : Value) (L : List EV) (id tt : Int) (w : World) (hv : RdV w v L) (hl : L.length ≤ 100000) :
    Calls Try.prog 24 #[v, .int .i64 id, .int .i64 tt] w (JoinOut L id tt w) := by
  obtain ⟨A, n, c, rfl, h1, h2, HN, _⟩ := hv.op
  have HV := Lib.hid hv
  have HL := Lib.hid hl
  have hln := hl
  rw [HN.out] at hln
  clear hv hl
  have HK1 := Lib.hid (getK_keys L id)
  have HK2 := Lib.hid (getK_keys L tt)
  refine (callsIn_wide (n := 3)).1 ?_
  refine callsIn_of_wp_marks Try.func24 rfl trivial ?_ rfl
  simp only [Try.ntmps24, List.size_toArray, List.length_cons, List.length_nil, Nat.reduceAdd, Nat.reduceSub, Array.replicate_succ, Array.replicate_zero, List.push_toArray, List.append_toArray, List.nil_append, List.cons_append]
  gi_wp2_with fail
  refine ⟨trivial, ?_⟩
  generalize hW0 : World.alloc (World.alloc (World.alloc w _) _) _ = W0
  have b4 : Boxed W0 w.heap.size 3 (.int .i64 id) := by rw [Boxed, ← hW0]; (repeat (first | exact heap_new' _ _ _ (by first | omega | rfl | (simp; done) | (simp; omega)) | refine (Below.heap_alloc _ _ _ (by first | omega | (simp; done) | (simp; omega))).trans ?_))
  have b6 : Boxed W0 (w.heap.size + 1) 22 (.slice none 0 0) := by rw [Boxed, ← hW0]; (repeat (first | exact heap_new' _ _ _ (by first | omega | rfl | (simp; done) | (simp; omega)) | refine (Below.heap_alloc _ _ _ (by first | omega | (simp; done) | (simp; omega))).trans ?_))
  have b7 : Boxed W0 (w.heap.size + 1 + 1) 24 (.int .i64 0) := by rw [Boxed, ← hW0]; (repeat (first | exact heap_new' _ _ _ (by first | omega | rfl | (simp; done) | (simp; omega)) | refine (Below.heap_alloc _ _ _ (by first | omega | (simp; done) | (simp; omega))).trans ?_))
  have hB0 : Below w.heap.size w W0 := by rw [← hW0]; repeat (first | assumption | exact Below.refl _ _ | refine Below.alloc ?_ (by first | omega | (simp; done) | (simp; omega)) _ | refine Below.drew ?_ | refine below_drewN ?_ _ | refine Below.setCell ?_ (by first | omega | (simp; done) | (simp; omega)) _)
  have hz0 : w.heap.size + 3 ≤ W0.heap.size := by rw [← hW0]; simp
  clear hW0
  refine (callsIn_wide.2 (get_any _ L id _ (HV.out.below hB0))).mono ?_
  rintro e1 W1 ⟨rfl, hb1⟩
  dsimp only
  have HB1 := Lib.hid (hB0.trans (hb1.mono hB0.size))
  have H41 : Hid (Boxed W1 w.heap.size 3 (.int .i64 id)) := (hb1.block _ b4.lt).trans b4
  have H61 : Hid (Boxed W1 (w.heap.size + 1) 22 (.slice none 0 0)) := (hb1.block _ b6.lt).trans b6
  have H71 : Hid (Boxed W1 (w.heap.size + 1 + 1) 24 (.int .i64 0)) := (hb1.block _ b7.lt).trans b7
  have hz1 : w.heap.size + 3 ≤ W1.heap.size := by have := hb1.size; omega
  obtain ⟨e1, k1, hg1, hn1⟩ := getV_cases L id
  rw [hg1]
  have HG1 := Lib.hid hn1
  clear hb1 b4 b6 b7 hB0 hz0 hg1 hn1
  have hc4 := H41.out.cell
  gi_wp2_with fail
  refine ⟨trivial, ?_⟩
  generalize hX : World.alloc W1 _ = X
  have hbx : Below W1.heap.size W1 X := by rw [← hX]; exact (Below.refl _ _).alloc (Nat.le_refl _) _
  clear hX
  refine (callsIn_wide.2 (get_any _ L tt _ (HV.out.below (HB1.out.trans (hbx.mono HB1.out.size))))).mono ?_
  rintro e2 W2 ⟨rfl, hb2⟩
  dsimp only
  have hb12 := bchain hbx hb2
  have HB2 := Lib.hid (HB1.out.trans (hb12.mono HB1.out.size))
  have H42 : Hid (Boxed W2 w.heap.size 3 (.int .i64 id)) := (hb12.block _ H41.out.lt).trans H41.out
  have H62 : Hid (Boxed W2 (w.heap.size + 1) 22 (.slice none 0 0)) := (hb12.block _ H61.out.lt).trans H61.out
  have H72 : Hid (Boxed W2 (w.heap.size + 1 + 1) 24 (.int .i64 0)) := (hb12.block _ H71.out.lt).trans H71.out
  have hz2 : w.heap.size + 3 ≤ W2.heap.size := by have := hb12.size; omega
  generalize W1.heap.size = gx
  clear hb2 hbx hb12 hc4 HB1 H41 H61 H71 hz1
  obtain ⟨e2, k2, hg2, hn2⟩ := getV_cases L tt
  rw [hg2]
  have HG2 := Lib.hid hn2
  clear hg2 hn2
  have hc4 := H42.out.cell
  have hc6 := H62.out.cell
  have hf6 := H62.out.frozen
  have hc7 := H72.out.cell
  have hf7 := H72.out.frozen
  have hl4 := H42.out.lt
  have hl6 := H62.out.lt
  have hl7 := H72.out.lt
  by_cases hok : k1 = true ∧ k2 = true
  · obtain ⟨rfl, rfl⟩ := hok
    have HN1 : Hid (getE L id ≠ none) := fun h => by have := HG1.out.2 h; cases this
    have HN2 : Hid (getE L tt ≠ none) := fun h => by have := HG2.out.2 h; cases this
    have HJ : Hid (joinK (keys L) id tt = if (wayL L (L.length + 1) tt).any (fun e => e.id == id) then 17 else 0) := by
      rw [Hid, joinK, HK1.out, HK2.out, if_neg (by simp only [Option.map_eq_none_iff]; rintro (h | h); exact HN1.out h; exact HN2.out h), any_keys]
    clear HG1 HG2 HN1 HN2
    gi_wp2_with fail
    refine ⟨trivial, ?_⟩
    refine (callsIn_wide.2 (way_any A n c tt _)).mono ?_
    rintro e w' ⟨rfl, rfl⟩
    gi_wp2_with fail
    clear hc4 hc6 hf6 hc7 hf7 hl4 hl6 hl7
    generalize hX : World.alloc W2 _ = X
    have hbx : Below W2.heap.size W2 X := by rw [← hX]; exact (Below.refl _ _).alloc (Nat.le_refl _) _
    have hxz : X.heap.size = W2.heap.size + 1 := by rw [← hX]; simp
    clear hX
    generalize hW0 : World.alloc (World.alloc X _) _ = W0
    have hbx0 : Below X.heap.size X W0 := by rw [← hW0]; exact ((Below.refl _ _).alloc (Nat.le_refl _) _).alloc (by simp) _
    have b4 : Boxed W0 w.heap.size 3 (.int .i64 id) := (hbx0.block _ (by omega)).trans ((hbx.block _ H42.out.lt).trans H42.out)
    have b6 : Boxed W0 (w.heap.size + 1) 22 (.slice none 0 0) := (hbx0.block _ (by omega)).trans ((hbx.block _ H62.out.lt).trans H62.out)
    have b7 : Boxed W0 (w.heap.size + 1 + 1) 24 (.int .i64 0) := (hbx0.block _ (by omega)).trans ((hbx.block _ H72.out.lt).trans H72.out)
    have bl : Boxed W0 (W2.heap.size + 1) 22 (.slice A n c) := by rw [Boxed, ← hW0]; (repeat (first | exact heap_new' _ _ _ (by first | omega | rfl | (simp; done) | (simp; omega)) | refine (Below.heap_alloc _ _ _ (by first | omega | (simp; done) | (simp; omega))).trans ?_))
    have bi : Boxed W0 (W2.heap.size + 1 + 1) 3 (.int .i64 tt) := by rw [Boxed, ← hW0]; (repeat (first | exact heap_new' _ _ _ (by first | omega | rfl | (simp; done) | (simp; omega)) | refine (Below.heap_alloc _ _ _ (by first | omega | (simp; done) | (simp; omega))).trans ?_))
    have hB0 : Below w.heap.size w W0 := HB2.out.trans ((bchain hbx hbx0).mono HB2.out.size)
    have hz0 : W0.heap.size = W2.heap.size + 3 := by rw [← hW0]; simp [hxz]
    clear hW0 hbx0 hbx hxz H42 H62 H72
    obtain ⟨D, hD⟩ : ∃ D, W0.heap.size = D := ⟨_, rfl⟩
    have hD1 : D ≤ W2.heap.size + 3 := by omega
    have hD2 : W2.heap.size + 3 ≤ D := by omega
    clear hz0
    have hst := way_stops 2 (by omega) (W2.heap.size + 1) (W2.heap.size + 1 + 1) w.heap.size L A n c tt w W0 (Nat.le_refl _) hB0 (by omega) (by omega) (by omega) bl bi HV.out (by omega)
    rw [hD] at hst
    generalize W2.heap.size = g2 at hz2 bl bi hD1 hD2 hst ⊢
    have HM : Hid (joinK (keys L) id tt = 0 → joinE L id tt = setE L id tt) := fun h => by rw [joinE, if_pos h]
    have HM2 : Hid (joinK (keys L) id tt = 17 → joinE L id tt = []) := fun h => by rw [joinE, h]; rfl
    generalize Value.tuple #[.agg #[.int .i64 e1.id, .slice e1.f.A e1.f.n e1.f.c, .int .i64 e1.cls, .slice e1.a.A e1.a.n e1.a.c, .int .i64 e1.main, .slice e1.s.A e1.s.n e1.s.c, .slice e1.l.A e1.l.n e1.l.c, .slice e1.r.A e1.r.n e1.r.c], .bool true] = T1
    generalize Value.tuple #[.agg #[.int .i64 e2.id, .slice e2.f.A e2.f.n e2.f.c, .int .i64 e2.cls, .slice e2.a.A e2.a.n e2.a.c, .int .i64 e2.main, .slice e2.s.A e2.s.n e2.s.c, .slice e2.l.A e2.l.n e2.l.c, .slice e2.r.A e2.r.n e2.r.c], .bool true] = T2
    generalize (.agg #[.int .i64 e1.id, .slice e1.f.A e1.f.n e1.f.c, .int .i64 e1.cls, .slice e1.a.A e1.a.n e1.a.c, .int .i64 e1.main, .slice e1.s.A e1.s.n e1.s.c, .slice e1.l.A e1.l.n e1.l.c, .slice e1.r.A e1.r.n e1.r.c] : Value) = E1
    generalize (.agg #[.int .i64 e2.id, .slice e2.f.A e2.f.n e2.f.c, .int .i64 e2.cls, .slice e2.a.A e2.a.n e2.a.c, .int .i64 e2.main, .slice e2.s.A e2.s.n e2.s.c, .slice e2.l.A e2.l.n e2.l.c, .slice e2.r.A e2.r.n e2.r.c] : Value) = E2
    refine wpIn_rangeFunc_box (α := VE L) (D := D) hD rfl (by omega) (gf := 49) (lb := #[.pointer (some ⟨g2 + 1, 0, none⟩), .pointer (some ⟨g2 + 1 + 1, 0, none⟩)]) rfl trivial (enters_of Try.func49 (by kernel_rfl) rfl)
      (Bi := g2 + 1 + 1) (by omega) hst KW.tr (fun W r r' h => KW.put (D + 1) (by omega) (by omega) (by omega) (by omega) r r' h) (fun _ => rfl)
      (fun pre W => (((Boxed W w.heap.size 3 (.int .i64 id) ∧ Boxed W (w.heap.size + 1) 22 (.slice none 0 0)) ∧ Boxed W (w.heap.size + 1 + 1) 24 (.int .i64 0)) ∧ Below w.heap.size w W) ∧ ∀ e ∈ pre.map Subtype.val, (e.id == id) = false)
      (fun c pre W => (c = .ret ∧ ∃ x ∈ pre.map Subtype.val, (x.id == id) = true) ∧ ((Boxed W (w.heap.size + 1) 22 (.slice none 0 0) ∧ Boxed W (w.heap.size + 1 + 1) 24 (.int .i64 17)) ∧ Below w.heap.size w W))
      (((((Stays.boxed _ _ _ (by omega)).and (Stays.boxed _ _ _ (by omega))).and (Stays.boxed _ _ _ (by omega))).and (Stays.below (Nat.le_refl _) (by omega))).and (Stays.pure _))
      (fun c => (Stays.pure _).and (((Stays.boxed _ _ _ (by omega)).and (Stays.boxed _ _ _ (by omega))).and (Stays.below (Nat.le_refl _) (by omega))))
      ⟨⟨⟨⟨b4, b6⟩, b7⟩, hB0⟩, by simp⟩
      (fun x a' W => ∃ Bx, D + 1 < Bx ∧ EBlk W Bx x.1 ∧ a' = { tmps := #[.slice A n c, .int .i64 id, .int .i64 tt, undef, .pointer (some ⟨w.heap.size, 0, none⟩), undef, .pointer (some ⟨w.heap.size + 1, 0, none⟩), .pointer (some ⟨w.heap.size + 1 + 1, 0, none⟩), .pointer (some ⟨gx, 0, none⟩), .bool true, .pointer (some ⟨g2, 0, none⟩), .bool true, .pointer (some ⟨Bx, 0, none⟩),
        T1, .slice A n c, .int .i64 id, T1, E1, .bool true, T2, .slice A n c, .int .i64 tt, T2, E2, .bool true, .bool true, .bool false, .bool false, .bool true, .bool false, .bool false, .slice A n c, .int .i64 tt,
        .func (.func 49) #[] #[.pointer (some ⟨g2 + 1, 0, none⟩), .pointer (some ⟨g2 + 1 + 1, 0, none⟩)], .agg #[.int .i64 x.1.id, .slice x.1.f.A x.1.f.n x.1.f.c, .int .i64 x.1.cls, .slice x.1.a.A x.1.a.n x.1.a.c, .int .i64 x.1.main, .slice x.1.s.A x.1.s.n x.1.s.c, .slice x.1.l.A x.1.l.n x.1.l.c, .slice x.1.r.A x.1.r.n x.1.r.c], undef, undef, undef, undef, undef, undef, undef, undef], defers := [] })
      (fun x a' s X Y row hs hg hr => by obtain ⟨Bx, h1, h2, h3⟩ := hs; exact ⟨Bx, h1, Stays.ent (T := fun k => k = D + 1) Bx (fun _ => x.1) (by omega) s X Y row h2 hg hr, h3⟩)
      ?assign ?body ?done ?stop
    case assign =>
      rintro l pre x W K hl ⟨⟨⟨⟨i4, i6⟩, i7⟩, hB1⟩, i5⟩ hK
      have HK := Lib.hid hK
      have H5 := Lib.hid i5
      clear hK i5
      rw [zip_one]
      dsimp only
      simp only [List.setIfInBounds_toArray, List.set_cons_zero, List.set_cons_succ]
      gi_wp2
      refine HK.out _ _ ((Books.refl _ _).alloc hl _) ((KW.refl _ _ _ _ _).alloc hB1.size _) ⟨⟨⟨⟨i4.alloc _, i6.alloc _⟩, i7.alloc _⟩, hB1.alloc hB1.size _⟩, H5.out⟩ ⟨W.heap.size, hl, heap_alloc_new W _, rfl⟩
    case body =>
      rintro l pre x a' W hl ⟨⟨⟨⟨i4, i6⟩, i7⟩, hB1⟩, i5⟩ ⟨Bx, hBx, bX, rfl⟩ hlt
      obtain ⟨z0, z1, z2, z3, z4, z5, z6, z7, zl⟩ := bX.facts
      have hc4 := i4.cell
      have hc6 := i6.cell
      have hf6 := i6.frozen
      have hc7 := i7.cell
      have hf7 := i7.frozen
      have HB1 := Lib.hid hB1
      have H4 := Lib.hid i4
      have H6 := Lib.hid i6
      have H7 := Lib.hid i7
      have H5 := Lib.hid i5
      clear bX i4 i5 i6 i7 hB1
      cases hid : (x.1.id == id)
      · have H52 : Hid (∀ e ∈ (pre ++ [x]).map Subtype.val, (e.id == id) = false) := by
          intro e he
          rw [List.map_append, List.mem_append] at he
          rcases he with he | he
          · exact H5.out e he
          · simp at he; subst he; exact hid
        gi_wp2_with fail
        exact ⟨Books.refl _ _, KW.refl _ _ _ _ _, ⟨⟨⟨H4.out, H6.out⟩, H7.out⟩, HB1.out⟩, H52.out⟩
      · have H52 : Hid (∃ e ∈ (pre ++ [x]).map Subtype.val, (e.id == id) = true) := ⟨x.1, by simp, hid⟩
        gi_wp2_with fail
        exact ⟨((Books.refl _ _).set (by omega) _ _).set (by omega) _ _, ⟨rfl, H52.out⟩, ⟨(H6.out.set _).other (by omega) _, (H7.out.other (by omega) _).set _⟩, (HB1.out.setCell (p := ⟨w.heap.size + 1, 0, none⟩) (by simp) _).setCell (p := ⟨w.heap.size + 1 + 1, 0, none⟩) (by simp; omega) _⟩
    case done =>
      rintro ys W hys ⟨⟨⟨⟨i4, i6⟩, i7⟩, hB1⟩, i5⟩ hK
      rw [hys] at i5
      have HJ0 : Hid (joinK (keys L) id tt = 0) := by
        rw [Hid, HJ.out, if_neg]
        simp only [List.any_eq_true, not_exists, not_and]
        intro x hx
        rw [i5 x hx]
        simp
      have HE := Lib.hid (HM.out HJ0.out)
      have hc4 := i4.cell
      have HB1 := Lib.hid hB1
      have H6 := Lib.hid i6
      have H7 := Lib.hid i7
      have HK := Lib.hid hK
      have hl6 := i6.lt
      have hl7 := i7.lt
      have hDW := (Array.getElem?_eq_some_iff.1 hK).1
      clear i4 i5 i6 i7 hB1 hK hys
      gi_wp2_with fail
      refine ⟨trivial, ?_⟩
      refine (callsIn_wide.2 (set_any _ L id tt _ (HV.out.below HB1.out) HL.out)).mono ?_
      rintro e W2 ⟨⟨v2, rfl, ho⟩, hb⟩
      dsimp only
      have HO := Lib.hid ho
      obtain ⟨A2, n2, c2, rfl, _, _, _, _⟩ := ho.rd.op
      have H62 : Hid (Boxed W2 (w.heap.size + 1) 22 (.slice none 0 0)) := (hb.block _ hl6).trans H6.out
      have H72 : Hid (Boxed W2 (w.heap.size + 1 + 1) 24 (.int .i64 0)) := (hb.block _ hl7).trans H7.out
      have HK2 : Hid (W2.heap[D]? = some (.deferred (some []))) := (hb.block _ hDW).trans HK.out
      have HB2 := Lib.hid (HB1.out.trans (hb.mono HB1.out.size))
      have hc6 := H62.out.cell
      have hf6 := H62.out.frozen
      have hc7 := H72.out.cell
      have hf7 := H72.out.frozen
      have hW1 : D < W.heap.size := hDW
      have hzz : D < W2.heap.size := (Array.getElem?_eq_some_iff.1 HK2.out).1
      have hsz : W.heap.size ≤ W2.heap.size := hb.size
      clear ho hb hc4
      have HKX : Hid (((W2.setCell ⟨w.heap.size + 1, 0, none⟩ (.slice A2 n2 c2)).setCell ⟨w.heap.size + 1 + 1, 0, none⟩ (.int .i64 0)).heap[D]? = some (.deferred (some []))) :=
        (Below.heap_setCell _ ⟨w.heap.size + 1 + 1, 0, none⟩ _ D (by show D ≠ w.heap.size + 1 + 1; omega)).trans ((Below.heap_setCell _ ⟨w.heap.size + 1, 0, none⟩ _ D (by show D ≠ w.heap.size + 1; omega)).trans HK2.out)
      have HBX : Hid (Below w.heap.size w ((W2.setCell ⟨w.heap.size + 1, 0, none⟩ (.slice A2 n2 c2)).setCell ⟨w.heap.size + 1 + 1, 0, none⟩ (.int .i64 0))) := (HB2.out.setCell (p := ⟨w.heap.size + 1, 0, none⟩) (by simp) _).setCell (p := ⟨w.heap.size + 1 + 1, 0, none⟩) (by simp; omega) _
      have HOX : Hid (OwnV ((W2.setCell ⟨w.heap.size + 1, 0, none⟩ (.slice A2 n2 c2)).setCell ⟨w.heap.size + 1 + 1, 0, none⟩ (.int .i64 0)) w.heap.size (.slice A2 n2 c2) (setE L id tt)) := by
        refine own_base (base := W.heap.size) (own_setCell (own_setCell HO.out (fun e => ?_) _ _) (fun e => ?_) _ _) (by omega)
        · have := (World.ownsRow.lt HO.out _ e).1
          omega
        · have := (World.ownsRow.lt HO.out _ e).1
          omega
      have z6 : (((W2.setCell ⟨w.heap.size + 1, 0, none⟩ (.slice A2 n2 c2)).setCell ⟨w.heap.size + 1 + 1, 0, none⟩ (.int .i64 0)).putObj D (.deferred none)).cell? ⟨w.heap.size + 1, 0, none⟩ = some (.slice A2 n2 c2) := (show Boxed _ _ 22 _ from (World.putObj_heap_other (by omega)).trans ((H62.out.set _).other (by omega) _)).cell
      have z7 : (((W2.setCell ⟨w.heap.size + 1, 0, none⟩ (.slice A2 n2 c2)).setCell ⟨w.heap.size + 1 + 1, 0, none⟩ (.int .i64 0)).putObj D (.deferred none)).cell? ⟨w.heap.size + 1 + 1, 0, none⟩ = some (.int .i64 0) := (show Boxed _ _ 24 _ from (World.putObj_heap_other (by omega)).trans ((H72.out.other (by omega) _).set _)).cell
      have HFIN : Hid (Below w.heap.size w (((W2.setCell ⟨w.heap.size + 1, 0, none⟩ (.slice A2 n2 c2)).setCell ⟨w.heap.size + 1 + 1, 0, none⟩ (.int .i64 0)).putObj D (.deferred none))) := HBX.out.trans (belowK_b (w := w) (Nat.le_refl _) _ D _ _ (by omega) HKX.out rfl rfl)
      gi_wp2
      refine ⟨by simp, .inl ⟨_, _, rfl, run_takeDeferred HKX.out, ?_⟩⟩
      refine ⟨.tuple #[.slice A2 n2 c2, .int .i64 0], ?_, ⟨_, by rw [HJ0.out], ?_⟩, HFIN.out⟩
      · simp [results, Try.results24, go_sem, z6, z7]
      · rw [HE.out]
        exact ownsRow_putObj HOX.out _ HKX.out rfl
    case stop =>
      rintro c pre W hpre ⟨⟨rfl, x, hx, hxi⟩, ⟨h6, h7⟩, h8⟩ hK
      have HJ1 : Hid (joinK (keys L) id tt = 17) := by
        rw [Hid, HJ.out, if_pos]
        simp only [List.any_eq_true]
        exact ⟨x, hpre.subset hx, hxi⟩
      have HE := Lib.hid (HM2.out HJ1.out)
      have z6 : (W.putObj D (.deferred none)).cell? ⟨w.heap.size + 1, 0, none⟩ = some (.slice none 0 0) := (show Boxed _ _ 22 _ from (World.putObj_heap_other (by omega)).trans h6).cell
      have z7 : (W.putObj D (.deferred none)).cell? ⟨w.heap.size + 1 + 1, 0, none⟩ = some (.int .i64 17) := (show Boxed _ _ 24 _ from (World.putObj_heap_other (by omega)).trans h7).cell
      have HFIN : Hid (Below w.heap.size w (W.putObj D (.deferred none))) := h8.trans (belowK_b (w := w) (Nat.le_refl _) _ D _ _ (by omega) hK rfl rfl)
      have HK := Lib.hid hK
      clear h6 h7 h8 hK hpre
      gi_wp2
      refine ⟨by simp, .inl ⟨_, _, rfl, run_takeDeferred HK.out, ?_⟩⟩
      refine ⟨.tuple #[.slice none 0 0, .int .i64 17], ?_, ⟨_, by rw [HJ1.out], ?_⟩, HFIN.out⟩
      · simp [results, Try.results24, go_sem, z6, z7]
      · rw [HE.out]
        exact World.ownsRow_nil _ _ _ _
  · have HJ : Hid (joinK (keys L) id tt = 9) := by
      rw [Hid, joinK, HK1.out, HK2.out, if_pos]
      simp only [Option.map_eq_none_iff]
      cases k1
      · exact .inl (HG1.out.1 rfl)
      · cases k2
        · exact .inr (HG2.out.1 rfl)
        · exact absurd ⟨rfl, rfl⟩ hok
    have HJE : Hid (joinE L id tt = []) := by rw [Hid, joinE, HJ.out]; rfl
    cases k1
    · gi_wp2_with fail
      have z6 := (((H62.out.set (.slice none 0 0)).other (by omega : w.heap.size + 1 ≠ w.heap.size + 1 + 1) (.int .i64 9)).alloc (.cells #[.int .i64 e2.id, .slice e2.f.A e2.f.n e2.f.c, .int .i64 e2.cls, .slice e2.a.A e2.a.n e2.a.c, .int .i64 e2.main, .slice e2.s.A e2.s.n e2.s.c, .slice e2.l.A e2.l.n e2.l.c, .slice e2.r.A e2.r.n e2.r.c] 34)).cell
      have z7 := (((H72.out.other (by omega : w.heap.size + 1 + 1 ≠ w.heap.size + 1) (.slice none 0 0)).set (.int .i64 9)).alloc (.cells #[.int .i64 e2.id, .slice e2.f.A e2.f.n e2.f.c, .int .i64 e2.cls, .slice e2.a.A e2.a.n e2.a.c, .int .i64 e2.main, .slice e2.s.A e2.s.n e2.s.c, .slice e2.l.A e2.l.n e2.l.c, .slice e2.r.A e2.r.n e2.r.c] 34)).cell
      refine ⟨.tuple #[.slice none 0 0, .int .i64 9], ?_, ⟨_, by rw [HJ.out], ?_⟩, ?_⟩
      · simp [results, Try.results24, go_sem, z6, z7]
      · rw [HJE.out]
        exact World.ownsRow_nil _ _ _ _
      · exact ((HB2.out.setCell (p := ⟨w.heap.size + 1, 0, none⟩) (by simp) _).setCell (p := ⟨w.heap.size + 1 + 1, 0, none⟩) (by simp; omega) _).alloc (by simp; omega) _
    · cases k2
      · gi_wp2_with fail
        have z6 := (((H62.out.set (.slice none 0 0)).other (by omega : w.heap.size + 1 ≠ w.heap.size + 1 + 1) (.int .i64 9)).alloc (.cells #[.int .i64 e2.id, .slice e2.f.A e2.f.n e2.f.c, .int .i64 e2.cls, .slice e2.a.A e2.a.n e2.a.c, .int .i64 e2.main, .slice e2.s.A e2.s.n e2.s.c, .slice e2.l.A e2.l.n e2.l.c, .slice e2.r.A e2.r.n e2.r.c] 34)).cell
        have z7 := (((H72.out.other (by omega : w.heap.size + 1 + 1 ≠ w.heap.size + 1) (.slice none 0 0)).set (.int .i64 9)).alloc (.cells #[.int .i64 e2.id, .slice e2.f.A e2.f.n e2.f.c, .int .i64 e2.cls, .slice e2.a.A e2.a.n e2.a.c, .int .i64 e2.main, .slice e2.s.A e2.s.n e2.s.c, .slice e2.l.A e2.l.n e2.l.c, .slice e2.r.A e2.r.n e2.r.c] 34)).cell
        refine ⟨.tuple #[.slice none 0 0, .int .i64 9], ?_, ⟨_, by rw [HJ.out], ?_⟩, ?_⟩
        · simp [results, Try.results24, go_sem, z6, z7]
        · rw [HJE.out]
          exact World.ownsRow_nil _ _ _ _
        · exact ((HB2.out.setCell (p := ⟨w.heap.size + 1, 0, none⟩) (by simp) _).setCell (p := ⟨w.heap.size + 1 + 1, 0, none⟩) (by simp; omega) _).alloc (by simp; omega) _
      · exact absurd ⟨rfl, rfl⟩ hok
end Go.Proofs.Ytnjniganlielcaa
