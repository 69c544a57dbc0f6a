/-
  The last entry of a way, and how many there are on it.
-/
import Derived.Test.YtnjniganlielcaaV3
import Derived.Test.YtnjniganlielcaaRegR
namespace Go.Proofs.Ytnjniganlielcaa
open Go.ChangeShapes Go.WideShapes Go.ChangeAt Go.RowKit Go.Shelf
attribute [local go_sem] Oper.semAt_some
theorem zip_one (p : Tmp) (v : Value) (T : Array Value) : ((#[p].zip #[v]).foldl (fun t (p, v) => t.setIfInBounds p v) T) = T.setIfInBounds p v := by simp
def endE (l : List EV) : EV := l.getLast?.getD evz
theorem endE_snoc (l : List EV) (x : EV) : endE (l ++ [x]) = x := by simp [endE]
theorem Stays.boxed {β : Type} {T : Nat → Prop} (b : Nat) (t : TypeId) (f : β → Value) (hb : ¬ T b) : Stays T (fun s W => Boxed W b t (f s)) := fun _ _ _ _ hs hg hr => hs.kept hg (fun e => hb (hr b e.symm))
theorem Stays.ent {β : Type} {T : Nat → Prop} (b : Nat) (f : β → EV) (hb : ¬ T b) : Stays T (fun s W => EBlk W b (f s)) := fun _ _ _ _ hs hg hr =>
  (hg.block b hs.lt (fun e => hb (hr b e.symm))).trans hs
theorem Stays.big {β : Type} {T : Nat → Prop} (m : Nat) : Stays T (fun (_ : β) W => m ≤ W.heap.size) := fun _ _ _ _ hs hg _ => Nat.le_trans hs hg.size
theorem wayL_len (L : List EV) : ∀ (k : Nat) (id : Int), (wayL L k id).length ≤ k
  | 0, _ => by simp [wayL]
  | k + 1, id => by
    rw [wayL]
    split
    · simp
    · split
      · simp
      · simpa using wayL_len L k _
/-- where the way of an entry lies when its maker has run, and D -/
def WayAt (W : World) (b : Nat) (A : Option Addr) (n c : Nat) (id : Int) : Prop := Boxed W b 22 (.slice A n c) ∧ Boxed W (b + 1) 3 (.int .i64 id)
theorem wayAt_new (w : World) (A : Option Addr) (n c : Nat) (id : Int) : WayAt ((w.alloc (.cells #[.slice A n c] 22)).alloc (.cells #[.int .i64 id] 3)) w.heap.size A n c id := by
  refine ⟨(Boxed.new w _ _).alloc _, ?_⟩
  have := Boxed.new (w.alloc (.cells #[.slice A n c] 22)) 3 (.int .i64 id)
  rw [World.size_alloc] at this
  exact this
set_option maxHeartbeats 4000000 in
set_option maxRecDepth 100000 in
theorem last_any (v : Value) (L : List EV) (id : Int) (w : World) (hv : RdV w v L) (hl : L.length ≤ 100000) :
    Calls Try.prog 33 #[v, .int .i64 id] w fun e w' => e = .returned (.tuple #[(endE (wayL L (L.length + 1) id)).val, .int .i64 ((wayL L (L.length + 1) id).length : Int)]) ∧ Below w.heap.size w w' := by
  obtain ⟨A, n, c, rfl, h1, h2, HN, _⟩ := hv.op
  have HV := Lib.hid hv
  have hln := hl
  rw [HN.out] at hln
  clear hv hl
  obtain ⟨E, hE⟩ : ∃ E, endE (wayL L (L.length + 1) id) = E := ⟨_, rfl⟩
  obtain ⟨N, hN⟩ : ∃ N, (wayL L (L.length + 1) id).length = N := ⟨_, rfl⟩
  rw [hE, hN]
  have HEE := Lib.hid hE
  have HNN := Lib.hid hN
  clear hE hN
  refine (callsIn_wide (n := 3)).1 ?_
  refine callsIn_of_wp_marks Try.func33 rfl trivial ?_ rfl
  simp only [Try.ntmps33, List.size_toArray, List.length_cons, List.length_nil, Nat.reduceAdd, Nat.reduceSub, Array.replicate_succ, Array.replicate_zero, List.push_toArray, List.append_toArray, List.nil_append, List.cons_append]
  gi_wp2_with fail
  refine ⟨trivial, ?_⟩
  refine (callsIn_wide.2 (way_any A n c id _)).mono ?_
  rintro e w' ⟨rfl, rfl⟩
  gi_wp2_with fail
  generalize hW0 : World.alloc (World.alloc (World.alloc (World.alloc (World.alloc w _) _) _) _) _ = W0
  have b4 : EBlk W0 w.heap.size evz := by rw [EBlk, ← hW0]; (repeat (first | exact heap_new' _ _ _ (by first | rfl | (simp; done) | (simp; omega)) | refine (Below.heap_alloc _ _ _ (by first | omega | (simp; done) | (simp; omega))).trans ?_))
  have b6 : EBlk W0 (w.heap.size + 1) evz := by rw [EBlk, ← hW0]; (repeat (first | exact heap_new' _ _ _ (by first | rfl | (simp; done) | (simp; omega)) | refine (Below.heap_alloc _ _ _ (by first | omega | (simp; done) | (simp; omega))).trans ?_))
  have b7 : Boxed W0 (w.heap.size + 1 + 1) 3 (.int .i64 0) := by rw [Boxed, ← hW0]; (repeat (first | exact heap_new' _ _ _ (by first | rfl | (simp; done) | (simp; omega)) | refine (Below.heap_alloc _ _ _ (by first | omega | (simp; done) | (simp; omega))).trans ?_))
  have bl : Boxed W0 (w.heap.size + 1 + 1 + 1) 22 (.slice A n c) := by rw [Boxed, ← hW0]; (repeat (first | exact heap_new' _ _ _ (by first | rfl | (simp; done) | (simp; omega)) | refine (Below.heap_alloc _ _ _ (by first | omega | (simp; done) | (simp; omega))).trans ?_))
  have bi : Boxed W0 (w.heap.size + 1 + 1 + 1 + 1) 3 (.int .i64 id) := by rw [Boxed, ← hW0]; (repeat (first | exact heap_new' _ _ _ (by first | rfl | (simp; done) | (simp; omega)) | refine (Below.heap_alloc _ _ _ (by first | omega | (simp; done) | (simp; omega))).trans ?_))
  have hB0 : Below w.heap.size w W0 := by rw [← hW0]; repeat (first | assumption | exact Below.refl _ _ | refine Below.alloc ?_ (by first | omega | (simp; done) | (simp; omega)) _ | refine Below.drew ?_ | refine below_drewN ?_ _ | refine Below.setCell ?_ (by first | omega | (simp; done) | (simp; omega)) _)
  have hz0 : W0.heap.size = w.heap.size + 5 := by rw [← hW0]; simp
  clear hW0
  obtain ⟨D, hD⟩ : ∃ D, W0.heap.size = D := ⟨_, rfl⟩
  have hD1 : D ≤ w.heap.size + 5 := by omega
  have hD2 : w.heap.size + 5 ≤ D := by omega
  clear hz0
  have hst := way_stops 2 (by omega) (w.heap.size + 1 + 1 + 1) (w.heap.size + 1 + 1 + 1 + 1) w.heap.size L A n c id w W0 (Nat.le_refl _) hB0 (by omega) (by omega) (by omega) bl bi HV.out (by omega)
  rw [hD] at hst
  refine wpIn_rangeFunc_box (α := VE L) (D := D) hD rfl (by omega) (gf := 49) (lb := #[.pointer (some ⟨w.heap.size + 1 + 1 + 1, 0, none⟩), .pointer (some ⟨w.heap.size + 1 + 1 + 1 + 1, 0, none⟩)]) rfl trivial (enters_of Try.func49 (by kernel_rfl) rfl)
    (Bi := w.heap.size + 1 + 1 + 1 + 1) (by omega) hst KW.tr (fun W r r' h => KW.put (D + 1) (by omega) (by omega) (by omega) (by omega) r r' h) (fun _ => rfl)
    (fun pre W => ((Boxed W (w.heap.size + 1 + 1) 3 (.int .i64 (pre.length : Int)) ∧ EBlk W (w.heap.size + 1) (endE (pre.map Subtype.val))) ∧ EBlk W w.heap.size evz) ∧ Below w.heap.size w W)
    (fun _ _ _ => False)
    ((((Stays.boxed _ _ _ (by omega)).and (Stays.ent _ _ (by omega))).and (Stays.ent _ _ (by omega))).and (Stays.below (Nat.le_refl _) (by omega)))
    (fun _ _ _ _ _ hs _ _ => hs)
    ⟨⟨⟨b7, b6⟩, b4⟩, hB0⟩
    (fun x a' W => ∃ Bx, D + 1 < Bx ∧ EBlk W Bx x.1 ∧ a' = { tmps := #[.slice A n c, .int .i64 id, undef, undef, .pointer (some ⟨w.heap.size, 0, none⟩), .int .i64 0, .pointer (some ⟨w.heap.size + 1, 0, none⟩), .pointer (some ⟨w.heap.size + 1 + 1, 0, none⟩), .pointer (some ⟨Bx, 0, none⟩), .slice A n c, .int .i64 id,
      .func (.func 49) #[] #[.pointer (some ⟨w.heap.size + 1 + 1 + 1, 0, none⟩), .pointer (some ⟨w.heap.size + 1 + 1 + 1 + 1, 0, none⟩)], .agg #[.int .i64 x.1.id, .slice x.1.f.A x.1.f.n x.1.f.c, .int .i64 x.1.cls, .slice x.1.a.A x.1.a.n x.1.a.c, .int .i64 x.1.main, .slice x.1.s.A x.1.s.n x.1.s.c, .slice x.1.l.A x.1.l.n x.1.l.c, .slice x.1.r.A x.1.r.n x.1.r.c], undef, undef, undef, undef, undef], defers := [] })
    (fun x a' s X Y row hs hg hr => by obtain ⟨Bx, h1, h2, h3⟩ := hs; exact ⟨Bx, h1, Stays.ent (T := fun k => k = D + 1) Bx (fun _ => x.1) (by omega) s X Y row h2 hg hr, h3⟩)
    ?assign ?body ?done ?stop
  case assign =>
    rintro l pre x W K hl ⟨⟨⟨i7, i6⟩, i4⟩, hB1⟩ hK
    have HK := Lib.hid hK
    clear hK
    rw [zip_one]
    simp only [List.setIfInBounds_toArray, List.set_cons_zero, List.set_cons_succ]
    gi_wp2
    refine HK.out _ _ ((Books.refl _ _).alloc hl _) ((KW.refl _ _ _ _ _).alloc hB1.size _) ⟨⟨⟨i7.alloc _, i6.below (by repeat (first | assumption | exact Below.refl _ _ | refine Below.alloc ?_ (by first | omega | (simp; done) | (simp; omega)) _ | refine Below.drew ?_ | refine below_drewN ?_ _ | refine Below.setCell ?_ (by first | omega | (simp; done) | (simp; omega)) _))⟩, i4.below (by repeat (first | assumption | exact Below.refl _ _ | refine Below.alloc ?_ (by first | omega | (simp; done) | (simp; omega)) _ | refine Below.drew ?_ | refine below_drewN ?_ _ | refine Below.setCell ?_ (by first | omega | (simp; done) | (simp; omega)) _))⟩, hB1.alloc hB1.size _⟩ ⟨W.heap.size, hl, heap_alloc_new W _, rfl⟩
  case body =>
    rintro l pre x a' W hl ⟨⟨⟨i7, i6⟩, i4⟩, hB1⟩ ⟨Bx, hBx, bX, rfl⟩ hlt
    have hpl : pre.length ≤ 100001 := by have := HN.out; omega
    have HS : Hid (∀ w' : World, EBlk w' Bx x.1 ∧ Boxed w' (w.heap.size + 1 + 1) 3 (.int .i64 (pre.length : Int)) → (w'.cell? ⟨Bx, 0, none⟩ = some (.int .i64 x.1.id) ∧ w'.cell? ⟨Bx, 1, none⟩ = some (.slice x.1.f.A x.1.f.n x.1.f.c) ∧ w'.cell? ⟨Bx, 2, none⟩ = some (.int .i64 x.1.cls) ∧ w'.cell? ⟨Bx, 3, none⟩ = some (.slice x.1.a.A x.1.a.n x.1.a.c) ∧
        w'.cell? ⟨Bx, 4, none⟩ = some (.int .i64 x.1.main) ∧ w'.cell? ⟨Bx, 5, none⟩ = some (.slice x.1.s.A x.1.s.n x.1.s.c) ∧ w'.cell? ⟨Bx, 6, none⟩ = some (.slice x.1.l.A x.1.l.n x.1.l.c) ∧ w'.cell? ⟨Bx, 7, none⟩ = some (.slice x.1.r.A x.1.r.n x.1.r.c) ∧ Bx < w'.heap.size) ∧ w'.cell? ⟨w.heap.size + 1 + 1, 0, none⟩ = some (.int .i64 (pre.length : Int))) := by
      rintro w' ⟨h, k⟩
      exact ⟨h.facts, k.cell⟩
    have HX := Lib.hid bX
    have H7 := Lib.hid i7
    have H6 := Lib.hid i6
    have H4 := Lib.hid i4
    have HB1 := Lib.hid hB1
    clear bX i7 i6 i4 hB1
    have hwr : IntKind.i64.wrap ((pre.length : Int) + 1) = (pre.length : Int) + 1 := IntWalk.i64_in _ (by omega)
    gi_wp2_with fail
    refine wpIn_region_mix 4 [0, 1, 2, 3] [] [(true, 0), (true, 1), (true, 2), (false, 3), (false, 4)] (fun w' => EBlk w' Bx x.1 ∧ Boxed w' (w.heap.size + 1 + 1) 3 (.int .i64 (pre.length : Int))) (by kernel_rfl) (by kernel_rfl) (by kernel_rfl) (by rintro ⟨a, w, h⟩; exact h) ?_
    rintro Dw hDw
    have HD : Hid (Below W.heap.size W Dw) := by rw [hDw]; exact (Below.refl _ _).drew
    have HDW : Hid (∀ k : Nat, Dw.heap[k]? = W.heap[k]?) := by rw [hDw]; intro k; rfl
    clear hDw
    have HX := Lib.hid (HX.out.below HD.out)
    have H7 : Hid (Boxed Dw (w.heap.size + 1 + 1) 3 (.int .i64 (pre.length : Int))) := (HDW.out _).trans H7.out
    have H6 := Lib.hid (H6.out.below HD.out)
    refine ⟨⟨HX.out, H7.out⟩, ?_⟩
    iterate 3 (refine wpMix_q (v := ?_) rfl rfl (fun w' hS => ?_) ?_; rotate_left; (focus ((try obtain ⟨⟨s0, s1, s2, s3, s4, s5, s6, s7, s8⟩, t0⟩ := HS.out _ (hS rfl)); clear hS; go_simp; try with_reducible rfl; done)); (try simp only [Act.put, List.setIfInBounds_toArray, List.set_cons_zero, List.set_cons_succ]))
    clear hwr
    obtain ⟨y0, y1, y2, y3, y4, y5, y6, y7, hl6⟩ := H6.out.facts
    have hf := H6.out.free
    refine wpMix_e rfl rfl (fun K hK => ?_)
    go_simp
    clear y0 y1 y2 y3 y4 y5 y6 y7 hf
    generalize hE : World.setCell _ _ _ = E
    have hE' : put8 Dw (w.heap.size + 1) x.1 = E := by rw [← hE]; simp only [put8]
    clear hE
    have HE := Lib.hid hE'
    clear hE'
    have HX2 : Hid (EBlk E Bx x.1) := by rw [Hid, EBlk, ← HE.out, put8_other _ _ _ _ (by omega)]; exact HX.out
    have H72 : Hid (Boxed E (w.heap.size + 1 + 1) 3 (.int .i64 (pre.length : Int))) := by rw [Hid, Boxed, ← HE.out, put8_other _ _ _ _ (by omega)]; exact H7.out
    have H62 : Hid (EBlk E (w.heap.size + 1) x.1) := by rw [Hid, ← HE.out]; exact H6.out.put _
    refine hK.out _ _ (fun _ => ⟨HX2.out, H72.out⟩) ?_
    clear hK K
    (try simp only [Act.put, List.setIfInBounds_toArray, List.set_cons_zero, List.set_cons_succ])
    have c7 := H72.out.cell
    have f7 := H72.out.frozen
    refine wpMix_e rfl rfl (fun K hK => ?_)
    go_simp
    refine hK.out _ _ (fun h => absurd h (by decide)) ?_
    clear hK K
    (try simp only [Act.put, List.setIfInBounds_toArray, List.set_cons_zero, List.set_cons_succ])
    refine wpMix_nil ?_
    refine NoPanic.normal ?_
    have oth : ∀ k : Nat, k ≠ w.heap.size + 1 → k ≠ w.heap.size + 1 + 1 → (E.setCell ⟨w.heap.size + 1 + 1, 0, none⟩ (.int .i64 ((pre.length : Int) + 1))).heap[k]? = W.heap[k]? := fun k h1 h2 => by
      rw [Below.heap_setCell _ _ _ k h2, ← HE.out, put8_other _ _ _ _ h1]
      exact HDW.out k
    have hbw : Below w.heap.size W (E.setCell ⟨w.heap.size + 1 + 1, 0, none⟩ (.int .i64 ((pre.length : Int) + 1))) := by
      refine Below.setCell (p := ⟨w.heap.size + 1 + 1, 0, none⟩) ?_ (by show w.heap.size ≤ w.heap.size + 1 + 1; omega) _
      rw [← HE.out]
      exact put8_below (HD.out.mono HB1.out.size) (by omega) _
    gi_wp2_with fail
    refine ⟨⟨oth _ (by omega) (by omega), oth _ (by omega) (by omega)⟩, ⟨hbw, fun k _ hk => oth k (by omega) (by omega)⟩, ⟨⟨?_, ?_⟩, ?_⟩, HB1.out.trans hbw⟩
    · rw [show (((pre ++ [x]).length : Nat) : Int) = (pre.length : Int) + 1 by simp]
      exact H72.out.set _
    · rw [List.map_append, List.map_cons, List.map_nil, endE_snoc]
      exact (Below.heap_setCell _ _ _ _ (by show w.heap.size + 1 ≠ w.heap.size + 1 + 1; omega)).trans H62.out
    · exact (oth _ (by omega) (by omega)).trans H4.out
  case done =>
    rintro ys W hys ⟨⟨⟨i7, i6⟩, i4⟩, hB1⟩ hK
    have hlen := congrArg List.length hys
    rw [List.length_map] at hlen
    rw [hlen] at i7
    rw [hys] at i6
    rw [HNN.out] at i7
    rw [HEE.out] at i6
    have H7 := Lib.hid i7
    have H6 := Lib.hid i6
    have H4 := Lib.hid i4
    have HB1 := Lib.hid hB1
    have HK := Lib.hid hK
    clear i7 i6 i4 hB1 hK hys hlen ys
    gi_wp2_with fail
    refine wpIn_wide.2 ?_
    have HS : Hid (∀ w' : World, EBlk w' (w.heap.size + 1) E ∧ Boxed w' (w.heap.size + 1 + 1) 3 (.int .i64 (N : Int)) → (w'.cell? ⟨w.heap.size + 1, 0, none⟩ = some (.int .i64 E.id) ∧ w'.cell? ⟨w.heap.size + 1, 1, none⟩ = some (.slice E.f.A E.f.n E.f.c) ∧ w'.cell? ⟨w.heap.size + 1, 2, none⟩ = some (.int .i64 E.cls) ∧ w'.cell? ⟨w.heap.size + 1, 3, none⟩ = some (.slice E.a.A E.a.n E.a.c) ∧
        w'.cell? ⟨w.heap.size + 1, 4, none⟩ = some (.int .i64 E.main) ∧ w'.cell? ⟨w.heap.size + 1, 5, none⟩ = some (.slice E.s.A E.s.n E.s.c) ∧ w'.cell? ⟨w.heap.size + 1, 6, none⟩ = some (.slice E.l.A E.l.n E.l.c) ∧ w'.cell? ⟨w.heap.size + 1, 7, none⟩ = some (.slice E.r.A E.r.n E.r.c) ∧ w.heap.size + 1 < w'.heap.size) ∧ w'.cell? ⟨w.heap.size + 1 + 1, 0, none⟩ = some (.int .i64 (N : Int))) := by
      rintro w' ⟨h, k⟩
      exact ⟨h.facts, k.cell⟩
    refine wp_region_ord 3 [0, 1, 2] [] [0, 1] [2, 3] (fun w' => EBlk w' (w.heap.size + 1) E ∧ Boxed w' (w.heap.size + 1 + 1) 3 (.int .i64 (N : Int))) (by kernel_rfl) (by kernel_rfl) ?_
    rintro Dw hDw
    have HDW : Hid (∀ k : Nat, Dw.heap[k]? = W.heap[k]?) := by rw [hDw]; intro k; rfl
    have HD : Hid (Below w.heap.size w Dw) := by rw [hDw]; exact HB1.out.drew
    clear hDw
    have H7 : Hid (Boxed Dw (w.heap.size + 1 + 1) 3 (.int .i64 (N : Int))) := (HDW.out _).trans H7.out
    have H6 : Hid (EBlk Dw (w.heap.size + 1) E) := (HDW.out _).trans H6.out
    have H4 : Hid (EBlk Dw w.heap.size evz) := (HDW.out _).trans H4.out
    have HK : Hid (Dw.heap[D]? = some (.deferred (some []))) := (HDW.out _).trans HK.out
    refine ⟨⟨H6.out, H7.out⟩, ?_⟩
    iterate 2 (refine wpHead_cons (v := ?_) rfl rfl (fun w' hS => ?_) ?_; rotate_left; (focus ((try obtain ⟨⟨s0, s1, s2, s3, s4, s5, s6, s7, s8⟩, t0⟩ := HS.out _ (hS rfl)); clear hS; go_simp; try with_reducible rfl; done)); (try simp only [Act.put, List.setIfInBounds_toArray, List.set_cons_zero, List.set_cons_succ]))
    refine wpHead_nil ?_
    obtain ⟨y0, y1, y2, y3, y4, y5, y6, y7, hl6⟩ := H4.out.facts
    have hf := H4.out.free
    refine wpTail_cons rfl rfl (fun K hK => ?_)
    go_simp
    clear y0 y1 y2 y3 y4 y5 y6 y7 hf
    generalize hX : World.setCell _ _ _ = X
    have hX' : put8 Dw w.heap.size E = X := by rw [← hX]; simp only [put8]
    clear hX
    have HX := Lib.hid hX'
    clear hX'
    refine hK.out _ _ (fun _ => ⟨by rw [EBlk, ← HX.out, put8_other _ _ _ _ (by omega)]; exact H6.out, by rw [Boxed, ← HX.out, put8_other _ _ _ _ (by omega)]; exact H7.out⟩) ?_
    clear hK K
    (try simp only [Act.put, List.setIfInBounds_toArray, List.set_cons_zero, List.set_cons_succ])
    refine wpTail_cons rfl rfl (fun K hK => ?_)
    go_simp
    refine hK.out _ _ (fun h => absurd h (by decide)) ?_
    clear hK K
    (try simp only [Act.put, List.setIfInBounds_toArray, List.set_cons_zero, List.set_cons_succ])
    refine wpTail_nil ?_
    refine NoPanic.normal ?_
    have HXB : Hid (Below w.heap.size w X) := by rw [Hid, ← HX.out]; exact put8_below HD.out (by omega) _
    have HXK : Hid (X.heap[D]? = some (.deferred (some []))) := by rw [Hid, ← HX.out, put8_other _ _ _ _ (by omega)]; exact HK.out
    have HXE : Hid (EBlk X w.heap.size E) := by rw [Hid, ← HX.out]; exact H4.out.put _
    clear HX
    obtain ⟨z0, z1, z2, z3, z4, z5, z6, z7, zl⟩ := (show EBlk (X.putObj D (.deferred none)) w.heap.size E from (World.putObj_heap_other (by omega)).trans HXE.out).facts
    have HFIN : Hid (Below w.heap.size w (X.putObj D (.deferred none))) := HXB.out.trans (belowK_b (w := w) (Nat.le_refl _) X D _ _ (by omega) HXK.out rfl rfl)
    gi_wp2
    refine ⟨by simp, .inl ⟨_, _, rfl, run_takeDeferred HXK.out, ?_⟩⟩
    refine ⟨.tuple #[E.val, .int .i64 (N : Int)], ?_, rfl, HFIN.out⟩
    simp [results, Try.results33, go_sem, z0, z1, z2, z3, z4, z5, z6, z7, EV.val]
  case stop =>
    rintro c pre W _ h _
    exact h.elim
end Go.Proofs.Ytnjniganlielcaa
