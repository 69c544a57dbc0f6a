/-
  Senses of variants.
-/
import Derived.Test.YtnjniganlielcaaV9
namespace Go.Proofs.Ytnjniganlielcaa
open Go.ChangeShapes Go.WideShapes Go.ChangeAt Go.RowKit Go.Shelf
attribute [local go_sem] Oper.semAt_some
theorem flat_inj {α : Type} (f : α → List Value) (n : Nat) (hn : 0 < n) (hf : ∀ a, (f a).length = n) (hi : ∀ a b, f a = f b → a = b) : ∀ (l m : List α), l.flatMap f = m.flatMap f → l = m
  | [], [], _ => rfl
  | [], b :: m, h => by have := congrArg List.length h; simp [hf] at this; omega
  | a :: l, [], h => by have := congrArg List.length h; simp [hf] at this; omega
  | a :: l, b :: m, h => by
    rw [List.flatMap_cons, List.flatMap_cons] at h
    obtain ⟨h1, h2⟩ := List.append_inj h (by rw [hf, hf])
    rw [hi _ _ h1, flat_inj f n hn hf hi l m h2]
theorem rd_unique {w : World} {size n : Nat} {v : Value} {xs ys : List Value} (h : Rd w size v n xs) (k : Rd w size v n ys) : xs = ys := by
  obtain ⟨A, c, rfl, _, _, h3, h4⟩ := h
  obtain ⟨A', c', he, _, _, k3, k4⟩ := k
  cases he
  rcases Nat.eq_zero_or_pos n with h0 | h0
  · subst h0
    exact (List.eq_nil_of_length_eq_zero (by simpa using h3)).trans (List.eq_nil_of_length_eq_zero (by simpa using k3)).symm
  · obtain ⟨b, off, hA, _, hc⟩ := h4 h0
    obtain ⟨b', off', hA', _, kc⟩ := k4 h0
    rw [hA] at hA'
    cases hA'
    refine List.ext_getElem (by omega) fun i h1 h2 => ?_
    have e1 := hc i _ (List.getElem?_eq_getElem h1)
    have e2 := kc i _ (List.getElem?_eq_getElem h2)
    rw [e1] at e2
    exact Option.some.inj e2
theorem rdSe_unique {w : World} {v : Value} {l m : List PSe} (h : RdSe w v l) (k : RdSe w v m) : l = m := by
  obtain ⟨A, n, c, rfl, _, _, HN, _⟩ := h.op
  obtain ⟨A', n', c', he, _, _, HN', _⟩ := k.op
  cases he
  unfold RdSe at h k
  rw [HN.out] at h
  rw [HN'.out] at k
  exact flat_inj seCells 2 (by decide) (fun _ => rfl) (fun a b hab => by cases a; cases b; simp [seCells] at hab; simp [hab]) l m (rd_unique h k)
theorem Stays.owns {β : Type} {T : Nat → Prop} {base size : Nat} {e : TypeId} {v : Value} {n : Nat} {xs : List Value} (hT : ∀ k, T k → k < base) : Stays T (fun (_ : β) W => W.ownsRow base e size v n xs) := fun _ A _ row hs hg hr =>
  hs.kept hg (by
    rcases row with _ | k
    · rcases hv : v.ownBlock with _ | b
      · exact .inl rfl
      · exact .inr (by simp)
    · refine .inr fun e' => ?_
      have := (World.ownsRow.lt hs k e').1
      have := hT k (hr k rfl)
      omega)
def hasS (e : EV) : Bool := decide (0 < e.s.n)
def pS (e : PE) : Bool := decide (0 < e.senses.length)
set_option maxHeartbeats 4000000 in
set_option maxRecDepth 100000 in
theorem senses_any (v : Value) (P : List PE) (id : Int) (w : World) (hv : RdP w v P) (hl : P.length ≤ 100000) (hsl : ∀ p, p ∈ P → p.senses.length ≤ 100000) :
    Calls Try.prog 22 #[v, .int .i64 id] w fun e w' => (∃ v', e = .returned v' ∧ RdSe w' v' (sensesP P id)) ∧ Below w.heap.size w w' := by
  obtain ⟨L, hv, hdp⟩ := hv
  obtain ⟨A, n, c, rfl, h1, h2, HN, _⟩ := hv.op
  have HV := Lib.hid hv
  have HDP := Lib.hid hdp
  have HSL := Lib.hid hsl
  have hln := hl
  rw [← hdp.length, HN.out] at hln
  have HPL : Hid (P.length = n) := hdp.length.symm.trans HN.out
  clear hv hl hdp hsl
  have HDS : Hid (∀ e ∈ L, ∃ p ∈ P, DpE w e p) := fun e he => HDP.out.mem he
  have HSEN : Hid (∀ (pre : List EV) (x : EV) (l : List PSe), pre <+: wayL L (L.length + 1) id → pre.find? hasS = some x → RdSe w (.slice x.s.A x.s.n x.s.c) l → sensesP P id = l) := by
    rintro pre x l ⟨r, hr⟩ hf hrd
    have hww := way_all HDP.out (L.length + 1) id
    rw [HDP.out.length] at hww
    have hfx : (wayL L (P.length + 1) id).find? hasS = some x := by rw [← HDP.out.length, ← hr, List.find?_append, hf]; rfl
    rcases hww.find (f := hasS) (g := pS) (fun a b k => by rw [hasS, pS, k.ns]) with ⟨h3, _⟩ | ⟨a, b, h3, h4, h5⟩
    · rw [h3] at hfx; cases hfx
    · rw [h3] at hfx
      cases hfx
      rw [sensesP, show (fun e : PE => decide (0 < e.senses.length)) = pS from rfl, h4]
      exact rdSe_unique h5.s hrd
  have HNIL : Hid ((∀ e ∈ wayL L (L.length + 1) id, e.s.n = 0) → sensesP P id = []) := by
    intro h
    have hww := way_all HDP.out (L.length + 1) id
    have hfx : (wayL L (L.length + 1) id).find? hasS = none := by
      rw [List.find?_eq_none]
      intro x hx
      simp [hasS, h x hx]
    rw [HDP.out.length] at hww hfx
    rcases hww.find (f := hasS) (g := pS) (fun a b k => by rw [hasS, pS, k.ns]) with ⟨_, h3⟩ | ⟨a, b, h3, h4, h5⟩
    · rw [sensesP, show (fun e : PE => decide (0 < e.senses.length)) = pS from rfl, h3]
    · rw [h3] at hfx; cases hfx
  refine (callsIn_wide (n := 3)).1 ?_
  refine callsIn_of_wp_marks Try.func22 rfl trivial ?_ rfl
  simp only [Try.ntmps22, List.size_toArray, List.length_cons, List.length_nil, Nat.reduceAdd, Nat.reduceSub, Array.replicate_succ, Array.replicate_zero, List.push_toArray, List.append_toArray, List.nil_append, List.cons_append]
  gi_wp2_with fail
  refine ⟨trivial, ?_⟩
  refine (callsIn_wide.2 (way_any A n c id _)).mono ?_
  rintro e w' ⟨rfl, rfl⟩
  gi_wp2_with fail
  generalize hW0 : World.alloc (World.alloc (World.alloc w _) _) _ = W0
  have b4 : Boxed W0 w.heap.size 30 (.slice none 0 0) := by rw [Boxed, ← hW0]; (repeat (first | exact heap_new' _ _ _ (by first | rfl | (simp; done) | (simp; omega)) | refine (Below.heap_alloc _ _ _ (by first | omega | (simp; done) | (simp; omega))).trans ?_))
  have bl : Boxed W0 (w.heap.size + 1) 22 (.slice A n c) := by rw [Boxed, ← hW0]; (repeat (first | exact heap_new' _ _ _ (by first | rfl | (simp; done) | (simp; omega)) | refine (Below.heap_alloc _ _ _ (by first | omega | (simp; done) | (simp; omega))).trans ?_))
  have bi : Boxed W0 (w.heap.size + 1 + 1) 3 (.int .i64 id) := by rw [Boxed, ← hW0]; (repeat (first | exact heap_new' _ _ _ (by first | rfl | (simp; done) | (simp; omega)) | refine (Below.heap_alloc _ _ _ (by first | omega | (simp; done) | (simp; omega))).trans ?_))
  have hB0 : Below w.heap.size w W0 := by rw [← hW0]; repeat (first | assumption | exact Below.refl _ _ | refine Below.alloc ?_ (by first | omega | (simp; done) | (simp; omega)) _ | refine Below.drew ?_ | refine below_drewN ?_ _ | refine Below.setCell ?_ (by first | omega | (simp; done) | (simp; omega)) _)
  have hz0 : W0.heap.size = w.heap.size + 3 := by rw [← hW0]; simp
  clear hW0
  obtain ⟨D, hD⟩ : ∃ D, W0.heap.size = D := ⟨_, rfl⟩
  have hD1 : D ≤ w.heap.size + 3 := by omega
  have hD2 : w.heap.size + 3 ≤ D := by omega
  clear hz0
  have hst := way_stops 2 (by omega) (w.heap.size + 1) (w.heap.size + 1 + 1) w.heap.size L A n c id w W0 (Nat.le_refl _) hB0 (by omega) (by omega) (by omega) bl bi HV.out (by omega)
  rw [hD] at hst
  refine wpIn_rangeFunc_box (α := VE L) (D := D) hD rfl (by omega) (gf := 49) (lb := #[.pointer (some ⟨w.heap.size + 1, 0, none⟩), .pointer (some ⟨w.heap.size + 1 + 1, 0, none⟩)]) rfl trivial (enters_of Try.func49 (by kernel_rfl) rfl)
    (Bi := w.heap.size + 1 + 1) (by omega) hst KW.tr (fun W r r' h => KW.put (D + 1) (by omega) (by omega) (by omega) (by omega) r r' h) (fun _ => rfl)
    (fun pre W => (Boxed W w.heap.size 30 (.slice none 0 0) ∧ ∀ e ∈ pre.map Subtype.val, e.s.n = 0) ∧ Below w.heap.size w W)
    (fun c pre W => c = .ret ∧ ∃ (v' : Value) (x : EV) (l : List PSe), ((pre.map Subtype.val).find? hasS = some x ∧ RdSe w (.slice x.s.A x.s.n x.s.c) l) ∧ ((Boxed W w.heap.size 30 v' ∧ W.ownsRow (D + 2) 41 2 v' l.length (l.flatMap seCells)) ∧ Below w.heap.size w W))
    (((Stays.boxed _ _ _ (by omega)).and (Stays.pure _)).and (Stays.below (Nat.le_refl _) (by omega)))
    (fun c s X Y row hs hg hr => by
      obtain ⟨h1, v', x, l, h2, h3⟩ := hs
      exact ⟨h1, v', x, l, h2, (((Stays.boxed _ _ (fun _ => v') (by omega)).and (Stays.owns (by omega))).and (Stays.below (Nat.le_refl _) (by omega)) : Stays (fun k => k = D ∨ k = D + 1) _) () X Y row h3 hg hr⟩)
    ⟨⟨b4, by simp⟩, hB0⟩
    (fun x a' W => ∃ Bx, D + 1 < Bx ∧ EBlk W Bx x.1 ∧ a' = { tmps := #[.slice A n c, .int .i64 id, undef, undef, .pointer (some ⟨w.heap.size, 0, none⟩), .pointer (some ⟨Bx, 0, none⟩), .slice A n c, .int .i64 id,
      .func (.func 49) #[] #[.pointer (some ⟨w.heap.size + 1, 0, none⟩), .pointer (some ⟨w.heap.size + 1 + 1, 0, none⟩)], .agg #[.int .i64 x.1.id, .slice x.1.f.A x.1.f.n x.1.f.c, .int .i64 x.1.cls, .slice x.1.a.A x.1.a.n x.1.a.c, .int .i64 x.1.main, .slice x.1.s.A x.1.s.n x.1.s.c, .slice x.1.l.A x.1.l.n x.1.l.c, .slice x.1.r.A x.1.r.n x.1.r.c], undef, undef, undef, undef, undef, undef, undef], defers := [] })
    (fun x a' s X Y row hs hg hr => by obtain ⟨Bx, h1, h2, h3⟩ := hs; exact ⟨Bx, h1, Stays.ent (T := fun k => k = D + 1) Bx (fun _ => x.1) (by omega) s X Y row h2 hg hr, h3⟩)
    ?assign ?body ?done ?stop
  case assign =>
    rintro l pre x W K hl ⟨⟨i4, i5⟩, hB1⟩ hK
    have HK := Lib.hid hK
    clear hK
    rw [zip_one]
    simp only [List.setIfInBounds_toArray, List.set_cons_zero, List.set_cons_succ]
    gi_wp2
    refine HK.out _ _ ((Books.refl _ _).alloc hl _) ((KW.refl _ _ _ _ _).alloc hB1.size _) ⟨⟨i4.alloc _, i5⟩, hB1.alloc hB1.size _⟩ ⟨W.heap.size, hl, heap_alloc_new W _, rfl⟩
  case body =>
    rintro l pre x a' W hl ⟨⟨i4, i5⟩, hB1⟩ ⟨Bx, hBx, bX, rfl⟩ hlt
    obtain ⟨p, hpP, hdpx⟩ := HDS.out x.1 x.2
    have hsz := hdpx.ns
    have hsl := HSL.out p hpP
    obtain ⟨z0, z1, z2, z3, z4, z5, z6, z7, zl⟩ := bX.facts
    have HB1 := Lib.hid hB1
    have H4 := Lib.hid i4
    have H5 := Lib.hid i5
    have HDX := Lib.hid hdpx
    clear bX i4 i5 hB1 hdpx
    by_cases hs0 : x.1.s.n = 0
    · have hd : decide (0 < x.1.s.n) = false := by simp [hs0]
      have HS0 := Lib.hid hs0
      clear hs0 hsz
      gi_wp2_with fail
      refine ⟨Books.refl _ _, KW.refl _ _ _ _ _, ⟨H4.out, ?_⟩, HB1.out⟩
      intro e he
      rw [List.map_append, List.mem_append] at he
      rcases he with he | he
      · exact H5.out e he
      · simp at he; subst he; exact HS0.out
    · have hd : decide (0 < x.1.s.n) = true := by simp; omega
      have HF : Hid (((pre ++ [x]).map Subtype.val).find? hasS = some x.1) := by
        rw [Hid, List.map_append, List.find?_append, List.find?_eq_none.2 (fun e he => by simp [hasS, H5.out e he])]
        simp [hasS]; omega
      clear hs0 hsz
      gi_wp2_with fail
      refine ⟨trivial, ?_⟩
      refine (CallsIn.inRound l (callsIn_wide.2 (cloneS_any _ p.senses W (HDX.out.s.below HB1.out) hsl))).mono ?_
      rintro e W2 ⟨⟨v2, rfl, ho⟩, hb⟩
      dsimp only
      have HO := Lib.hid ho
      obtain ⟨A2, n2, c2, rfl, _, _, _, _⟩ := ho.rd.op
      have H42 : Hid (Boxed W2 w.heap.size 30 (.slice none 0 0)) := (hb.block _ H4.out.lt).trans H4.out
      have hc4 := H42.out.cell
      have hf4 := H42.out.frozen
      have HB2 := Lib.hid hb
      have hge := hb.size
      clear ho hb z0 z1 z2 z3 z4 z5 z6 z7 zl hd
      gi_wp2_with fail
      refine ⟨((Books.refl _ _).call hl HB2.out).set (by omega) _ _, rfl, _, x.1, p.senses, ⟨HF.out, HDX.out.s⟩, ⟨H42.out.set _, ?_⟩, (bchain HB1.out HB2.out).setCell (p := ⟨w.heap.size, 0, none⟩) (Nat.le_refl _) _⟩
      refine own_setCell (own_base HO.out (by omega)) (fun e => ?_) _ _
      have := (World.ownsRow.lt HO.out _ e).1
      omega
  case done =>
    rintro ys W hys ⟨⟨i4, i5⟩, hB1⟩ hK
    rw [hys] at i5
    have HE : Hid (sensesP P id = []) := HNIL.out i5
    have HK := Lib.hid hK
    have H4 := Lib.hid i4
    have HB1 := Lib.hid hB1
    have hc4 := i4.cell
    have hf4 := i4.frozen
    clear i4 i5 hK hB1 hys
    have H4D : Hid ((W.setCell ⟨w.heap.size, 0, none⟩ (.slice none 0 0)).heap[D]? = some (.deferred (some []))) := (Below.heap_setCell W ⟨w.heap.size, 0, none⟩ _ D (by show D ≠ w.heap.size; omega)).trans HK.out
    have HBS : Hid (Below w.heap.size w (W.setCell ⟨w.heap.size, 0, none⟩ (.slice none 0 0))) := HB1.out.setCell (p := ⟨w.heap.size, 0, none⟩) (Nat.le_refl _) _
    have hcell : ((W.setCell ⟨w.heap.size, 0, none⟩ (.slice none 0 0)).putObj D (.deferred none)).cell? ⟨w.heap.size, 0, none⟩ = some (.slice none 0 0) := (show Boxed _ w.heap.size 30 (.slice none 0 0) from (World.putObj_heap_other (by omega)).trans (H4.out.set _)).cell
    have HFIN : Hid (Below w.heap.size w ((W.setCell ⟨w.heap.size, 0, none⟩ (.slice none 0 0)).putObj D (.deferred none))) := HBS.out.trans (belowK_b (w := w) (Nat.le_refl _) _ D _ _ (by omega) H4D.out rfl rfl)
    gi_wp2
    refine ⟨by simp, .inl ⟨_, _, rfl, run_takeDeferred H4D.out, ?_⟩⟩
    refine ⟨.slice none 0 0, ?_, ⟨_, rfl, ?_⟩, HFIN.out⟩
    · simp [results, Try.results22, go_sem, hcell]
    · rw [HE.out]
      exact Rd.own (World.ownsRow_nil _ w.heap.size 41 2)
  case stop =>
    rintro c pre W hpre ⟨rfl, v', x, l, ⟨h3, h4⟩, ⟨h5, h6⟩, h7⟩ hK
    have HE : Hid (sensesP P id = l) := HSEN.out _ x l hpre h3 h4
    have hcell : (W.putObj D (.deferred none)).cell? ⟨w.heap.size, 0, none⟩ = some v' := (show Boxed _ w.heap.size 30 v' from (World.putObj_heap_other (by omega)).trans h5).cell
    have HFIN : Hid (Below w.heap.size w (W.putObj D (.deferred none))) := h7.trans (belowK_b (w := w) (Nat.le_refl _) _ D _ _ (by omega) hK rfl rfl)
    have HO : Hid (OwnSe (W.putObj D (.deferred none)) (D + 2) v' l) := ownsRow_putObj h6 _ hK rfl
    have HK := Lib.hid hK
    clear h3 h4 h5 h6 h7 hK hpre
    gi_wp2
    refine ⟨by simp, .inl ⟨_, _, rfl, run_takeDeferred HK.out, ?_⟩⟩
    refine ⟨v', ?_, ⟨_, rfl, ?_⟩, HFIN.out⟩
    · simp [results, Try.results22, go_sem, hcell]
    · rw [HE.out]
      exact HO.out.rd
end Go.Proofs.Ytnjniganlielcaa
