/-
  A map of lists of texts of the call's own: look-up, append, store.
-/
import Derived.Test.YtokbclpdpegicaaW27
import Derived.Maps.OwnOps
import Derived.Maps.Views
namespace Go.Proofs.Ytokbclpdpegicaa
open Go.ChangeShapes Go.WideShapes Go.ChangeAt Go.RowKit Go.Maps
/-- a slice as a datum: where it lies -/
def slD (v : Value) : DataW Unit :=
  match v with
  | .slice (some a) n c => .slice [.lit (.int .i64 a.block), .lit (.int .i64 n), .lit (.int .i64 c)] []
  | _ => .nil
def slR (v : Value) : Option (DataW Unit × List MemPlace) :=
  match v with
  | .slice none 0 0 => some (slD v, [])
  | .slice (some ⟨g, 0, none⟩) n c => some (slD (.slice (some ⟨g, 0, none⟩) n c), [])
  | _ => none
theorem slR_inv {v : Value} {z : DataW Unit × List MemPlace} (h : slR v = some z) : (v = .slice none 0 0 ∧ z = (.nil, [])) ∨ ∃ g n c, v = .slice (some ⟨g, 0, none⟩) n c ∧ z = (slD (.slice (some ⟨g, 0, none⟩) n c), []) := by
  unfold slR at h
  split at h
  · left; exact ⟨rfl, (Option.some.inj h).symm⟩
  · right; exact ⟨_, _, _, rfl, (Option.some.inj h).symm⟩
  · cases h
theorem slR_inj {v v' : Value} {d : DataW Unit} {p p' : List MemPlace} (h : slR v = some (d, p)) (h' : slR v' = some (d, p')) : v = v' := by
  rcases slR_inv h with ⟨rfl, e⟩ | ⟨g, n, c, rfl, e⟩ <;> rcases slR_inv h' with ⟨rfl, e'⟩ | ⟨g', n', c', rfl, e'⟩
  · rfl
  · simp only [Prod.mk.injEq] at e e'
    rw [e.1] at e'
    simp [slD] at e'
  · simp only [Prod.mk.injEq] at e e'
    rw [e.1] at e'
    simp [slD] at e'
  · simp only [Prod.mk.injEq] at e e'
    rw [e.1] at e'
    simp only [slD, DataW.slice.injEq, List.cons.injEq, DataW.lit.injEq, Lit.int.injEq, true_and, and_true] at e'
    obtain ⟨⟨h1, h2, h3⟩, _⟩ := e'
    have e1 : g = g' := by omega
    have e2 : n = n' := by omega
    have e3 : c = c' := by omega
    rw [e1, e2, e3]
theorem slR_own {w : World} {base : Nat} {v : Value} {l : List ByteArray} (h : OwnS w base v l) : slR v = some (slD v, []) := by
  rcases h.2 with ⟨rfl, _⟩ | ⟨g, cap, cur, rfl, _⟩ <;> rfl
def KL (k : Nat) : Lit := .int .i64 (k : Int)
theorem key_of (k : Nat) (hk : k ≤ 1000) : keyOf Try.prog 3 (.int .i64 (k : Int)) = some (KL k) := keyOf_int_mk Try.underlying3 (WalkArith.wf_i64 (by omega))
theorem zeroSl (w : World) : (zeroValue 43).run Try.prog w = .ok (.slice none 0 0) w := by kernel_rfl
theorem intLaw : Keyed Try.prog 3 := int_keyed Try.underlying3
/-- block B is a map of n writes; at the key k lies the slice V k, the list L k, each in a row of its own -/
structure Sm (w : World) (B base n N : Nat) (L : Nat → List ByteArray) (V : Nat → Value) : Prop where
  map : ∃ D : DataW Unit, w.ownsMap Try.prog 3 slR B n D ∧ ∀ k, k ≤ N → D.atKey (KL k) .nil = slD (V k)
  own : ∀ k, k ≤ N → OwnS w base (V k) (L k)
  apart : ∀ i j, i ≤ N → j ≤ N → i ≠ j → (V i).ownBlock = none ∨ (V i).ownBlock ≠ (V j).ownBlock
  bb : B < base
/-- .. and block gM holds the marks M -/
structure Sp (w : World) (B gM base n N : Nat) (M : List Bool) (L : Nat → List ByteArray) (V : Nat → Value) : Prop where
  m : Sm w B base n N L V
  marks : Bls w gM M
theorem grown_below {w w' : World} (h : Below w.heap.size w w') : w.grownBy w' none := ⟨h.os, h.tape, h.output, h.size, fun k hk _ => h.block k hk⟩
theorem Sm.below {w w' : World} {B base n N : Nat} {L : Nat → List ByteArray} {V : Nat → Value} (h : Sm w B base n N L V) (hb : Below w.heap.size w w') : Sm w' B base n N L V := by
  obtain ⟨D, h1, h2⟩ := h.map
  exact ⟨⟨D, h1.kept (grown_below hb) (by simp), h2⟩, fun k hk => own_below (h.own k hk) hb, h.apart, h.bb⟩
theorem Sp.below {w w' : World} {B gM base n N : Nat} {M : List Bool} {L : Nat → List ByteArray} {V : Nat → Value} (h : Sp w B gM base n N M L V) (hb : Below w.heap.size w w') : Sp w' B gM base n N M L V :=
  ⟨h.m.below hb, h.marks.below hb⟩
theorem own_not {w : World} {base : Nat} {v : Value} {l : List ByteArray} (h : OwnS w base v l) {g : Nat} {M : List Bool} (hm : Bls w g M) : some g ≠ v.ownBlock := by
  intro e
  obtain ⟨cs, hc⟩ := row_type h e.symm
  unfold Bls at hm
  rw [hc] at hm
  simp only [Option.some.injEq, Obj.cells.injEq] at hm
  exact absurd hm.2.1 (by decide)
def upd {α : Type} (L : Nat → α) (k : Nat) (l : α) : Nat → α := fun i => if i = k then l else L i
/-- the way back: whatever is done to the row at k and to new blocks, a store at k -/
def SpAt (w : World) (B gM base n N : Nat) (M : List Bool) (L : Nat → List ByteArray) (V : Nat → Value) (k : Nat) : Prop :=
  ∀ (w1 : World) (v' : Value) (l' : List ByteArray), w.grownBy w1 (V k).ownBlock → OwnS w1 base v' l' → (v'.ownBlock = (V k).ownBlock ∨ ∃ g, v'.ownBlock = some g ∧ w.heap.size ≤ g) →
    ∃ w2, (Instr.mapUpdate 55 (.map (some B)) (.int .i64 (k : Int)) v').run Try.prog w1 = .ok () w2 ∧ Sp w2 B gM base (n + 1) N M (upd L k l') (upd V k v') ∧ w1.grownBy w2 (some B)
theorem KL_ne {i k : Nat} (h : i ≠ k) : KL i ≠ KL k := by
  unfold KL
  intro e
  simp only [Lit.int.injEq, true_and] at e
  omega
theorem Sp.look {w : World} {B gM base n N : Nat} {M : List Bool} {L : Nat → List ByteArray} {V : Nat → Value} (h : Sp w B gM base n N M L V) {k : Nat} (hk : k ≤ N) (hN : N ≤ 1000) (hn : n ≤ 1000000) :
    (Instr.lookup 55 (.map (some B)) (.int .i64 (k : Int)) false).run Try.prog w = .ok (V k) w ∧ SpAt w B gM base n N M L V k := by
  obtain ⟨D, h1, h2⟩ := h.m.map
  have h3 := h.m.apart
  obtain ⟨v, ps, hrun, hv⟩ := h1.lookup intLaw Try.underlying55 (zeroSl w) (zd := .nil) (zp := []) rfl (key_of k (by omega))
  have hat := h2 k hk
  have hown := h.m.own k hk
  rw [hat] at hv
  obtain rfl := slR_inj hv (slR_own hown)
  refine ⟨hrun, fun w1 v' l' hg hown' hloc => ?_⟩
  have hBv : some B ≠ (V k).ownBlock := fun e => by
    have := (hown.lt B e.symm).1
    have := h.m.bb
    omega
  have hm1 := h1.kept hg hBv
  obtain ⟨w2, hrun2, hm2, hg2⟩ := hm1.update intLaw Try.underlying55 (by unfold maxLen; omega) (key_of k (by omega)) (slR_own hown')
  have hMB : some gM ≠ some B := by
    intro e
    obtain ⟨es, cl, he, _⟩ := h1
    have hm := h.marks
    unfold Bls at hm
    rw [Option.some.inj e, he] at hm
    cases hm
  have hmk : Bls w2 gM M := (hg2.block gM (Nat.lt_of_lt_of_le h.marks.lt hg.size) hMB).trans ((hg.block gM h.marks.lt (own_not hown h.marks)).trans h.marks)
  have hnb : ∀ {x : World} {u : Value} {l : List ByteArray}, OwnS x base u l → u.ownBlock = none ∨ u.ownBlock ≠ some B := fun {x u l} ho => by
    cases hu : u.ownBlock with
    | none => exact .inl rfl
    | some g =>
      refine .inr fun e => ?_
      have := (ho.lt g hu).1
      have := h.m.bb
      cases e
      omega
  refine ⟨w2, hrun2, ⟨⟨⟨_, hm2, fun i hi => ?_⟩, fun i hi => ?_, fun i j hi hj hij => ?_, h.m.bb⟩, hmk⟩, hg2⟩
  · by_cases hik : i = k
    · subst hik
      simp only [upd, if_true]
      have hisMap : IsMap D := by
        obtain ⟨es, cl, _, _, _, rfl⟩ := h1
        exact ⟨_, rfl⟩
      exact atKey_put_same hisMap (show WideAt.IsKeyLit (KL i) from trivial) _ _
    · simp only [upd, if_neg hik]
      exact (atKey_put_other (KL_ne hik) _ _).trans (h2 i hi)
  · by_cases hik : i = k
    · subst hik
      simp only [upd, if_true]
      exact World.ownsRow.kept hown' hg2 (hnb hown')
    · simp only [upd, if_neg hik]
      have ho1 : OwnS w1 base (V i) (L i) := World.ownsRow.kept (h.m.own i hi) hg (h3 i k hi hk hik)
      exact World.ownsRow.kept ho1 hg2 (hnb ho1)
  · have old_new : ∀ j, j ≤ N → j ≠ k → (V j).ownBlock = none ∨ (V j).ownBlock ≠ v'.ownBlock := by
      intro j hj hjk
      rcases hloc with e | ⟨g, e, hge⟩
      · rw [e]; exact h3 j k hj hk hjk
      · cases hj' : (V j).ownBlock with
        | none => exact .inl rfl
        | some gj =>
          refine .inr fun e1 => ?_
          have := ((h.m.own j hj).lt gj hj').2
          rw [e] at e1
          cases e1
          omega
    show (if i = k then v' else V i).ownBlock = none ∨ (if i = k then v' else V i).ownBlock ≠ (if j = k then v' else V j).ownBlock
    by_cases hik : i = k
    · subst hik
      rw [if_pos rfl, if_neg (fun e => hij e.symm)]
      cases hv' : v'.ownBlock with
      | none => exact .inl rfl
      | some g =>
        refine .inr fun e1 => ?_
        rcases old_new j hj (fun e => hij e.symm) with e | e
        · rw [e] at e1; cases e1
        · exact e (by rw [hv', e1])
    · rw [if_neg hik]
      by_cases hjk : j = k
      · subst hjk
        rw [if_pos rfl]
        exact old_new i hi hik
      · rw [if_neg hjk]
        exact h3 i j hi hj hij
/-- the look-up at the operation -/
theorem wpList_look {w : World} {ops : Array Oper} {rest : List Oper} {o : Oper} {a : Act} {Q : Exit → Act → World → Prop} (hg : o.guard = none) (m x : Operand) (hop : o.op = Op.lookup 55 m x false)
    {B gM base n N : Nat} {M : List Bool} {L : Nat → List ByteArray} {V : Nat → Value} (h : Sp w B gM base n N M L V) (k : Nat) (hk : k ≤ N) (hN : N ≤ 1000) (hn : n ≤ 1000000) (v : Value) (hv : V k = v) (hm : a.eval m = .map (some B)) (hx : a.eval x = .int .i64 (k : Int))
    (hK : SpAt w B gM base n N M L V k → wpList Try.prog ops Q rest (a.put o.dst v) w) : wpList Try.prog ops Q (o :: rest) a w := by
  subst hv
  refine wpList_plain hg fun K' hK' => ?_
  obtain ⟨hrun, h2⟩ := h.look hk hN hn
  unfold Oper.wp
  simp [execOp, hop, hm, hx, hrun, Result.andThen]
  exact hK' _ _ (hK h2)
/-- the store at the operation, by the way back -/
theorem wpList_back {w : World} {ops : Array Oper} {rest : List Oper} {o : Oper} {a : Act} {Q : Exit → Act → World → Prop} (hg : o.guard = none) (m x y : Operand) (hop : o.op = Op.mapUpdate 55 m x y)
    {w0 : World} {B gM base n N : Nat} {M : List Bool} {L : Nat → List ByteArray} {V : Nat → Value} {k : Nat} {v' : Value} {l' : List ByteArray} (hback : SpAt w0 B gM base n N M L V k) (hm : a.eval m = .map (some B)) (hx : a.eval x = .int .i64 (k : Int)) (hy : a.eval y = v')
    (hgr : w0.grownBy w (V k).ownBlock) (hown : OwnS w base v' l') (hloc : v'.ownBlock = (V k).ownBlock ∨ ∃ g, v'.ownBlock = some g ∧ w0.heap.size ≤ g)
    (hK : ∀ w2, Sp w2 B gM base (n + 1) N M (upd L k l') (upd V k v') → w.grownBy w2 (some B) → wpList Try.prog ops Q rest (a.put o.dst undef) w2) : wpList Try.prog ops Q (o :: rest) a w := by
  refine wpList_plain hg fun K' hK' => ?_
  obtain ⟨w2, hrun, r1, r2⟩ := hback w v' l' hgr hown hloc
  unfold Oper.wp
  simp [execOp, hop, hm, hx, hy, hrun, Result.andThen]
  exact hK' _ _ (hK w2 r1 r2)
/-- append of one text, with the place of the new row -/
theorem wpList_app_at {ops : Array Oper} {rest : List Oper} {o : Oper} {a : Act} {Q : Exit → Act → World → Prop} {w : World} (hgd : o.guard = none) (s x : Operand)
    (ho : o.op = .call { callee := .builtin .append, args := #[s, x], argTypes := #[43, 43] })
    (base : Nat) (v : Value) (l : List ByteArray) (hs : a.eval s = v) (hown : OwnS w base v l) (x0 : ByteArray) (hl : l.length ≤ 1000000) (hbase : base ≤ w.heap.size)
    (hx : a.eval x = .slice (some ⟨w.heap.size, 0, none⟩) 1 1)
    (h : ∀ v' w', OwnS w' base v' (l ++ [x0]) → w.grownBy w' v.ownBlock → (v'.ownBlock = v.ownBlock ∨ ∃ g, v'.ownBlock = some g ∧ w.heap.size ≤ g) → wpList Try.prog ops Q rest (a.put o.dst v') w') :
    wpList Try.prog ops Q (o :: rest) a (w.alloc (.cells #[.string x0] 9)) := by
  obtain ⟨i0, hi, hz0, hz1, hz2⟩ := info_parts infoT0
  refine wpList_append_own_at _ hgd s x 43 ho base 9 i0 _ 1 16 Try.underlying43 hi hz0 hz1 hz2 rfl (by decide) v l.length (l.map Value.string) hs (World.ownsRow.alloc hown _) ⟨w.heap.size, 0, none⟩ 1 1
    [.string x0] hx rfl (cell_one_new _ _ _) (by simp [Value.oneCell']) (by simp only [maxLen]; omega) (by omega) (by simp; omega) ?_
  intro v' w' h1 h2 _ h4
  refine h v' w' ?_ ((World.grownBy_alloc _ _ _).trans h2) ?_
  · unfold OwnS
    rw [List.map_append, List.length_append]
    exact h1
  · rcases h4 with h4 | h4
    · exact .inl h4
    · exact .inr ⟨_, h4, by simp⟩
/-- the first entry: the map made by the call, with one text at the key N -/
theorem wpList_first {W : World} {ops : Array Oper} {rest : List Oper} {o : Oper} {a : Act} {Q : Exit → Act → World → Prop} (hg : o.guard = none) (m x y : Operand) (hop : o.op = Op.insert 55 m x y)
    (N : Nat) (hN : N ≤ 1000) (s : ByteArray) (hm : a.eval m = .map (some W.heap.size)) (hx : a.eval x = .int .i64 (N : Int)) (hy : a.eval y = .slice (some ⟨W.heap.size + 1, 0, none⟩) 1 1)
    (hK : ∀ w2, Sm w2 W.heap.size (W.heap.size + 1) 1 N (upd (fun _ => []) N [s]) (upd (fun _ => .slice none 0 0) N (.slice (some ⟨W.heap.size + 1, 0, none⟩) 1 1)) → Below W.heap.size W w2 → wpList Try.prog ops Q rest (a.put o.dst undef) w2) :
    wpList Try.prog ops Q (o :: rest) a ((W.alloc (.map #[] 0)).alloc (.cells #[.string s] 9)) := by
  refine wpList_plain hg fun K' hK' => ?_
  have h0 := (World.ownsMap_made W Try.prog 3 slR).alloc (.cells #[.string s] 9)
  obtain ⟨w2, hrun, hm2, hg2⟩ := h0.update intLaw Try.underlying55 (by unfold maxLen; omega) (key_of N hN) (val := .slice (some ⟨W.heap.size + 1, 0, none⟩) 1 1) (d := slD (.slice (some ⟨W.heap.size + 1, 0, none⟩) 1 1)) (ps := []) rfl
  unfold Oper.wp
  simp [execOp, hop, hm, hx, hy, hrun, Result.andThen]
  refine hK' _ _ (hK w2 ⟨⟨_, hm2, fun k hk => ?_⟩, fun k hk => ?_, fun i j hi hj hij => ?_, Nat.lt_succ_self _⟩ ?_)
  · by_cases hkN : k = N
    · subst hkN
      simp only [upd, if_true]
      exact atKey_put_same isMap_empty (show WideAt.IsKeyLit (KL k) from trivial) _ _
    · simp only [upd, if_neg hkN]
      rw [atKey_put_other (KL_ne hkN)]
      rfl
  · by_cases hkN : k = N
    · subst hkN
      simp only [upd, if_true]
      have hr : World.ownsRow ((W.alloc (.map #[] 0)).alloc (.cells #[.string s] 9)) (W.heap.size + 1) 9 1 (.slice (some ⟨W.heap.size + 1, 0, none⟩) 1 1) 1 [.string s] := by
        refine ⟨rfl, .inr ⟨W.heap.size + 1, 1, #[.string s], rfl, Nat.le_refl _, ?_, Nat.le_refl _, by simp [maxLen], rfl, rfl⟩⟩
        have := heap_alloc_new (W.alloc (.map #[] 0)) (.cells #[.string s] 9)
        rw [World.size_alloc] at this
        exact this
      exact World.ownsRow.kept hr hg2 (.inr (by simp [Value.ownBlock]))
    · simp only [upd, if_neg hkN]
      exact World.ownsRow_nil _ _ _ _
  · show (if i = N then _ else _ : Value).ownBlock = none ∨ (if i = N then _ else _ : Value).ownBlock ≠ (if j = N then _ else _ : Value).ownBlock
    by_cases hi' : i = N
    · rw [if_pos hi', if_neg (fun e => hij (hi'.trans e.symm))]
      exact .inr (by simp [Value.ownBlock])
    · rw [if_neg hi']
      exact .inl rfl
  · refine Below.grown (((Below.refl _ _).alloc (Nat.le_refl _) _).alloc (by simp) _) hg2 (by simp; omega) (fun j hj => by cases hj; exact Nat.le_refl _)
end Go.Proofs.Ytokbclpdpegicaa
