/-
  Outputs as a plain law: places, what is accepted from a place, the list of outputs in order. No program in sight.
-/
import Derived.Test.YtmejihlplbeekaaAcc
namespace Go.Proofs.Ytmejihlplbeekaa
structure Plc where
  q : Int
  i : Int
  deriving DecidableEq
def nxP (a : PArc) (c : Plc) : Plc := ⟨a.tgt, c.i + (stepD a.inp : Int)⟩
def okP (xs : List Int) (a : PArc) (c : Plc) : Bool := stepOk xs c.i.toNat a.inp
structure PBox (F : PFst) (xs : List Int) (c : Plc) : Prop where
  q0 : 0 ≤ c.q
  q1 : c.q < F.states
  i0 : 0 ≤ c.i
  i1 : c.i ≤ xs.length
/-- an arc that leaves a place -/
def Lv (F : PFst) (xs : List Int) (a : PArc) (c : Plc) : Prop := a ∈ F.arcs ∧ a.fr = c.q ∧ okP xs a c = true
/-- w is written from the place c to the end -/
def AccP (F : PFst) (xs : List Int) (c : Plc) (w : List Int) : Prop := ∃ t, t ∈ F.final ∧ Path F.arcs c.q t (xs.drop c.i.toNat) w
def AccS (F : PFst) (xs : List Int) (V : Plc → Bool) (w : List Int) : Prop := ∃ c, V c = true ∧ AccP F xs c w
structure GoodA (F : PFst) : Prop where
  tgt : ∀ a, a ∈ F.arcs → 0 ≤ a.fr ∧ a.fr < F.states ∧ 0 ≤ a.tgt ∧ a.tgt < F.states ∧ 0 ≤ a.out
section
variable {F : PFst} {xs : List Int}
theorem PBox.step (hF : GoodA F) {c : Plc} (hc : PBox F xs c) {a : PArc} (h : Lv F xs a c) : PBox F xs (nxP a c) := by
  obtain ⟨h1, h2, h3⟩ := h
  obtain ⟨_, _, t0, t1, _⟩ := hF.tgt a h1
  have := hc.i0
  have := hc.i1
  have hle := step_le xs c.i.toNat a.inp (by omega) h3
  exact ⟨t0, t1, by simp only [nxP]; omega, by simp only [nxP]; omega⟩
theorem AccP.cons {c : Plc} (hc : 0 ≤ c.i) {a : PArc} (h : Lv F xs a c) {w : List Int} (hw : AccP F xs (nxP a c) w) : AccP F xs c (sym a.out ++ w) := by
  obtain ⟨t, ht, hp⟩ := hw
  obtain ⟨h1, h2, h3⟩ := h
  refine ⟨t, ht, ?_⟩
  have h4 := (Path.one h1).trans hp
  rw [h2] at h4
  have e : xs.drop c.i.toNat = sym a.inp ++ xs.drop (nxP a c).i.toNat := by
    have ho : stepOk xs c.i.toNat a.inp = true := h3
    have e1 : (nxP a c).i.toNat = c.i.toNat + stepD a.inp := by simp only [nxP]; omega
    rw [e1]
    unfold stepOk at ho
    unfold stepD sym
    by_cases hx : a.inp = 0
    · simp [hx]
    · simp only [hx, if_false]
      have h2 : xs[c.i.toNat]? = some a.inp := by simpa [hx] using ho
      obtain ⟨hl, he⟩ := List.getElem?_eq_some_iff.1 h2
      rw [List.drop_eq_getElem_cons hl, he]
      rfl
  rw [e]
  exact h4
/-- the first step of a path -/
theorem AccP.inv {c : Plc} (hc : PBox F xs c) {w : List Int} (h : AccP F xs c w) : (c.q ∈ F.final ∧ c.i = xs.length ∧ w = []) ∨ ∃ a w', Lv F xs a c ∧ AccP F xs (nxP a c) w' ∧ w = sym a.out ++ w' := by
  obtain ⟨t, ht, p, h1, h2, h3, h4⟩ := h
  have := hc.i0
  have := hc.i1
  cases p with
  | nil =>
    simp only [chain] at h2
    subst h2
    refine .inl ⟨ht, ?_, by simpa [outs] using h4.symm⟩
    have := congrArg List.length h3
    simp [ins] at this
    omega
  | cons a p =>
    obtain ⟨e1, h2⟩ := h2
    have hd := step_drop xs c.i.toNat a.inp (ins p) (by rw [← h3]; simp [ins])
    refine .inr ⟨a, outs p, ⟨h1 a (by simp), e1, hd.1⟩, ⟨t, ht, p, fun b hb => h1 b (by simp [hb]), h2, ?_, rfl⟩, ?_⟩
    · rw [hd.2]
      congr 1
      simp only [nxP]
      omega
    · rw [← h4]
      simp [outs]
/-- closed under arcs that write nothing -/
def ClosedP (F : PFst) (xs : List Int) (V : Plc → Bool) : Prop := ∀ c, V c = true → ∀ a, Lv F xs a c → a.out = 0 → V (nxP a c) = true
def BoxP (F : PFst) (xs : List Int) (V : Plc → Bool) : Prop := ∀ c, V c = true → PBox F xs c
/-- the symbols written next -/
def SymsP (F : PFst) (xs : List Int) (V : Plc → Bool) (x : Int) : Prop := 0 < x ∧ ∃ c a, V c = true ∧ Lv F xs a c ∧ a.out = x
/-- the places after x was written -/
def IsWr (F : PFst) (xs : List Int) (V : Plc → Bool) (x : Int) (V' : Plc → Bool) : Prop := ∀ d, V' d = true ↔ ∃ c a, V c = true ∧ Lv F xs a c ∧ a.out = x ∧ d = nxP a c
theorem first_step {V : Plc → Bool} (hB : BoxP F xs V) (hC : ClosedP F xs V) (t : Int) (ht : t ∈ F.final) (p : List PArc) : ∀ c, V c = true → (∀ a, a ∈ p → a ∈ F.arcs) → chain c.q p t → ins p = xs.drop c.i.toNat →
    (outs p = [] → V ⟨t, xs.length⟩ = true) ∧ ∀ x w, outs p = x :: w → ∃ c' a, V c' = true ∧ Lv F xs a c' ∧ a.out = x ∧ AccP F xs (nxP a c') w := by
  induction p with
  | nil =>
    intro c hc _ h2 h3
    have hb := hB c hc
    have := hb.i0
    have := hb.i1
    simp only [chain] at h2
    refine ⟨fun _ => ?_, fun x w h => by simp [outs] at h⟩
    have := congrArg List.length h3
    simp [ins] at this
    have e : (⟨t, xs.length⟩ : Plc) = c := by
      cases c
      simp only at *
      congr 1
      · exact h2.symm
      · omega
    rw [e]
    exact hc
  | cons a p ih =>
    intro c hc h1 h2 h3
    have hb := hB c hc
    have := hb.i0
    have := hb.i1
    obtain ⟨e1, h2⟩ := h2
    have hd := step_drop xs c.i.toNat a.inp (ins p) (by rw [← h3]; simp [ins])
    have hlv : Lv F xs a c := ⟨h1 a (by simp), e1, hd.1⟩
    have hin : ins p = xs.drop (nxP a c).i.toNat := by
      rw [hd.2]
      congr 1
      simp only [nxP]
      omega
    by_cases ho : a.out = 0
    · have h := ih (nxP a c) (hC c hc a hlv ho) (fun b hb => h1 b (by simp [hb])) h2 hin
      have e : outs (a :: p) = outs p := by simp [outs, sym, ho]
      rw [e]
      exact h
    · have e : outs (a :: p) = a.out :: outs p := by simp [outs, sym, ho]
      rw [e]
      refine ⟨fun h => by simp at h, fun x w h => ?_⟩
      obtain ⟨rfl, rfl⟩ := List.cons.inj h
      exact ⟨c, a, hc, hlv, rfl, t, ht, p, fun b hb => h1 b (by simp [hb]), h2, hin, rfl⟩
theorem acc_nil {V : Plc → Bool} (hB : BoxP F xs V) (hC : ClosedP F xs V) : AccS F xs V [] ↔ ∃ t, t ∈ F.final ∧ V ⟨t, xs.length⟩ = true := by
  constructor
  · rintro ⟨c, hc, t, ht, p, h1, h2, h3, h4⟩
    exact ⟨t, ht, (first_step hB hC t ht p c hc h1 h2 h3).1 h4⟩
  · rintro ⟨t, ht, hv⟩
    refine ⟨_, hv, t, ht, ?_⟩
    simp only [Int.toNat_natCast, List.drop_length]
    exact Path.nil _ _
theorem acc_cons {V V' : Plc → Bool} (hB : BoxP F xs V) (hC : ClosedP F xs V) {x : Int} (hx : 0 < x) (hW : IsWr F xs V x V') (w : List Int) : AccS F xs V (x :: w) ↔ AccS F xs V' w := by
  constructor
  · rintro ⟨c, hc, t, ht, p, h1, h2, h3, h4⟩
    obtain ⟨c', a, h5, h6, h7, h8⟩ := (first_step hB hC t ht p c hc h1 h2 h3).2 x w h4
    exact ⟨_, (hW _).2 ⟨c', a, h5, h6, h7, rfl⟩, h8⟩
  · rintro ⟨d, hd, hw⟩
    obtain ⟨c, a, h1, h2, h3, rfl⟩ := (hW d).1 hd
    refine ⟨c, h1, ?_⟩
    have h := AccP.cons (hB c h1).i0 h2 hw
    have e : sym a.out = [x] := by rw [h3]; simp [sym]; omega
    rw [e] at h
    exact h
theorem acc_sym (hF : GoodA F) {V : Plc → Bool} (hB : BoxP F xs V) (hC : ClosedP F xs V) {x : Int} {w : List Int} (h : AccS F xs V (x :: w)) : SymsP F xs V x := by
  obtain ⟨c, hc, t, ht, p, h1, h2, h3, h4⟩ := h
  obtain ⟨c', a, h5, h6, h7, _⟩ := (first_step hB hC t ht p c hc h1 h2 h3).2 x w h4
  refine ⟨?_, c', a, h5, h6, h7⟩
  have := (hF.tgt a h6.1).2.2.2.2
  have hne : a.out ≠ 0 := fun e => by
    have hm : x ∈ outs p := by rw [h4]; simp
    obtain ⟨b, _, hb2⟩ := List.mem_flatMap.1 hm
    unfold sym at hb2
    split at hb2
    · cases hb2
    · simp at hb2
      omega
  omega
/-- V is what is reached silently from N -/
def SpreadP (F : PFst) (xs : List Int) (N V : Plc → Bool) : Prop := (∀ c, N c = true → V c = true) ∧ BoxP F xs V ∧ ClosedP F xs V ∧ ∀ c, V c = true → ∀ w, AccP F xs c w → AccS F xs N w
theorem SpreadP.acc {N V : Plc → Bool} (h : SpreadP F xs N V) (w : List Int) : AccS F xs V w ↔ AccS F xs N w :=
  ⟨fun ⟨c, hc, hw⟩ => h.2.2.2 c hc w hw, fun ⟨c, hc, hw⟩ => ⟨c, h.1 c hc, hw⟩⟩
end
open Classical in
/-- the accepted lists over X of at most n elements, in order -/
noncomputable def enumW (X : List Int) : Nat → (List Int → Prop) → List (List Int)
  | 0, P => if P [] then [[]] else []
  | n + 1, P => (if P [] then [[]] else []) ++ X.flatMap fun x => (enumW X n (fun w => P (x :: w))).map (x :: ·)
theorem mem_enumW {X : List Int} : ∀ {n : Nat} {P : List Int → Prop} {w : List Int}, w ∈ enumW X n P ↔ P w ∧ w.length ≤ n ∧ ∀ x ∈ w, x ∈ X
  | 0, P, w => by
    unfold enumW
    constructor
    · intro h
      split at h
      · rename_i hp
        simp at h
        subst h
        exact ⟨hp, by simp, by simp⟩
      · cases h
    · rintro ⟨h1, h2, _⟩
      have : w = [] := List.eq_nil_of_length_eq_zero (by omega)
      subst this
      simp [h1]
  | n + 1, P, w => by
    unfold enumW
    rw [List.mem_append, List.mem_flatMap]
    constructor
    · rintro (h | ⟨x, hx, h⟩)
      · split at h
        · rename_i hp
          simp at h
          subst h
          exact ⟨hp, by simp, by simp⟩
        · cases h
      · obtain ⟨u, hu, rfl⟩ := List.mem_map.1 h
        obtain ⟨h1, h2, h3⟩ := mem_enumW.1 hu
        refine ⟨h1, by simp; omega, ?_⟩
        intro y hy
        rcases List.mem_cons.1 hy with rfl | hy
        · exact hx
        · exact h3 y hy
    · rintro ⟨h1, h2, h3⟩
      cases w with
      | nil => left; simp [h1]
      | cons x w => exact .inr ⟨x, h3 x (by simp), List.mem_map.2 ⟨w, mem_enumW.2 ⟨h1, by simpa using h2, fun y hy => h3 y (by simp [hy])⟩, rfl⟩⟩
theorem enumW_nil {X : List Int} {n : Nat} {P : List Int → Prop} (h : ∀ w, w.length ≤ n → ¬ P w) : enumW X n P = [] := by
  rw [List.eq_nil_iff_forall_not_mem]
  intro w hw
  obtain ⟨h1, h2, _⟩ := mem_enumW.1 hw
  exact h w h2 h1
theorem enumW_congr {X : List Int} {n : Nat} {P Q : List Int → Prop} (h : ∀ w, P w ↔ Q w) : enumW X n P = enumW X n Q := by
  have : P = Q := funext fun w => propext (h w)
  rw [this]
/-- of two increasing lists, the lesser one suffices where the rest gives nothing -/
theorem flat_sub {β : Type} (f : Int → List β) : ∀ (X Y : List Int), X.Pairwise (· < ·) → Y.Pairwise (· < ·) → (∀ y ∈ Y, y ∈ X) → (∀ x ∈ X, x ∉ Y → f x = []) → X.flatMap f = Y.flatMap f
  | [], Y, _, _, hs, _ => by
    cases Y with
    | nil => rfl
    | cons y Y => exact absurd (hs y (by simp)) (by simp)
  | x :: X, Y, hX, hY, hs, hn => by
    obtain ⟨hx1, hx2⟩ := List.pairwise_cons.1 hX
    cases Y with
    | nil =>
      rw [List.flatMap_cons, hn x (by simp) (by simp)]
      have := flat_sub f X [] hx2 List.Pairwise.nil (by simp) (fun z hz _ => hn z (by simp [hz]) (by simp))
      simpa using this
    | cons y Y =>
      obtain ⟨hy1, hy2⟩ := List.pairwise_cons.1 hY
      by_cases e : x = y
      · subst e
        rw [List.flatMap_cons, List.flatMap_cons, flat_sub f X Y hx2 hy2 ?_ ?_]
        · intro z hz
          have h1 := hy1 z hz
          rcases List.mem_cons.1 (hs z (by simp [hz])) with e | h
          · omega
          · exact h
        · intro z hz hnz
          have h1 := hx1 z hz
          refine hn z (by simp [hz]) (fun h => ?_)
          rcases List.mem_cons.1 h with e | h
          · omega
          · exact hnz h
      · have hyX : y ∈ X := by
          rcases List.mem_cons.1 (hs y (by simp)) with h | h
          · exact absurd h.symm e
          · exact h
        have hxy := hx1 y hyX
        have hxn : x ∉ y :: Y := fun h => by
          rcases List.mem_cons.1 h with h | h
          · exact e h
          · have := hy1 x h; omega
        rw [List.flatMap_cons, hn x (by simp) hxn, List.nil_append]
        refine flat_sub f X (y :: Y) hx2 hY (fun z hz => ?_) (fun z hz h => hn z (by simp [hz]) h)
        rcases List.mem_cons.1 (hs z hz) with h | h
        · exact absurd (h ▸ hz) hxn
        · exact h
/-- the symbols that arcs write, increasing -/
def insS (c : Int) : List Int → List Int
  | [] => [c]
  | y :: l => if y < c then y :: insS c l else if y = c then y :: l else c :: y :: l
def symsX (L : List PArc) : List Int := L.foldl (fun s a => if a.out = 0 then s else insS a.out s) []
theorem mem_insS {c x : Int} : ∀ {l : List Int}, x ∈ insS c l ↔ x = c ∨ x ∈ l
  | [] => by simp [insS]
  | y :: l => by
    unfold insS
    split
    · rw [List.mem_cons, mem_insS, List.mem_cons]
      constructor
      · rintro (h | h | h)
        · exact .inr (.inl h)
        · exact .inl h
        · exact .inr (.inr h)
      · rintro (h | h | h)
        · exact .inr (.inl h)
        · exact .inl h
        · exact .inr (.inr h)
    · split
      · rename_i e
        rw [List.mem_cons]
        constructor
        · intro h; exact .inr h
        · rintro (h | h)
          · exact .inl (h.trans e.symm)
          · exact h
      · rw [List.mem_cons]
theorem insS_sorted {c : Int} : ∀ {l : List Int}, l.Pairwise (· < ·) → (insS c l).Pairwise (· < ·)
  | [], _ => by simp [insS]
  | y :: l, h => by
    obtain ⟨h1, h2⟩ := List.pairwise_cons.1 h
    unfold insS
    split
    · rename_i hlt
      refine List.pairwise_cons.2 ⟨fun z hz => ?_, insS_sorted h2⟩
      rcases mem_insS.1 hz with rfl | hz
      · exact hlt
      · exact h1 z hz
    · split
      · exact h
      · refine List.pairwise_cons.2 ⟨fun z hz => ?_, h⟩
        rcases List.mem_cons.1 hz with rfl | hz
        · omega
        · have := h1 z hz; omega
theorem symsX_snoc (L : List PArc) (a : PArc) : symsX (L ++ [a]) = if a.out = 0 then symsX L else insS a.out (symsX L) := by simp [symsX]
theorem symsX_sorted (L : List PArc) : (symsX L).Pairwise (· < ·) := by
  have h : ∀ (L : List PArc) (s : List Int), s.Pairwise (· < ·) → (L.foldl (fun s a => if a.out = 0 then s else insS a.out s) s).Pairwise (· < ·) := by
    intro L
    induction L with
    | nil => intro s h; exact h
    | cons a L ih =>
      intro s h
      refine ih _ ?_
      dsimp only
      split
      · exact h
      · exact insS_sorted h
  exact h L [] List.Pairwise.nil
theorem mem_symsX {L : List PArc} {x : Int} : x ∈ symsX L ↔ x ≠ 0 ∧ ∃ a, a ∈ L ∧ a.out = x := by
  have h : ∀ (L : List PArc) (s : List Int), x ∈ L.foldl (fun s a => if a.out = 0 then s else insS a.out s) s ↔ x ∈ s ∨ (x ≠ 0 ∧ ∃ a, a ∈ L ∧ a.out = x) := by
    intro L
    induction L with
    | nil => intro s; simp
    | cons a L ih =>
      intro s
      rw [List.foldl_cons, ih]
      by_cases ha : a.out = 0
      · rw [if_pos ha]
        constructor
        · rintro (h | ⟨h0, b, hb, h⟩)
          · exact .inl h
          · exact .inr ⟨h0, b, by simp [hb], h⟩
        · rintro (h | ⟨h0, b, hb, h⟩)
          · exact .inl h
          · rcases List.mem_cons.1 hb with rfl | hb
            · omega
            · exact .inr ⟨h0, b, hb, h⟩
      · rw [if_neg ha, mem_insS]
        constructor
        · rintro ((h | h) | ⟨h0, b, hb, h⟩)
          · exact .inr ⟨by omega, a, by simp, h.symm⟩
          · exact .inl h
          · exact .inr ⟨h0, b, by simp [hb], h⟩
        · rintro (h | ⟨h0, b, hb, h⟩)
          · exact .inl (.inr h)
          · rcases List.mem_cons.1 hb with rfl | hb
            · exact .inl (.inl h.symm)
            · exact .inr ⟨h0, b, hb, h⟩
  have := h L []
  simpa [symsX] using this
/-- one level, over the symbols that are written next alone -/
theorem enumW_succ {F : PFst} {xs : List Int} (hF : GoodA F) {V : Plc → Bool} (hB : BoxP F xs V) (hC : ClosedP F xs V) (Y : List Int) (hY : Y.Pairwise (· < ·)) (hS : ∀ x, x ∈ Y ↔ SymsP F xs V x) (n : Nat) (l : List Int) :
    (enumW (symsX F.arcs) (n + 1) (AccS F xs V)).map (l ++ ·) = (enumW (symsX F.arcs) 0 (AccS F xs V)).map (l ++ ·) ++ Y.flatMap fun x => (enumW (symsX F.arcs) n (fun w => AccS F xs V (x :: w))).map ((l ++ [x]) ++ ·) := by
  rw [show enumW (symsX F.arcs) (n + 1) (AccS F xs V) = enumW (symsX F.arcs) 0 (AccS F xs V) ++ (symsX F.arcs).flatMap fun x => (enumW (symsX F.arcs) n (fun w => AccS F xs V (x :: w))).map (x :: ·) from rfl]
  rw [List.map_append, List.map_flatMap]
  congr 1
  rw [← flat_sub _ (symsX F.arcs) Y (symsX_sorted _) hY (fun y hy => ?_) (fun x _ hn => ?_)]
  · congr 1
    funext x
    rw [List.map_map]
    congr 1
    funext w
    simp
  · obtain ⟨h0, c, a, _, h2, h3⟩ := (hS y).1 hy
    exact mem_symsX.2 ⟨by omega, a, h2.1, h3⟩
  · rw [enumW_nil fun w _ h => hn ((hS x).2 (acc_sym hF hB hC h))]
    rfl
end Go.Proofs.Ytmejihlplbeekaa
