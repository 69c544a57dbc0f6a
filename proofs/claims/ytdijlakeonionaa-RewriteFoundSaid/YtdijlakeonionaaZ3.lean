/-
  The part of older texts that this seat needs (printed by shake.py): G1 GP1 F4 F5 F6 G2 GP2 G3 G4 G5 GP3 G7 L1 G9 HP1 H1 H3 UP1
-/
import Derived.Test.YtdijlakeonionaaZ2
import Derived.Maps.Own
import Derived.Maps.OwnSet
import Derived.Maps.Views
import Derived.Maps.RangeWalk
import Derived.Test.YtdijlakeonionaaZ1
import Derived.Shelf.Sort.Plain
import Derived.Shelf.Slices.In.SortNone
import Derived.Shelf.Slices.Clone
import Derived.Ground.Names2Prog
import Derived.Sort.OwnSortedInts
/-
  Maps that the call owns, in plain words: a partial function on keys within a given list. No function of the program in sight.
-/
namespace Go.Proofs.Ytdijlakeonionaa
open Go.ChangeShapes Go.WideShapes Go.ChangeAt Go.RowKit
open Go.Maps (Keyed)
/-- a kind of map: its types, how a key and an element look as a value -/
structure MS (P : Program) (α β : Type) where
  mt : TypeId
  kt : TypeId
  et : TypeId
  ht : P.underlying mt = some (.map kt et)
  K : Keyed P kt
  mkK : α → Value
  wf : α → Prop
  key : ∀ c, wf c → ∃ l, keyOf P kt (mkK c) = some l
  inj : ∀ c d, mkK c = mkK d → c = d
  mkV : β → Value
  lit : β → Lit
  wfV : β → Prop
  elem : ∀ x, wfV x → plainElem (H := Unit) P et (mkV x) = some (.lit (lit x), [])
  inv : ∀ v x z, plainElem (H := Unit) P et v = some z → z.1 = .lit (lit x) → v = mkV x
  zero : β
  zrun : ∀ w, (zeroValue et).run P w = .ok (mkV zero) w
  zwf : wfV zero
theorem nodup_le {α : Type} (l : List α) : ∀ L : List α, l.Nodup → (∀ x ∈ l, x ∈ L) → l.length ≤ L.length := by
  classical
  induction l with
  | nil => intro L _ _; exact Nat.zero_le _
  | cons x l ih =>
    intro L hn hs
    have hx : x ∈ L := hs x (by simp)
    have hn2 := List.nodup_cons.1 hn
    have ih := ih (L.erase x) hn2.2 (fun y hy => (List.mem_erase_of_ne (fun e => hn2.1 (by rw [← e]; exact hy))).2 (hs y (by simp [hy])))
    rw [List.length_erase_of_mem hx] at ih
    have := List.length_pos_of_mem hx
    simp only [List.length_cons]
    omega
section
variable {P : Program} {α β : Type} (S : MS P α β)
/-- the datum D is the function f, whose keys lie in L -/
structure Fun (D : DataW Unit) (L : List α) (f : α → Option β) : Prop where
  at_ : ∀ c l, S.wf c → keyOf P S.kt (S.mkK c) = some l → ∀ zd, D.atKey l zd = match f c with | some x => .lit (S.lit x) | none => zd
  dom : ∀ l, Maps.has D l = true → ∃ c, S.wf c ∧ keyOf P S.kt (S.mkK c) = some l
  box : ∀ c x, f c = some x → c ∈ L
  vals : ∀ c x, f c = some x → S.wfV x
/-- block b is a map: the function f on the keys of L -/
def OwnM (w : World) (b : Nat) (L : List α) (f : α → Option β) : Prop :=
  ∃ D : DataW Unit, w.ownsMap P S.kt (plainElem P S.et) b L.length D ∧ Fun S D L f
def OwnR (w : World) (b r : Nat) (L : List α) (f : α → Option β) (left : α → Bool) (cnt : Nat) : Prop :=
  ∃ (D : DataW Unit) (lf : Lit → Bool), w.ranges P S.kt (plainElem P S.et) b r L.length D lf cnt ∧ Fun S D L f ∧ ∀ c l, S.wf c → keyOf P S.kt (S.mkK c) = some l → lf l = left c
variable {S} {w w' : World} {b r : Nat} {L : List α} {f : α → Option β} {left : α → Bool} {cnt : Nat}
theorem Fun.has {D : DataW Unit} (h : Fun S D L f) {c : α} {l : Lit} (hc : S.wf c) (hl : keyOf P S.kt (S.mkK c) = some l) : Maps.has D l = (f c).isSome := by
  cases hf : f c with
  | none => exact Maps.has_false_of_atKey fun z => by rw [h.at_ c l hc hl, hf]
  | some x => exact Maps.has_true_of_atKey (y := .lit (S.lit x)) fun z => by rw [h.at_ c l hc hl, hf]
theorem Fun.size_le {D : DataW Unit} (h : Fun S D L f) {n b : Nat} (hm : w.ownsMap P S.kt (plainElem P S.et) b n D) : Maps.size D ≤ L.length := by
  obtain ⟨es, rfl, hp, hk⟩ := hm.entries S.K
  have hsub : ∀ p ∈ es, ∃ c, S.wf c ∧ keyOf P S.kt (S.mkK c) = some p.1 ∧ c ∈ L := by
    intro p hpm
    have hh : Maps.has (DataW.map es) p.1 = true := List.any_eq_true.2 ⟨p, hpm, WideAt.sameKey_self (hk p hpm)⟩
    obtain ⟨c, hc, hl⟩ := h.dom _ hh
    refine ⟨c, hc, hl, ?_⟩
    rw [h.has hc hl] at hh
    obtain ⟨x, hx⟩ := Option.isSome_iff_exists.1 hh
    exact h.box c x hx
  have hn : (es.map Prod.fst).Nodup := by
    rw [List.nodup_iff_pairwise_ne, List.pairwise_map]
    exact hp
  have := nodup_le (es.map Prod.fst) (L.filterMap fun c => keyOf P S.kt (S.mkK c)) hn (fun l hl => by
    obtain ⟨p, hpm, rfl⟩ := List.mem_map.1 hl
    obtain ⟨c, _, hl, hcL⟩ := hsub p hpm
    exact List.mem_filterMap.2 ⟨c, hcL, hl⟩)
  rw [List.length_map] at this
  exact Nat.le_trans this (List.length_filterMap_le _ _)
theorem owns_bound {n : Nat} {D : DataW Unit} (hm : w.ownsMap P S.kt (plainElem P S.et) b n D) (h : Fun S D L f) : w.ownsMap P S.kt (plainElem P S.et) b L.length D := by
  have hs := h.size_le hm
  obtain ⟨es, clock, hb, F, _, rfl⟩ := hm
  refine ⟨es, clock, hb, F, ?_, rfl⟩
  simpa [Maps.size, length_sorted] using hs
theorem OwnM.made (S : MS P α β) (w : World) (L : List α) (g : Nat) (hg : w.heap.size = g) : OwnM S (w.alloc (.map #[] 0)) g L (fun _ => none) := by
  subst hg
  exact ⟨_, (World.ownsMap_made _ _ _ _).mono (Nat.zero_le _), { at_ := fun _ _ _ _ _ => rfl, dom := fun _ hl => by simp [Maps.has] at hl, box := fun _ _ h => by simp at h, vals := fun _ _ h => by simp at h }⟩
theorem OwnM.kept (h : OwnM S w b L f) {row : Option Nat} (hg : w.grownBy w' row) (hr : row ≠ some b) : OwnM S w' b L f := by
  obtain ⟨D, h1, h2⟩ := h
  exact ⟨D, h1.kept hg (Ne.symm hr), h2⟩
theorem OwnM.block (h : OwnM S w b L f) : ∃ es cl, w.heap[b]? = some (.map es cl) := by
  obtain ⟨D, ⟨es, cl, h1, _⟩, _⟩ := h
  exact ⟨es, cl, h1⟩
theorem OwnM.lt (h : OwnM S w b L f) : b < w.heap.size := by
  obtain ⟨es, cl, h1⟩ := h.block
  exact (Array.getElem?_eq_some_iff.1 h1).1
theorem OwnM.below (h : OwnM S w b L f) (hb : Below w.heap.size w w') : OwnM S w' b L f := by
  obtain ⟨D, ⟨es, cl, h1, h3⟩, h2⟩ := h
  exact ⟨D, ⟨es, cl, (hb.block b (Array.getElem?_eq_some_iff.1 h1).1).trans h1, h3⟩, h2⟩
theorem OwnM.same (h : OwnM S w b L f) (hb : w'.heap[b]? = w.heap[b]?) : OwnM S w' b L f := by
  obtain ⟨D, ⟨es, cl, h1, h3⟩, h2⟩ := h
  exact ⟨D, ⟨es, cl, hb.trans h1, h3⟩, h2⟩
theorem OwnM.look (h : OwnM S w b L f) (c : α) (hc : S.wf c) : (Instr.lookup S.mt (.map (some b)) (S.mkK c) false).run P w = .ok (S.mkV ((f c).getD S.zero)) w := by
  obtain ⟨D, h1, h2⟩ := h
  obtain ⟨l, hl⟩ := S.key c hc
  obtain ⟨v, ps, hrun, hv⟩ := h1.lookup S.K S.ht (S.zrun w) (S.elem _ S.zwf) hl
  rw [hrun]
  congr 1
  refine S.inv v _ _ hv ?_
  rw [h2.at_ c l hc hl]
  cases f c <;> rfl
theorem OwnM.look_ok (h : OwnM S w b L f) (c : α) (hc : S.wf c) : (Instr.lookup S.mt (.map (some b)) (S.mkK c) true).run P w = .ok (.tuple #[S.mkV ((f c).getD S.zero), .bool (f c).isSome]) w := by
  obtain ⟨D, h1, h2⟩ := h
  obtain ⟨l, hl⟩ := S.key c hc
  obtain ⟨v, ps, hrun, hv⟩ := h1.look_ok S.K S.ht (S.zrun w) (S.elem _ S.zwf) hl
  rw [hrun, h2.has hc hl]
  have : v = S.mkV ((f c).getD S.zero) := by
    refine S.inv v _ _ hv ?_
    rw [h2.at_ c l hc hl]
    cases f c <;> rfl
  rw [this]
def put [DecidableEq α] (f : α → Option β) (c : α) (x : β) : α → Option β := fun d => if d = c then some x else f d
theorem Fun.put [DecidableEq α] {D : DataW Unit} (h : Fun S D L f) (hm : Maps.IsMap D) {c : α} {x : β} {l : Lit} (hc : S.wf c) (hl : keyOf P S.kt (S.mkK c) = some l) (hx : S.wfV x) (hL : c ∈ L) : Fun S (D.put l (.lit (S.lit x))) L (put f c x) := by
  refine ⟨fun d l' hd hl' zd => ?_, fun l' hl' => ?_, fun d y hd => ?_, fun d y hd => ?_⟩
  · unfold Go.Proofs.Ytdijlakeonionaa.put
    by_cases he : l' = l
    · subst he
      have : d = c := S.inj _ _ (S.K.inj hl' hl)
      subst this
      rw [Maps.atKey_put_same hm (S.K.key hl), if_pos rfl]
    · have : d ≠ c := fun hcc => he (by subst hcc; rw [hl] at hl'; cases hl'; rfl)
      rw [Maps.atKey_put_other he, h.at_ d l' hd hl', if_neg this]
  · by_cases he : l' = l
    · subst he
      exact ⟨c, hc, hl⟩
    · rw [Maps.has_put_other he] at hl'
      exact h.dom l' hl'
  · unfold Go.Proofs.Ytdijlakeonionaa.put at hd
    split at hd
    · rename_i e; rw [e]; exact hL
    · exact h.box d y hd
  · unfold Go.Proofs.Ytdijlakeonionaa.put at hd
    split at hd
    · cases hd; exact hx
    · exact h.vals d y hd
theorem owns_isMap {n : Nat} {D : DataW Unit} {k : TypeId} {R : Value → Option (DataW Unit × List MemPlace)} (h : w.ownsMap P k R b n D) : Maps.IsMap D := by
  obtain ⟨es, cl, _, _, _, rfl⟩ := h
  exact ⟨_, rfl⟩
theorem OwnM.put [DecidableEq α] (h : OwnM S w b L f) (c : α) (hc : S.wf c) (x : β) (hx : S.wfV x) (hL : c ∈ L) (hn : L.length < maxLen) :
    ∃ w', (Instr.mapUpdate S.mt (.map (some b)) (S.mkK c) (S.mkV x)).run P w = .ok () w' ∧ OwnM S w' b L (put f c x) ∧ w.grownBy w' (some b) := by
  obtain ⟨D, h1, h2⟩ := h
  obtain ⟨l, hl⟩ := S.key c hc
  obtain ⟨w', hrun, h3, h4⟩ := h1.update S.K S.ht hn hl (S.elem x hx)
  have h5 := h2.put (owns_isMap h1) hc hl hx hL
  exact ⟨w', hrun, ⟨_, owns_bound h3 h5, h5⟩, h4⟩
theorem wpList_putM [DecidableEq α] {w : World} {ops : Array Oper} {rest : List Oper} {o : Oper} {a : Act} {Q : Exit → Act → World → Prop} (hg : o.guard = none) (m x v : Operand)
    (hop : o.op = Op.mapUpdate S.mt m x v ∨ o.op = Op.insert S.mt m x v) (b : Nat) (L : List α) (f : α → Option β) (c : α) (y : β) (hm : a.eval m = .map (some b)) (hx : a.eval x = S.mkK c) (hv : a.eval v = S.mkV y)
    (h : OwnM S w b L f) (hc : S.wf c) (hy : S.wfV y) (hL : c ∈ L) (hn : L.length < maxLen) (hK : ∀ w', OwnM S w' b L (Go.Proofs.Ytdijlakeonionaa.put f c y) → w.grownBy w' (some b) → wpList P ops Q rest (a.put o.dst undef) w') : wpList P ops Q (o :: rest) a w := by
  refine wpList_plain hg fun K' hK' => ?_
  obtain ⟨w', hrun, r1, r2⟩ := h.put c hc y hy hL hn
  unfold Oper.wp
  rcases hop with hop | hop <;> (simp [execOp, hop, hm, hx, hv, hrun, Result.andThen]; exact hK' _ _ (hK w' r1 r2))
theorem OwnR.own (h : OwnR S w b r L f left cnt) : OwnM S w b L f := by
  obtain ⟨D, lf, h1, h2, _⟩ := h
  exact ⟨D, h1.owns, h2⟩
theorem OwnR.ne (h : OwnR S w b r L f left cnt) : r ≠ b := by
  obtain ⟨D, lf, h1, _⟩ := h
  exact h1.ne
theorem OwnR.lt (h : OwnR S w b r L f left cnt) : r < w.heap.size := by
  obtain ⟨D, lf, h1, _⟩ := h
  exact h1.lt
theorem OwnR.kept (h : OwnR S w b r L f left cnt) {row : Option Nat} (hg : w.grownBy w' row) (hb : row ≠ some b) (hr : row ≠ some r) : OwnR S w' b r L f left cnt := by
  obtain ⟨D, lf, h1, h2⟩ := h
  exact ⟨D, lf, h1.kept hg (Ne.symm hb) (Ne.symm hr), h2⟩
theorem OwnR.below (h : OwnR S w b r L f left cnt) (hb : Below w.heap.size w w') : OwnR S w' b r L f left cnt :=
  h.kept (row := none) ⟨hb.os, hb.tape, hb.output, hb.size, fun k hk _ => hb.block k hk⟩ (by simp) (by simp)
end
end Go.Proofs.Ytdijlakeonionaa

/-
  Outputs as a plain law: places, what is accepted from a place, the list of outputs in order. No program in sight.
-/
namespace Go.Proofs.Ytdijlakeonionaa
structure Plc where
  q : Int
  i : Int
  deriving DecidableEq
def nxP (a : PArc) (c : Plc) : Plc := ⟨a.tgt, c.i + (stepD a.inp : Int)⟩
def okP (xs : List Int) (a : PArc) (c : Plc) : Bool := stepOk xs c.i.toNat a.inp
structure PBox (F : PFst) (xs : List Int) (c : Plc) : Prop where
  q0 : 0 ≤ c.q
  q1 : c.q < F.states
  i0 : 0 ≤ c.i
  i1 : c.i ≤ xs.length
/-- an arc that leaves a place -/
def Lv (F : PFst) (xs : List Int) (a : PArc) (c : Plc) : Prop := a ∈ F.arcs ∧ a.fr = c.q ∧ okP xs a c = true
/-- w is written from the place c to the end -/
def AccP (F : PFst) (xs : List Int) (c : Plc) (w : List Int) : Prop := ∃ t, t ∈ F.final ∧ Path F.arcs c.q t (xs.drop c.i.toNat) w
def AccS (F : PFst) (xs : List Int) (V : Plc → Bool) (w : List Int) : Prop := ∃ c, V c = true ∧ AccP F xs c w
structure GoodA (F : PFst) : Prop where
  tgt : ∀ a, a ∈ F.arcs → 0 ≤ a.fr ∧ a.fr < F.states ∧ 0 ≤ a.tgt ∧ a.tgt < F.states ∧ 0 ≤ a.out
section
variable {F : PFst} {xs : List Int}
theorem PBox.step (hF : GoodA F) {c : Plc} (hc : PBox F xs c) {a : PArc} (h : Lv F xs a c) : PBox F xs (nxP a c) := by
  obtain ⟨h1, h2, h3⟩ := h
  obtain ⟨_, _, t0, t1, _⟩ := hF.tgt a h1
  have := hc.i0
  have := hc.i1
  have hle := step_le xs c.i.toNat a.inp (by omega) h3
  exact ⟨t0, t1, by simp only [nxP]; omega, by simp only [nxP]; omega⟩
theorem AccP.cons {c : Plc} (hc : 0 ≤ c.i) {a : PArc} (h : Lv F xs a c) {w : List Int} (hw : AccP F xs (nxP a c) w) : AccP F xs c (sym a.out ++ w) := by
  obtain ⟨t, ht, hp⟩ := hw
  obtain ⟨h1, h2, h3⟩ := h
  refine ⟨t, ht, ?_⟩
  have h4 := (Path.one h1).trans hp
  rw [h2] at h4
  have e : xs.drop c.i.toNat = sym a.inp ++ xs.drop (nxP a c).i.toNat := by
    have ho : stepOk xs c.i.toNat a.inp = true := h3
    have e1 : (nxP a c).i.toNat = c.i.toNat + stepD a.inp := by simp only [nxP]; omega
    rw [e1]
    unfold stepOk at ho
    unfold stepD sym
    by_cases hx : a.inp = 0
    · simp [hx]
    · simp only [hx, if_false]
      have h2 : xs[c.i.toNat]? = some a.inp := by simpa [hx] using ho
      obtain ⟨hl, he⟩ := List.getElem?_eq_some_iff.1 h2
      rw [List.drop_eq_getElem_cons hl, he]
      rfl
  rw [e]
  exact h4
/-- the first step of a path -/
theorem AccP.inv {c : Plc} (hc : PBox F xs c) {w : List Int} (h : AccP F xs c w) : (c.q ∈ F.final ∧ c.i = xs.length ∧ w = []) ∨ ∃ a w', Lv F xs a c ∧ AccP F xs (nxP a c) w' ∧ w = sym a.out ++ w' := by
  obtain ⟨t, ht, p, h1, h2, h3, h4⟩ := h
  have := hc.i0
  have := hc.i1
  cases p with
  | nil =>
    simp only [chain] at h2
    subst h2
    refine .inl ⟨ht, ?_, by simpa [outs] using h4.symm⟩
    have := congrArg List.length h3
    simp [ins] at this
    omega
  | cons a p =>
    obtain ⟨e1, h2⟩ := h2
    have hd := step_drop xs c.i.toNat a.inp (ins p) (by rw [← h3]; simp [ins])
    refine .inr ⟨a, outs p, ⟨h1 a (by simp), e1, hd.1⟩, ⟨t, ht, p, fun b hb => h1 b (by simp [hb]), h2, ?_, rfl⟩, ?_⟩
    · rw [hd.2]
      congr 1
      simp only [nxP]
      omega
    · rw [← h4]
      simp [outs]
/-- closed under arcs that write nothing -/
def ClosedP (F : PFst) (xs : List Int) (V : Plc → Bool) : Prop := ∀ c, V c = true → ∀ a, Lv F xs a c → a.out = 0 → V (nxP a c) = true
def BoxP (F : PFst) (xs : List Int) (V : Plc → Bool) : Prop := ∀ c, V c = true → PBox F xs c
/-- the symbols written next -/
def SymsP (F : PFst) (xs : List Int) (V : Plc → Bool) (x : Int) : Prop := 0 < x ∧ ∃ c a, V c = true ∧ Lv F xs a c ∧ a.out = x
/-- the places after x was written -/
def IsWr (F : PFst) (xs : List Int) (V : Plc → Bool) (x : Int) (V' : Plc → Bool) : Prop := ∀ d, V' d = true ↔ ∃ c a, V c = true ∧ Lv F xs a c ∧ a.out = x ∧ d = nxP a c
/-- V is what is reached silently from N -/
def SpreadP (F : PFst) (xs : List Int) (N V : Plc → Bool) : Prop := (∀ c, N c = true → V c = true) ∧ BoxP F xs V ∧ ClosedP F xs V ∧ ∀ c, V c = true → ∀ w, AccP F xs c w → AccS F xs N w
theorem SpreadP.acc {N V : Plc → Bool} (h : SpreadP F xs N V) (w : List Int) : AccS F xs V w ↔ AccS F xs N w :=
  ⟨fun ⟨c, hc, hw⟩ => h.2.2.2 c hc w hw, fun ⟨c, hc, hw⟩ => ⟨c, h.1 c hc, hw⟩⟩
end
end Go.Proofs.Ytdijlakeonionaa

/-
  outgoing of fst: the arcs of each state.
-/
namespace Go.Proofs.Ytdijlakeonionaa
open Go.ChangeShapes Go.WideShapes Go.ChangeAt Go.RowKit
def arcsOf (L : List PArc) (q : Nat) : List PArc := L.filter fun a => a.fr == (q : Int)
theorem arcsOf_snoc (L : List PArc) (a : PArc) (q : Nat) : arcsOf (L ++ [a]) q = arcsOf L q ++ if a.fr = (q : Int) then [a] else [] := by
  simp only [arcsOf, List.filter_append, List.filter_cons, List.filter_nil, beq_iff_eq]
/-- the table of outgoing arcs, as it is read -/
def Arcs (w : World) (g S : Nat) (L : List PArc) : Prop := RTbl 4 w g S (fun q => (arcsOf L q).length) (fun q => arcsCells (arcsOf L q))
theorem Arcs.below {w w' : World} {g S : Nat} {L : List PArc} (h : Arcs w g S L) (hb : Below w.heap.size w w') : Arcs w' g S L := RTbl.below h hb
theorem Arcs.at_ {w : World} {g S : Nat} {L : List PArc} (h : Arcs w g S L) {q : Nat} (hq : q < S) : ∃ A n c, w.cell? ⟨g, q, none⟩ = some (.slice A n c) ∧ RdA w (.slice A n c) (arcsOf L q) := by
  obtain ⟨v, h1, h2⟩ := h.2 q hq
  have h3 : RdA w v (arcsOf L q) := h2
  obtain ⟨A, n, c, rfl, _, _, _, _⟩ := h3.op
  exact ⟨A, n, c, h1, h3⟩
theorem made_nils (n : Nat) : madeCells (Value.slice none 0 0).cells (n * 1) = (List.replicate n (Value.slice none 0 0)).toArray := by
  have h := toList_madeCells_one (.slice none 0 0) n
  rw [Nat.mul_one]
  apply Array.toList_inj.1
  rw [show (Value.slice none 0 0).cells = #[Value.slice none 0 0] from rfl, h]
theorem wp_app_arc1 {w : World} {o : Oper} {a : Act} {K : Act → World → Prop} {Q : Exit → Act → World → Prop} (s x : Operand)
    (ho : o.op = .call { callee := .builtin .append, args := #[s, x], argTypes := #[46, 46] })
    (base : Nat) (v : Value) (l : List PArc) (hs : a.eval s = v) (hown : OwnA w base v l) (x0 x1 x2 x3 : Int) (hl : l.length ≤ 1000000) (hbase : base ≤ w.heap.size)
    (hx : a.eval x = .slice (some ⟨w.heap.size, 0, none⟩) 1 1)
    (h : ∀ g' cap w', OwnA w' base (.slice (some ⟨g', 0, none⟩) (l.length + 1) cap) (l ++ [⟨x0, x1, x2, x3⟩]) → w.grownBy w' v.ownBlock → (v.ownBlock = some g' ∨ w.heap.size ≤ g') → g' < w'.heap.size → K (a.put o.dst (.slice (some ⟨g', 0, none⟩) (l.length + 1) cap)) w') :
    o.wp Try.prog a (w.alloc (.cells #[.int .i64 x0, .int .i64 x1, .int .i64 x2, .int .i64 x3] 98)) K Q := by
  obtain ⟨i0, hi, hz0, hz1, hz2⟩ := info_parts infoA0
  refine wp_append_lies _ s x 46 ho base 98 i0 _ 4 32 Try.underlying46 hi hz0 hz1 hz2 rfl (by decide) v l.length (arcsCells l) hs (World.ownsRow.alloc hown _) ⟨w.heap.size, 0, none⟩ 1 1
    [.int .i64 x0, .int .i64 x1, .int .i64 x2, .int .i64 x3] hx rfl ?_ ?_ (by decide) (by simp only [maxLen]; omega) (by omega) (by simp; omega) (w.heap.size + 1) (by simp) ?_
  · intro j u hu
    match j, hu with
    | 0, hu => simp at hu; subst hu; simp [go_sem, Addr.add]
    | 1, hu => simp at hu; subst hu; simp [go_sem, Addr.add]
    | 2, hu => simp at hu; subst hu; simp [go_sem, Addr.add]
    | 3, hu => simp at hu; subst hu; simp [go_sem, Addr.add]
  · intro u hu
    simp at hu
    rcases hu with rfl | rfl | rfl | rfl <;> rfl
  · intro g' cap w' h1 h2 h3 h4
    refine h g' cap w' ?_ ?_ (h3.imp_right fun e => by omega) h4
    · unfold OwnA
      rw [arcsCells_snoc, List.length_append]
      exact h1
    · exact ⟨h2.os, h2.tape, h2.output, Nat.le_trans (by simp) h2.size, fun k hk hne => (h2.block k (by simp; omega) hne).trans (Below.heap_alloc w _ k hk)⟩
/-- the table that is being filled -/
def ATbl (w : World) (base g S : Nat) (L : List PArc) : Prop := ∃ vs, vs.length = S ∧ Tbl 46 98 4 w base g vs (fun q => (arcsOf L q).length) (fun q => arcsCells (arcsOf L q))
theorem ATbl.push {w w1 : World} {base g S : Nat} {L : List PArc} {vs : List Value} (hS : vs.length = S) (h : Tbl 46 98 4 w base g vs (fun q => (arcsOf L q).length) (fun q => arcsCells (arcsOf L q))) {a : PArc} {q : Nat} {v : Value} (hq : vs[q]? = some v) (ha : a.fr = (q : Int)) (hg : w.grownBy w1 v.ownBlock) {g' cap : Nat}
    (ho : OwnA w1 base (.slice (some ⟨g', 0, none⟩) ((arcsOf L q).length + 1) cap) (arcsOf L q ++ [a])) (hl : v.ownBlock = some g' ∨ w.heap.size ≤ g') :
    ATbl (w1.setCell ⟨g, q, none⟩ (.slice (some ⟨g', 0, none⟩) ((arcsOf L q).length + 1) cap)) base g S (L ++ [a]) := by
  have ho' : w1.ownsRow base 98 4 (.slice (some ⟨g', 0, none⟩) ((arcsOf L q).length + 1) cap) ((arcsOf L q).length + 1) (arcsCells (arcsOf L q ++ [a])) := by
    have := ho
    unfold OwnA at this
    rw [List.length_append] at this
    exact this
  refine ⟨_, by simpa using hS, h.push hq hg ho' hl ?_ ?_ ?_⟩
  · simp [arcsOf_snoc, ha]
  · simp [arcsOf_snoc, ha]
  · intro q' hne
    have hne' : ¬ a.fr = (q' : Int) := by omega
    simp [arcsOf_snoc, hne']
end Go.Proofs.Ytdijlakeonionaa

/-
  The search of Accepts as a plain law: the configurations that were seen, and those that wait.
-/
namespace Go.Proofs.Ytdijlakeonionaa
def nx (a : PArc) (c : Cfg) : Cfg := ⟨a.tgt, c.i + (stepD a.inp : Int), c.k + (stepD a.out : Int)⟩
def okC (xs ys : List Int) (a : PArc) (c : Cfg) : Bool := stepOk xs c.i.toNat a.inp && stepOk ys c.k.toNat a.out
structure CBox (F : PFst) (xs ys : List Int) (c : Cfg) : Prop where
  q0 : 0 ≤ c.q
  q1 : c.q < F.states
  i0 : 0 ≤ c.i
  i1 : c.i ≤ xs.length
  k0 : 0 ≤ c.k
  k1 : c.k ≤ ys.length
  path : Path F.arcs 0 c.q (xs.take c.i.toNat) (ys.take c.k.toNat)
def finC (F : PFst) (xs ys : List Int) (c : Cfg) : Bool := decide (c.q ∈ F.final) && (c.i == (xs.length : Int) && c.k == (ys.length : Int))
def DoneC (F : PFst) (xs ys : List Int) (Vs : List Cfg) (c : Cfg) : Prop := finC F xs ys c = false ∧ ∀ a, a ∈ F.arcs → a.fr = c.q → okC xs ys a c = true → nx a c ∈ Vs
def idxC (xs ys : List Int) (c : Cfg) : Nat := idx (xs.length + 1) (ys.length + 1) c.q.toNat c.i.toNat c.k.toNat
def marks (F : PFst) (xs ys : List Int) : List Cfg → List Bool
  | [] => List.replicate (size F xs ys) false
  | c :: l => (marks F xs ys l).set (idxC xs ys c) true
theorem marks_len (F : PFst) (xs ys : List Int) (l : List Cfg) : (marks F xs ys l).length = size F xs ys := by
  induction l with
  | nil => simp [marks]
  | cons c l ih => simp [marks, ih]
structure Dfs (F : PFst) (xs ys : List Int) (Vs Qs : List Cfg) (E : Cfg → Prop) : Prop where
  sub : ∀ c, c ∈ Qs → c ∈ Vs
  box : ∀ c, c ∈ Vs → CBox F xs ys c
  start : ⟨0, 0, 0⟩ ∈ Vs
  done : ∀ c, c ∈ Vs → c ∈ Qs ∨ E c ∨ DoneC F xs ys Vs c
  cnt : Vs.length + cf (marks F xs ys Vs) ≤ size F xs ys
  ql : Qs.length ≤ Vs.length
section
variable {F : PFst} {xs ys : List Int}
theorem CBox.lt {c : Cfg} (h : CBox F xs ys c) : idxC xs ys c < size F xs ys := by
  have := h.q0; have := h.q1; have := h.i0; have := h.i1; have := h.k0; have := h.k1
  exact idx_lt (by omega) (by omega) (by omega)
theorem CBox.inj {c d : Cfg} (h : CBox F xs ys c) (k : CBox F xs ys d) (he : idxC xs ys c = idxC xs ys d) : c = d := by
  have := h.q0; have := h.i0; have := h.i1; have := h.k0; have := h.k1
  have := k.q0; have := k.i0; have := k.i1; have := k.k0; have := k.k1
  obtain ⟨e1, e2, e3⟩ := idx_inj (by omega) (by omega) (by omega) (by omega) he
  cases c; cases d
  simp only at *
  congr 1 <;> omega
theorem marks_at {l : List Cfg} {c : Cfg} (hl : ∀ d, d ∈ l → CBox F xs ys d) (hc : CBox F xs ys c) (hn : c ∉ l) : (marks F xs ys l).getD (idxC xs ys c) false = false := by
  induction l with
  | nil =>
    simp only [marks, List.getD_eq_getElem?_getD, List.getElem?_replicate]
    split <;> rfl
  | cons d l ih =>
    rw [marks, getD_set, if_neg]
    · exact ih (fun x hx => hl x (by simp [hx])) (fun h => hn (by simp [h]))
    · rintro ⟨h, _⟩
      exact hn (by rw [CBox.inj (hl d (by simp)) hc h]; simp)
theorem cf_push {l : List Cfg} {c : Cfg} (hl : ∀ d, d ∈ l → CBox F xs ys d) (hc : CBox F xs ys c) (hn : c ∉ l) : cf (marks F xs ys (c :: l)) < cf (marks F xs ys l) :=
  (cf_set _ _).2 (by rw [marks_len]; exact hc.lt) (marks_at hl hc hn)
theorem Dfs.push {Vs Qs : List Cfg} {E : Cfg → Prop} (h : Dfs F xs ys Vs Qs E) {c : Cfg} (hb : CBox F xs ys c) (hn : c ∉ Vs) : Dfs F xs ys (c :: Vs) (Qs ++ [c]) E := by
  refine ⟨fun d hd => ?_, fun d hd => ?_, by simp [h.start], fun d hd => ?_, ?_, by have := h.ql; simp; omega⟩
  · rcases List.mem_append.1 hd with h1 | h1
    · simp [h.sub d h1]
    · simp at h1; simp [h1]
  · rcases List.mem_cons.1 hd with rfl | h1
    · exact hb
    · exact h.box d h1
  · rcases List.mem_cons.1 hd with rfl | h1
    · exact .inl (by simp)
    · rcases h.done d h1 with h2 | h2 | h2
      · exact .inl (by simp [h2])
      · exact .inr (.inl h2)
      · exact .inr (.inr ⟨h2.1, fun a ha hf ho => by simp [h2.2 a ha hf ho]⟩)
  · have := cf_push h.box hb hn
    have := h.cnt
    simp only [List.length_cons]
    omega
end
end Go.Proofs.Ytdijlakeonionaa

/-
  Accepts of fst.
-/
namespace Go.Proofs.Ytdijlakeonionaa
open Go.ChangeShapes Go.WideShapes Go.ChangeAt Go.RowKit
theorem size_le {F : PFst} {xs ys : List Int} (hR : Right F) (hS : F.states ≤ 4096) (hX : xs.length ≤ 1000) (hY : ys.length ≤ 1000) : size F xs ys ≤ 4104196096 := by
  have := hR.1
  exact Nat.mul_le_mul (Nat.mul_le_mul (by omega : F.states.toNat ≤ 4096) (by omega : xs.length + 1 ≤ 1001)) (by omega : ys.length + 1 ≤ 1001)
end Go.Proofs.Ytdijlakeonionaa

/-
  The maps of fst: sets of places, numbers at places, sets of ints, numbers at ints; the list of all places; sums over it.
-/
namespace Go.Proofs.Ytdijlakeonionaa
open Go.ChangeShapes Go.WideShapes Go.ChangeAt Go.RowKit
open Go.Maps (Keyed)
set_option maxRecDepth 100000
structure Plc.Wf (c : Plc) : Prop where
  q : InI c.q
  i : InI c.i
theorem zeroI (w : World) : (zeroValue 3).run Try.prog w = .ok (.int .i64 0) w := by kernel_rfl
theorem elem_int_inv (v : Value) (x : Int) (z : DataW Unit × List MemPlace) (h : plainElem (H := Unit) Try.prog 3 v = some z) (hz : z.1 = .lit (.int .i64 x)) : v = .int .i64 x := by
  obtain ⟨a, rfl, rfl, _⟩ := plainElem_int_inv Try.underlying3 h
  simp at hz
  rw [hz]
theorem intLaw : Keyed Try.prog 3 := Maps.int_keyed Try.underlying3
theorem keyInt (c : Int) (h : InI c) : ∃ l, keyOf Try.prog 3 (.int .i64 c) = some l := ⟨_, Maps.keyOf_int_mk Try.underlying3 (wf_in h)⟩
theorem int_inj (c d : Int) (h : Value.int .i64 c = .int .i64 d) : c = d := by simpa using h
theorem inI0 : InI 0 := by unfold InI; omega
def NI : MS Try.prog Int Int := { mt := 123, kt := 3, et := 3, ht := Try.underlying123, K := intLaw, mkK := Value.int .i64, wf := InI, key := keyInt, inj := int_inj, mkV := Value.int .i64, lit := Lit.int .i64, wfV := InI, elem := fun _ h => plainElem_int Try.underlying3 (wf_in h), inv := elem_int_inv, zero := 0, zrun := zeroI, zwf := inI0 }
section
variable {α : Type}
variable [DecidableEq α]
def addS (V : α → Bool) (c : α) : α → Bool := fun d => decide (d = c) || V d
theorem addS_self (V : α → Bool) (c : α) : addS V c c = true := by simp [addS]
theorem addS_sub {V : α → Bool} {c d : α} (h : V d = true) : addS V c d = true := by simp [addS, h]
theorem addS_iff {V : α → Bool} {c d : α} : addS V c d = true ↔ d = c ∨ V d = true := by simp [addS]
end
theorem PBox.wf {F : PFst} {xs : List Int} {c : Plc} (h : PBox F xs c) (hS : F.states ≤ 4096) (hX : xs.length ≤ 1000000) : c.Wf := by
  have := h.q0; have := h.q1; have := h.i0; have := h.i1
  exact ⟨by unfold InI; omega, by unfold InI; omega⟩
def wsum {α : Type} (f : α → Nat) (l : List α) : Nat := (l.map f).sum
theorem wsum_le {α : Type} {f g : α → Nat} {l : List α} (h : ∀ x ∈ l, f x ≤ g x) : wsum f l ≤ wsum g l := by
  induction l with
  | nil => exact Nat.le_refl _
  | cons x l ih =>
    have h1 := h x (by simp)
    have h2 := ih (fun y hy => h y (by simp [hy]))
    simp only [wsum, List.map_cons, List.sum_cons] at h2 ⊢
    omega
theorem wsum_lt {α : Type} {f g : α → Nat} {l : List α} (h : ∀ x ∈ l, f x ≤ g x) {c : α} (hc : c ∈ l) (hlt : f c < g c) : wsum f l < wsum g l := by
  induction l with
  | nil => cases hc
  | cons x l ih =>
    have h1 := h x (by simp)
    have h3 : ∀ y ∈ l, f y ≤ g y := fun y hy => h y (by simp [hy])
    simp only [wsum, List.map_cons, List.sum_cons]
    rcases List.mem_cons.1 hc with rfl | hc
    · have := wsum_le h3
      simp only [wsum] at this
      omega
    · have := ih h3 hc
      simp only [wsum] at this
      omega
theorem wsum_const {α : Type} (k : Nat) (l : List α) {f : α → Nat} (h : ∀ x ∈ l, f x ≤ k) : wsum f l ≤ l.length * k := by
  induction l with
  | nil => simp [wsum]
  | cons x l ih =>
    have h1 := h x (by simp)
    have h2 := ih (fun y hy => h y (by simp [hy]))
    simp only [wsum, List.map_cons, List.sum_cons, List.length_cons, Nat.add_mul] at h2 ⊢
    omega
end Go.Proofs.Ytdijlakeonionaa

/-
  The least numbers of elements that are still written, as a plain law.
-/
namespace Go.Proofs.Ytdijlakeonionaa
def costA (a : PArc) : Int := if a.out = 0 then 0 else 1
def keysN (lf : Plc → Option Int) (bx : List Plc) : Nat := wsum (fun c => if (lf c).isSome then 1 else 0) bx
def mwt (lf : Plc → Option Int) (N : Nat) (c : Plc) : Nat := match lf c with | some v => v.toNat | none => N + 1
def mw (lf : Plc → Option Int) (bx : List Plc) : Nat := wsum (mwt lf bx.length) bx
structure MInv (F : PFst) (xs : List Int) (bx : List Plc) (lf : Plc → Option Int) : Prop where
  val : ∀ c v, lf c = some v → PBox F xs c ∧ 0 ≤ v ∧ v < (keysN lf bx : Int)
  fin : ∀ t, t ∈ F.final → lf ⟨t, xs.length⟩ = some 0
def RelaxedAt (xs : List Int) (lf : Plc → Option Int) (a : PArc) (c : Plc) : Prop := okP xs a c = true → ∀ v, lf (nxP a c) = some v → ∃ u, lf c = some u ∧ u ≤ v + costA a
def PassM (F : PFst) (xs : List Int) (bx : List Plc) (lf0 : Plc → Option Int) (D : PArc → Plc → Prop) (lf : Plc → Option Int) (more : Bool) : Prop :=
  MInv F xs bx lf ∧ mw lf bx ≤ mw lf0 bx ∧ (more = true → mw lf bx < mw lf0 bx) ∧ (more = false → lf = lf0 ∧ ∀ a c, D a c → RelaxedAt xs lf0 a c)
/-- what measure leaves -/
structure MOk (F : PFst) (xs : List Int) (N : Nat) (lf : Plc → Option Int) : Prop where
  acc : ∀ c, PBox F xs c → ∀ w, AccP F xs c w → ∃ u, lf c = some u ∧ u ≤ (w.length : Int)
  fin : ∀ t, t ∈ F.final → lf ⟨t, xs.length⟩ = some 0
  val : ∀ c v, lf c = some v → 0 ≤ v ∧ v < (N : Int)
theorem keysN_le (lf : Plc → Option Int) (bx : List Plc) : keysN lf bx ≤ bx.length := by
  have := wsum_const 1 bx (f := fun c => if (lf c).isSome then 1 else 0) (fun x _ => by split <;> simp)
  rwa [Nat.mul_one] at this
section
variable {F : PFst} {xs : List Int} {bx : List Plc} {lf lf0 : Plc → Option Int}
theorem MInv.step (hb : ∀ c, PBox F xs c → c ∈ bx) (h : MInv F xs bx lf) {a : PArc} {c : Plc} (hc : PBox F xs c) {v : Int} (hv : lf (nxP a c) = some v) (ho : lf c = none ∨ ∃ old, lf c = some old ∧ v + costA a < old) :
    MInv F xs bx (put lf c (v + costA a)) ∧ mw (put lf c (v + costA a)) bx < mw lf bx ∧ v + costA a < (bx.length : Int) + 1 ∧ 0 ≤ v + costA a := by
  obtain ⟨_, v0, v1⟩ := h.val _ v hv
  have hcost : 0 ≤ costA a ∧ costA a ≤ 1 := by unfold costA; split <;> omega
  have hk := keysN_le lf bx
  have hcb := hb c hc
  have hput : ∀ d, d ≠ c → put lf c (v + costA a) d = lf d := fun d hd => by simp [put, hd]
  have hputc : put lf c (v + costA a) c = some (v + costA a) := by simp [put]
  have hmono : keysN lf bx ≤ keysN (put lf c (v + costA a)) bx := wsum_le fun d _ => by
    by_cases e : d = c
    · subst e; rw [hputc]; simp; split <;> omega
    · rw [hput d e]; exact Nat.le_refl _
  have hnew : v + costA a < (keysN (put lf c (v + costA a)) bx : Int) := by
    rcases ho with ho | ⟨old, ho, hlt⟩
    · have : keysN lf bx < keysN (put lf c (v + costA a)) bx := wsum_lt (fun d _ => by
        by_cases e : d = c
        · subst e; rw [hputc]; simp; split <;> omega
        · rw [hput d e]; exact Nat.le_refl _) hcb (by rw [hputc, ho]; simp)
      omega
    · have := (h.val c old ho).2.2
      omega
  have hk2 := keysN_le (put lf c (v + costA a)) bx
  refine ⟨⟨fun d u hd => ?_, fun t ht => ?_⟩, ?_, by omega, by omega⟩
  · by_cases e : d = c
    · subst e
      rw [hputc] at hd
      cases hd
      exact ⟨hc, by omega, hnew⟩
    · rw [hput d e] at hd
      obtain ⟨h1, h2, h3⟩ := h.val d u hd
      exact ⟨h1, h2, by omega⟩
  · have hf := h.fin t ht
    by_cases e : (⟨t, xs.length⟩ : Plc) = c
    · rw [e] at hf
      rcases ho with ho | ⟨old, ho, hlt⟩
      · rw [hf] at ho; cases ho
      · rw [hf] at ho
        cases ho
        omega
    · rw [hput _ e]; exact hf
  · refine wsum_lt (fun d _ => ?_) hcb ?_
    · by_cases e : d = c
      · subst e
        unfold mwt
        rw [hputc]
        rcases ho with ho | ⟨old, ho, hlt⟩
        · rw [ho]; simp only; omega
        · rw [ho]; simp only; omega
      · unfold mwt
        rw [hput d e]
        exact Nat.le_refl _
    · unfold mwt
      rw [hputc]
      rcases ho with ho | ⟨old, ho, hlt⟩
      · rw [ho]; simp only; omega
      · rw [ho]; simp only; omega
theorem PassM.start (h : MInv F xs bx lf) : PassM F xs bx lf (fun _ _ => False) lf false :=
  ⟨h, Nat.le_refl _, (fun h => by cases h), fun _ => ⟨rfl, fun _ _ h => h.elim⟩⟩
theorem PassM.weaken {D D' : PArc → Plc → Prop} {more : Bool} (h : PassM F xs bx lf0 D lf more) (hD : ∀ a c, D' a c → D a c) : PassM F xs bx lf0 D' lf more :=
  ⟨h.1, h.2.1, h.2.2.1, fun hb => ⟨(h.2.2.2 hb).1, fun a c hd => (h.2.2.2 hb).2 a c (hD a c hd)⟩⟩
/-- a place that needs no change -/
theorem PassM.keep {D D' : PArc → Plc → Prop} {more : Bool} (h : PassM F xs bx lf0 D lf more) {a : PArc} {c : Plc} (hr : RelaxedAt xs lf a c) (hD : ∀ a' c', D' a' c' → D a' c' ∨ (a' = a ∧ c' = c)) : PassM F xs bx lf0 D' lf more := by
  refine ⟨h.1, h.2.1, h.2.2.1, fun hb => ?_⟩
  obtain ⟨e, hd⟩ := h.2.2.2 hb
  refine ⟨e, fun a' c' hd' => ?_⟩
  rcases hD a' c' hd' with h | ⟨rfl, rfl⟩
  · exact hd a' c' h
  · rw [← e]; exact hr
theorem PassM.step (hb : ∀ c, PBox F xs c → c ∈ bx) {D D' : PArc → Plc → Prop} {more : Bool} (h : PassM F xs bx lf0 D lf more) {a : PArc} {c : Plc} (hc : PBox F xs c) {v : Int} (hv : lf (nxP a c) = some v) (ho : lf c = none ∨ ∃ old, lf c = some old ∧ v + costA a < old) :
    PassM F xs bx lf0 D' (put lf c (v + costA a)) true := by
  obtain ⟨h1, h2, _⟩ := h.1.step hb hc hv ho
  have := h.2.1
  exact ⟨h1, by omega, fun _ => by omega, fun hb => by cases hb⟩
theorem MInv.done (hF : GoodA F) (h : MInv F xs bx lf) (hr : ∀ a c, a ∈ F.arcs → PBox F xs c → c.q = a.fr → RelaxedAt xs lf a c) : MOk F xs bx.length lf := by
  refine ⟨?_, h.fin, fun c v hv => ?_⟩
  · rintro c hc w ⟨t, ht, p, h1, h2, h3, h4⟩
    induction p generalizing c w with
    | nil =>
      have := hc.i0
      have := hc.i1
      simp only [chain] at h2
      have hl := congrArg List.length h3
      simp [ins] at hl
      have e : c = ⟨t, xs.length⟩ := by
        cases c
        simp only at *
        congr 1
        omega
      rw [e]
      exact ⟨0, h.fin t ht, by omega⟩
    | cons a p ih =>
      have := hc.i0
      have := hc.i1
      obtain ⟨e1, h2⟩ := h2
      have hd := step_drop xs c.i.toNat a.inp (ins p) (by rw [← h3]; simp [ins])
      have hlv : Lv F xs a c := ⟨h1 a (by simp), e1, hd.1⟩
      obtain ⟨u, hu, hul⟩ := ih (nxP a c) (hc.step hF hlv) (outs p) (fun b hb => h1 b (by simp [hb])) h2 (by
        rw [hd.2]
        congr 1
        simp only [nxP]
        omega) rfl
      obtain ⟨u', hu', hle⟩ := hr a c (h1 a (by simp)) hc e1.symm hd.1 u hu
      refine ⟨u', hu', ?_⟩
      rw [← h4]
      have : ((outs (a :: p)).length : Int) = (outs p).length + costA a := by
        unfold costA
        by_cases ho : a.out = 0 <;> simp [outs, sym, ho]
      omega
  · obtain ⟨_, h1, h2⟩ := h.val c v hv
    have := keysN_le lf bx
    exact ⟨h1, by omega⟩
/-- the start: nothing at the ends -/
def lfin (n : Nat) (l : List Int) : Plc → Option Int := fun c => if decide (c.i = n) && decide (c.q ∈ l) then some 0 else none
theorem MInv.start (hb : ∀ c, PBox F xs c → c ∈ bx) (hf : ∀ q, q ∈ F.final → 0 ≤ q ∧ q < F.states) : MInv F xs bx (lfin xs.length F.final) := by
  refine ⟨fun c v hv => ?_, fun t ht => by simp [lfin, ht]⟩
  unfold lfin at hv
  split at hv
  · rename_i h
    simp only [Bool.and_eq_true, decide_eq_true_eq] at h
    cases hv
    obtain ⟨h1, h2⟩ := hf c.q h.2
    have hc : PBox F xs c := ⟨h1, h2, by omega, by omega⟩
    refine ⟨hc, Int.le_refl _, ?_⟩
    have : wsum (fun _ => 0) bx < keysN (lfin xs.length F.final) bx := wsum_lt (fun _ _ => Nat.zero_le _) (hb c hc) (by simp [lfin, h])
    omega
  · cases hv
end
end Go.Proofs.Ytdijlakeonionaa

/-
  The finder of fst: measure.
-/
namespace Go.Proofs.Ytdijlakeonionaa
open Go.ChangeShapes Go.WideShapes Go.ChangeAt Go.RowKit
section
variable {w w' : World} {B S g : Nat} {va vf vin lv fv : Value} {m : Int}
end
theorem OwnM.ne {P : Program} {α β : Type} {S : MS P α β} {w : World} {b : Nat} {L : List α} {f : α → Option β} (h : OwnM S w b L f) {k : Nat} {cs : Array Value} {t : TypeId} {mm : Nat × Nat} (hk : w.heap[k]? = some (.cells cs t mm)) : k ≠ b := by
  obtain ⟨es, cl, hm⟩ := h.block
  rintro rfl
  rw [hk] at hm
  cases hm
theorem at_of_drop {α : Type} {l r : List α} {x : α} {j : Nat} (h : l.drop j = x :: r) : l[j]? = some x := by
  have := congrArg (fun t => t[0]?) h
  simpa using this
theorem take_of_drop {α : Type} {l r : List α} {x : α} {j : Nat} (h : l.drop j = x :: r) : l.take (j + 1) = l.take j ++ [x] := by
  rw [List.take_add_one, at_of_drop h]; rfl
end Go.Proofs.Ytdijlakeonionaa

/-
  The shelf's contracts for slices.Sort and slices.Clone at ints, in plain words (printed by the kit's laying tools); a row of the call's own, sorted; slices.Equal.
-/
namespace Go.Proofs.Ytdijlakeonionaa
open Go.Shelf
open Go.ChangeShapes Go.WideShapes Go.ChangeAt Go.RowKit Go.Sort
theorem clone_any (v : Value) (l : List Int) (w : World) (hv : RdI w v l) (hl : l.length ≤ 1000000) :
    Calls Try.prog 69 #[v] w fun e w' => (∃ v', e = .returned v' ∧ OwnI w' w.heap.size v' l) ∧ Below w.heap.size w w' := by
  obtain ⟨A, c, rfl, hmc, hc, hlen, hcell⟩ := hv
  rcases A with _ | ad
  · refine (slices_Clone_int_nil l.length c w).mono ?_
    rintro e w' ⟨rfl, rfl⟩
    have h0 : l.length = 0 := by
      rcases Nat.eq_zero_or_pos l.length with h0 | h0
      · exact h0
      · obtain ⟨_, _, h, _⟩ := hcell h0
        cases h
    have hn : l = [] := List.eq_nil_of_length_eq_zero h0
    subst hn
    exact ⟨⟨_, rfl, World.ownsRow_nil _ _ _ _⟩, Below.refl _ _⟩
  · rcases Nat.eq_zero_or_pos l.length with h0 | h0
    · have hn : l = [] := List.eq_nil_of_length_eq_zero h0
      subst hn
      refine (slices_Clone_int_zero ad c w).mono ?_
      rintro e w' ⟨v', rfl, ho, _, hb⟩
      exact ⟨⟨_, rfl, ho⟩, hb⟩
    · obtain ⟨b, off, h, _, hcc⟩ := hcell h0
      cases h
      refine (slices_Clone_int b off l.length c l w (Nat.le_refl _) (by omega) (fun j hj => ?_)).mono ?_
      · refine hcc j _ ?_
        simp [List.getElem?_eq_getElem hj, List.getD]
      · rintro e w' ⟨v', rfl, ho, _, hb⟩
        rw [List.take_of_length_le (Nat.le_refl _)] at ho
        exact ⟨⟨_, rfl, ho⟩, hb⟩
end Go.Proofs.Ytdijlakeonionaa

/-
  The finder of fst: what a call may change; rows of places; ends.
-/
namespace Go.Proofs.Ytdijlakeonionaa
open Go.ChangeShapes Go.WideShapes Go.ChangeAt Go.RowKit
/-- of the blocks below n, none but those of X is changed -/
def Frm (n : Nat) (X : Nat → Prop) (w w' : World) : Prop := Below 0 w w' ∧ ∀ k, k < n → ¬ X k → w'.heap[k]? = w.heap[k]?
section
variable {n n' : Nat} {X Y : Nat → Prop} {w w1 w2 : World}
theorem Frm.refl (n : Nat) (X : Nat → Prop) (w : World) : Frm n X w w := ⟨Below.refl _ _, fun _ _ _ => rfl⟩
theorem Frm.trans (h : Frm n X w w1) (k : Frm n X w1 w2) : Frm n X w w2 := ⟨h.1.trans k.1, fun j h1 h2 => (k.2 j h1 h2).trans (h.2 j h1 h2)⟩
theorem Frm.mono (h : Frm n X w w1) (hn : n' ≤ n) (hX : ∀ k, k < n' → X k → Y k) : Frm n' Y w w1 := ⟨h.1, fun k h1 h2 => h.2 k (by omega) fun h3 => h2 (hX k h1 h3)⟩
theorem Frm.of_below (h : Below n w w1) : Frm n X w w1 := ⟨h.mono (Nat.zero_le _), fun k h1 _ => h.block k h1⟩
theorem Frm.size (h : Frm n X w w1) : w.heap.size ≤ w1.heap.size := h.1.size
theorem Frm.alloc (h : Frm n X w w1) (hn : n ≤ w1.heap.size) (o : Obj) : Frm n X w (w1.alloc o) := h.trans (.of_below ((Below.refl _ _).alloc hn o))
theorem Frm.drewN (h : Frm n X w w1) (k : Nat) : Frm n X w (w1.drewN k) := ⟨below_drewN h.1 k, h.2⟩
theorem Frm.grown (h : Frm n X w w1) {row : Option Nat} (hg : w1.grownBy w2 row) (hn : n ≤ w1.heap.size) (hr : ∀ j, row = some j → X j ∨ n ≤ j) : Frm n X w w2 := by
  refine ⟨h.1.grown hg (Nat.zero_le _) (fun j _ => Nat.zero_le j), fun k h1 h2 => ?_⟩
  rw [← h.2 k h1 h2]
  refine hg.block k (by omega) fun e => ?_
  rcases hr k e.symm with h3 | h3
  · exact h2 h3
  · omega
theorem Frm.setCell (h : Frm n X w w1) (p : Addr) (u : Value) (hp : X p.block ∨ n ≤ p.block) : Frm n X w (w1.setCell p u) := by
  refine ⟨h.1.setCell (Nat.zero_le _) u, fun k h1 h2 => ?_⟩
  rw [← h.2 k h1 h2]
  refine Below.heap_setCell w1 p u k fun e => ?_
  rcases hp with h3 | h3
  · exact h2 (by rw [e]; exact h3)
  · omega
theorem Frm.below (h : Frm n X w w1) {B : Nat} (hB : B ≤ n) (hX : ∀ k, k < B → ¬ X k) : Below B w w1 :=
  ⟨h.1.os, h.1.tape, h.1.output, h.1.size, fun k hk => h.2 k (by omega) (hX k hk)⟩
theorem Frm.chain (h : Frm w.heap.size X w w1) (k : Frm w1.heap.size X w1 w2) : Frm w.heap.size X w w2 := h.trans (k.mono h.size fun _ _ h => h)
end
end Go.Proofs.Ytdijlakeonionaa

/-
  The search over silent arcs, as a plain law.
-/
namespace Go.Proofs.Ytdijlakeonionaa
def DoneP (F : PFst) (xs : List Int) (V : Plc → Bool) (Sy : Int → Bool) (c : Plc) : Prop := ∀ a, Lv F xs a c → (0 < a.out → Sy a.out = true) ∧ (a.out = 0 → V (nxP a c) = true)
structure DfsP (F : PFst) (xs : List Int) (N V : Plc → Bool) (Qs : List Plc) (Sy : Int → Bool) (E : Plc → Prop) : Prop where
  sub : ∀ c, c ∈ Qs → V c = true
  nsub : ∀ c, N c = true → V c = true
  box : BoxP F xs V
  acc : ∀ c, V c = true → ∀ w, AccP F xs c w → AccS F xs N w
  done : ∀ c, V c = true → c ∈ Qs ∨ E c ∨ DoneP F xs V Sy c
  sy : ∀ x, Sy x = true → SymsP F xs V x
section
variable {F : PFst} {xs : List Int} {N V : Plc → Bool} {Qs : List Plc} {Sy : Int → Bool} {E : Plc → Prop}
theorem DfsP.start (hB : BoxP F xs N) (hQ : ∀ c, c ∈ Qs ↔ N c = true) : DfsP F xs N N Qs (fun _ => false) (fun _ => False) :=
  ⟨fun c h => (hQ c).1 h, fun _ h => h, hB, fun c hc _ hw => ⟨c, hc, hw⟩, fun c hc => .inl ((hQ c).2 hc), fun _ h => by cases h⟩
theorem DfsP.push (hF : GoodA F) (h : DfsP F xs N V Qs Sy E) {c : Plc} (hc : V c = true) {a : PArc} (hl : Lv F xs a c) (ho : a.out = 0) : DfsP F xs N (addS V (nxP a c)) (Qs ++ [nxP a c]) Sy E := by
  have hb := h.box c hc
  refine ⟨fun d hd => ?_, fun d hd => addS_sub (h.nsub d hd), fun d hd => ?_, fun d hd w hw => ?_, fun d hd => ?_, fun x hx => ?_⟩
  · rcases List.mem_append.1 hd with h1 | h1
    · exact addS_sub (h.sub d h1)
    · have : d = nxP a c := by simpa using h1
      rw [this]
      exact addS_self _ _
  · rcases addS_iff.1 hd with rfl | hd
    · exact hb.step hF hl
    · exact h.box d hd
  · rcases addS_iff.1 hd with rfl | hd
    · have := AccP.cons hb.i0 hl hw
      rw [show sym a.out = [] by simp [sym, ho]] at this
      exact h.acc c hc _ this
    · exact h.acc d hd w hw
  · rcases addS_iff.1 hd with rfl | hd
    · exact .inl (by simp)
    · rcases h.done d hd with h1 | h1 | h1
      · exact .inl (by simp [h1])
      · exact .inr (.inl h1)
      · exact .inr (.inr fun b hb => ⟨(h1 b hb).1, fun hb0 => addS_sub ((h1 b hb).2 hb0)⟩)
  · obtain ⟨h0, d, b, h1, h2⟩ := h.sy x hx
    exact ⟨h0, d, b, addS_sub h1, h2⟩
theorem DfsP.whole (h : DfsP F xs N V [] Sy (fun _ => False)) : SpreadP F xs N V ∧ ∀ x, Sy x = true ↔ SymsP F xs V x := by
  have hd : ∀ c, V c = true → DoneP F xs V Sy c := fun c hc => by
    rcases h.done c hc with h1 | h1 | h1
    · cases h1
    · exact h1.elim
    · exact h1
  refine ⟨⟨h.nsub, h.box, fun c hc a hl ho => (hd c hc a hl).2 ho, h.acc⟩, fun x => ⟨h.sy x, ?_⟩⟩
  rintro ⟨h0, c, a, hc, hl, rfl⟩
  exact (hd c hc a hl).1 h0
end
end Go.Proofs.Ytdijlakeonionaa

/-
  The finder of fst: lists that were found; what a walk may change.
-/
namespace Go.Proofs.Ytdijlakeonionaa
open Go.ChangeShapes Go.WideShapes Go.ChangeAt Go.RowKit
theorem infoL0 : (Try.prog.info? 25).map (fun i => (i.zero, i.size, i.bytes)) = some (some (.slice none 0 0), 1, 24) := by kernel_rfl
theorem own_slice {w : World} {base : Nat} {v : Value} {l : List Int} (h : OwnI w base v l) : v.oneCell' = true ∧ ∃ A c, v = .slice A l.length c := by
  rcases h.2 with ⟨rfl, h0⟩ | ⟨g, cap, cur, rfl, _⟩
  · exact ⟨rfl, none, 0, by rw [h0]⟩
  · exact ⟨rfl, _, _, rfl⟩
/-- a row of slices, each a row of the call's own -/
def OwnL (w : World) (base : Nat) (v : Value) (Ls : List (List Int)) : Prop :=
  ∃ us : List Value, w.ownsRow base 25 1 v Ls.length us ∧ us.length = Ls.length ∧ ∀ (i : Nat) (u : Value) (l : List Int), us[i]? = some u → Ls[i]? = some l → OwnI w base u l
theorem OwnL.nil (w : World) (base : Nat) : OwnL w base (.slice none 0 0) [] := ⟨[], World.ownsRow_nil _ _ _ _, rfl, fun i u l h => by simp at h⟩
theorem OwnL.below {w w' : World} {base : Nat} {v : Value} {Ls : List (List Int)} (h : OwnL w base v Ls) (hb : Below w.heap.size w w') : OwnL w' base v Ls := by
  obtain ⟨us, h1, h2, h3⟩ := h
  exact ⟨us, own_below h1 hb, h2, fun i u l hu hl => own_below (h3 i u l hu hl) hb⟩
theorem own_keep {w w' : World} {base size n : Nat} {e : TypeId} {v : Value} {xs : List Value} (h : w.ownsRow base e size v n xs) (hk : ∀ k cs m, v.ownBlock = some k → w.heap[k]? = some (.cells cs e m) → base ≤ k → w'.heap[k]? = w.heap[k]?) : w'.ownsRow base e size v n xs := by
  refine ⟨h.1, ?_⟩
  rcases h.2 with hn | ⟨g, cap, cur, rfl, hb2, hg, rest⟩
  · exact .inl hn
  · exact .inr ⟨g, cap, cur, rfl, hb2, (hk g _ _ rfl hg hb2).trans hg, rest⟩
theorem OwnL.keep {w w' : World} {base : Nat} {v : Value} {Ls : List (List Int)} (h : OwnL w base v Ls) (hk : ∀ k cs t m, w.heap[k]? = some (.cells cs t m) → (t = 25 ∨ t = 3) → base ≤ k → w'.heap[k]? = w.heap[k]?) : OwnL w' base v Ls := by
  obtain ⟨us, h1, h2, h3⟩ := h
  exact ⟨us, own_keep h1 fun k cs m _ h hb => hk k cs _ m h (.inl rfl) hb, h2, fun i u l hu hl => own_keep (h3 i u l hu hl) fun k cs m _ h hb => hk k cs _ m h (.inr rfl) hb⟩
theorem ownI_grownL {w w' : World} {base b2 size n : Nat} {e : TypeId} {u v : Value} {l : List Int} {us : List Value} (ho : OwnI w base u l) (hv : w.ownsRow b2 e size v n us) (he : 3 ≠ e) (hg : w.grownBy w' v.ownBlock) : OwnI w' base u l := by
  refine World.ownsRow.kept ho hg ?_
  rcases ho.2 with ⟨rfl, _⟩ | ⟨g, cap, cur, rfl, _, hh, _⟩
  · exact .inl rfl
  · refine .inr fun e' => ?_
    obtain ⟨cs, hcs⟩ := row_type hv e'.symm
    rw [hh] at hcs
    cases hcs
    exact he rfl
theorem wpList_app_word {ops : Array Oper} {rest : List Oper} {o : Oper} {a : Act} {Q : Exit → Act → World → Prop} {w : World} (hgd : o.guard = none) (s x : Operand)
    (ho : o.op = .call { callee := .builtin .append, args := #[s, x], argTypes := #[41, 41] })
    (base : Nat) (v : Value) (Ls : List (List Int)) (hs : a.eval s = v) (hown : OwnL w base v Ls) (vc : Value) (l : List Int) (hvc : OwnI w base vc l) (m : Nat) (hm : Hid (Ls.length = m)) (hl : m ≤ 1000000) (hbase : base ≤ w.heap.size)
    (hx : a.eval x = .slice (some ⟨w.heap.size, 0, none⟩) 1 1)
    (h : ∀ g' cap w', OwnL w' base (.slice (some ⟨g', 0, none⟩) (m + 1) cap) (Ls ++ [l]) → w.grownBy w' v.ownBlock → wpList Try.prog ops Q rest (a.put o.dst (.slice (some ⟨g', 0, none⟩) (m + 1) cap)) w') :
    wpList Try.prog ops Q (o :: rest) a (w.alloc (.cells #[vc] 25)) := by
  obtain rfl := hm.out
  obtain ⟨us, hu1, hu2, hu3⟩ := hown
  obtain ⟨i0, hi, hz0, hz1, hz2⟩ := info_parts infoL0
  refine wpList_append_own _ hgd s x 41 ho base 25 i0 _ 1 24 Try.underlying41 hi hz0 hz1 hz2 rfl (by decide) v Ls.length us hs (World.ownsRow.alloc hu1 _) ⟨w.heap.size, 0, none⟩ 1 1
    [vc] hx rfl ?_ ?_ (by simp only [maxLen]; omega) (by omega) (by simp; omega) ?_
  · intro j u hu
    match j, hu with
    | 0, hu => simp at hu; subst hu; simp [go_sem, Addr.add]
  · intro u hu
    simp at hu
    subst hu
    exact (own_slice hvc).1
  · intro v' w' h1 h2 _
    obtain ⟨g', cap, rfl, hg1, hg2⟩ := h1.form (by omega)
    have hg : w.grownBy w' v.ownBlock := ⟨h2.os, h2.tape, h2.output, Nat.le_trans (by simp) h2.size, fun k hk hne => (h2.block k (by simp; omega) hne).trans (Below.heap_alloc w _ k hk)⟩
    refine h g' cap w' ⟨us ++ [vc], by simpa using h1, by simp [hu2], fun i u l' hu hl' => ?_⟩ hg
    by_cases hil : i < us.length
    · rw [List.getElem?_append_left hil] at hu
      rw [List.getElem?_append_left (by omega)] at hl'
      exact ownI_grownL (hu3 i u l' hu hl') hu1 (by decide) hg
    · have hi0 : i = us.length := by
        have := (List.getElem?_eq_some_iff.1 hu).1
        simp at this
        omega
      subst hi0
      rw [List.getElem?_append_right (Nat.le_refl _)] at hu
      rw [hu2, List.getElem?_append_right (Nat.le_refl _)] at hl'
      simp at hu hl'
      subst hu
      subst hl'
      exact ownI_grownL hvc hu1 (by decide) hg
theorem OwnL.row {w : World} {base : Nat} {v : Value} {Ls : List (List Int)} (h : OwnL w base v Ls) : ∃ us, w.ownsRow base 25 1 v Ls.length us := by
  obtain ⟨us, h1, _⟩ := h
  exact ⟨us, h1⟩
/-- what a walk may change: the finder's block, one map, the rows of lists -/
def FrW (n B : Nat) (b : Nat → Prop) (w w' : World) : Prop := Below 0 w w' ∧ ∀ k, k < n → k ≠ B → ¬ b k → (∀ cs m, w.heap[k]? = some (.cells cs 25 m) → k < B) → w'.heap[k]? = w.heap[k]?
section
variable {n B : Nat} {b : Nat → Prop} {w w1 w2 : World}
theorem FrW.refl (n B : Nat) (b : Nat → Prop) (w : World) : FrW n B b w w := ⟨Below.refl _ _, fun _ _ _ _ _ => rfl⟩
theorem FrW.trans (h : FrW n B b w w1) (k : FrW n B b w1 w2) : FrW n B b w w2 := ⟨h.1.trans k.1, fun j h1 h2 h3 h4 => by
  have e := h.2 j h1 h2 h3 h4
  exact (k.2 j h1 h2 h3 (fun cs m hc => h4 cs m (by rw [← e]; exact hc))).trans e⟩
theorem FrW.size (h : FrW n B b w w1) : w.heap.size ≤ w1.heap.size := h.1.size
theorem FrW.of_below (h : Below n w w1) : FrW n B b w w1 := ⟨h.mono (Nat.zero_le _), fun k h1 _ _ _ => h.block k h1⟩
theorem FrW.inner {b2 : Nat → Prop} (h : FrW n B b w w1) (k : FrW w1.heap.size B b2 w1 w2) (hn : n ≤ w1.heap.size) (hb : ∀ j, j < n → b2 j → b j) : FrW n B b w w2 :=
  h.trans ⟨k.1, fun j h1 h2 h3 h4 => k.2 j (by omega) h2 (fun h => h3 (hb j h1 h)) h4⟩
/-- what lies below the finder stays -/
theorem FrW.below (h : FrW n B b w w1) (hn : B ≤ n) (hb : ∀ k, k < B → ¬ b k) : Below B w w1 :=
  ⟨h.1.os, h.1.tape, h.1.output, h.1.size, fun k hk => h.2 k (by omega) (by omega) (hb k hk) (fun _ _ _ => hk)⟩
theorem FrW.map {P : Program} {α β : Type} {S : MS P α β} {L : List α} {f : α → Option β} {g : Nat} (h : FrW n B b w w1) (hm : OwnM S w g L f) (hg : g < n) (hB : g ≠ B) (hb : ¬ b g) : OwnM S w1 g L f :=
  hm.same (h.2 g hg hB hb (fun _ _ hc => absurd rfl (hm.ne hc)))
end
theorem wp_app_int1 {w : World} {o : Oper} {a : Act} {K : Act → World → Prop} {Q : Exit → Act → World → Prop} (s x : Operand)
    (ho : o.op = .call { callee := .builtin .append, args := #[s, x], argTypes := #[25, 25] })
    (base : Nat) (v : Value) (l : List Int) (hs : a.eval s = v) (hown : OwnI w base v l) (x0 : Int) (hl : l.length ≤ 1000000) (hbase : base ≤ w.heap.size)
    (hx : a.eval x = .slice (some ⟨w.heap.size, 0, none⟩) 1 1)
    (h : ∀ g' cap w', OwnI w' base (.slice (some ⟨g', 0, none⟩) (l.length + 1) cap) (l ++ [x0]) → w.grownBy w' v.ownBlock → K (a.put o.dst (.slice (some ⟨g', 0, none⟩) (l.length + 1) cap)) w') :
    o.wp Try.prog a (w.alloc (.cells #[.int .i64 x0] 3)) K Q := by
  obtain ⟨i0, hi, hz0, hz1, hz2⟩ := info_parts infoI0
  refine wp_append_own _ s x 25 ho base 3 i0 _ 1 8 Try.underlying25 hi hz0 hz1 hz2 rfl (by decide) v l.length (l.map (Value.int .i64)) hs (World.ownsRow.alloc hown _) ⟨w.heap.size, 0, none⟩ 1 1
    [.int .i64 x0] hx rfl ?_ ?_ (by simp only [maxLen]; omega) (by omega) (by simp; omega) ?_
  · intro j u hu
    match j, hu with
    | 0, hu => simp at hu; subst hu; simp [go_sem, Addr.add]
  · intro u hu
    simp at hu
    subst hu
    rfl
  · intro v' w' h1 h2 _
    obtain ⟨g', cap, rfl, hg1, hg2⟩ := h1.form (by omega)
    refine h g' cap w' ?_ ?_
    · unfold OwnI
      rw [List.map_append, List.length_append]
      exact h1
    · exact ⟨h2.os, h2.tape, h2.output, Nat.le_trans (by simp) h2.size, fun k hk hne => (h2.block k (by simp; omega) hne).trans (Below.heap_alloc w _ k hk)⟩
end Go.Proofs.Ytdijlakeonionaa

/-
  Lists of lists that are read; the reference's Equal.
-/
namespace Go.Proofs.Ytdijlakeonionaa
open Go.ChangeShapes Go.WideShapes Go.ChangeAt Go.RowKit
def RdL (w : World) (v : Value) (Ls : List (List Int)) : Prop := ∃ us : List Value, Rd w 1 v Ls.length us ∧ us.length = Ls.length ∧ ∀ (i : Nat) (u : Value) (l : List Int), us[i]? = some u → Ls[i]? = some l → RdI w u l
theorem RdL.below {w w' : World} {v : Value} {Ls : List (List Int)} (h : RdL w v Ls) (hb : Below w.heap.size w w') : RdL w' v Ls := by
  obtain ⟨us, h1, h2, h3⟩ := h
  exact ⟨us, Rd.below h1 hb, h2, fun i u l hu hl => (h3 i u l hu hl).below hb⟩
theorem OwnL.rd {w : World} {base : Nat} {v : Value} {Ls : List (List Int)} (h : OwnL w base v Ls) : RdL w v Ls := by
  obtain ⟨us, h1, h2, h3⟩ := h
  exact ⟨us, Rd.own h1, h2, fun i u l hu hl => (h3 i u l hu hl).rd⟩
def LAt (w : World) (A : Option Addr) (Ls : List (List Int)) (k : Nat) : Prop :=
  ∃ b off B m cm l, A = some ⟨b, off, none⟩ ∧ b < w.heap.size ∧ Hid (Ls.drop k = l :: Ls.drop (k + 1)) ∧ w.cell? ⟨b, off + k, none⟩ = some (.slice B m cm) ∧ Hid (RdI w (.slice B m cm) l)
theorem RdL.op {w : World} {v : Value} {Ls : List (List Int)} (h : RdL w v Ls) : ∃ (A : Option Addr) (n c : Nat), v = .slice A n c ∧ n ≤ c ∧ c ≤ 9223372036854775807 ∧ Hid (Ls.length = n) ∧
    Hid (∀ k, k < n → LAt w A Ls k) := by
  obtain ⟨us, ⟨A, c, rfl, h1, h2, h3, h4⟩, h5, h6⟩ := h
  refine ⟨A, _, c, rfl, h1, h2, rfl, fun k hk => ?_⟩
  obtain ⟨b, off, rfl, hb, hc⟩ := h4 (by omega)
  have hu : us[k]? = some (us[k]'(by omega)) := List.getElem?_eq_getElem (by omega)
  have hl : Ls[k]? = some (Ls[k]'hk) := List.getElem?_eq_getElem hk
  have h7 := h6 k _ _ hu hl
  obtain ⟨B, m, cm, he, _, _, _, _⟩ := h7.op
  have h8 := hc k _ hu
  rw [he] at h7 h8
  exact ⟨b, off, B, m, cm, Ls[k], rfl, hb, List.drop_eq_getElem_cons hk, h8, h7⟩
end Go.Proofs.Ytdijlakeonionaa

/-
  Outputs of fst.
-/
namespace Go.Proofs.Ytdijlakeonionaa
open Go.ChangeShapes Go.WideShapes Go.ChangeAt Go.RowKit
structure FinOk (F : PFst) : Prop where
  right : Right F
  good : GoodA F
  ord : F.final.Pairwise (· < ·)
  st : F.states ≤ 4096
  al : F.arcs.length ≤ 262144
  outB : ∀ a, a ∈ F.arcs → a.out ≤ 1099511627776
end Go.Proofs.Ytdijlakeonionaa

/-
  The reference's tables for Outputs, as plain laws.
-/
namespace Go.Proofs.Ytdijlakeonionaa
def ixP (xs : List Int) (q i : Nat) : Nat := q * (xs.length + 1) + i
theorem ixP_inj {xs : List Int} {q i q' i' : Nat} (hi : i ≤ xs.length) (hi' : i' ≤ xs.length) (h : ixP xs q i = ixP xs q' i') : q = q' ∧ i = i' := by
  have h2 : idx (xs.length + 1) 1 q i 0 = idx (xs.length + 1) 1 q' i' 0 := by
    unfold ixP at h
    unfold idx
    omega
  have := idx_inj (by omega) (by omega) (by omega) (by omega) h2
  exact ⟨this.1, this.2.1⟩
theorem ixP_lt {xs : List Int} {S q i : Nat} (hq : q < S) (hi : i ≤ xs.length) : ixP xs q i < S * (xs.length + 1) := by
  have := idx_lt (n := xs.length + 1) (m := 1) (k := 0) hq (by omega : i < xs.length + 1) (by omega)
  unfold idx at this
  unfold ixP
  omega
def boxB (F : PFst) (xs : List Int) (c : Plc) : Bool := decide (0 ≤ c.q ∧ c.q < F.states ∧ 0 ≤ c.i ∧ c.i ≤ xs.length)
theorem boxB_iff {F : PFst} {xs : List Int} {c : Plc} : boxB F xs c = true ↔ PBox F xs c := by
  unfold boxB
  rw [decide_eq_true_iff]
  exact ⟨fun ⟨h1, h2, h3, h4⟩ => ⟨h1, h2, h3, h4⟩, fun ⟨h1, h2, h3, h4⟩ => ⟨h1, h2, h3, h4⟩⟩
/-- marks, as a set of places -/
def mkS (F : PFst) (xs : List Int) (M : List Bool) : Plc → Bool := fun c => boxB F xs c && M.getD (ixP xs c.q.toNat c.i.toNat) false
def szP (F : PFst) (xs : List Int) : Nat := F.states.toNat * (xs.length + 1)
section
variable {F : PFst} {xs : List Int}
theorem mkS_box (M : List Bool) : BoxP F xs (mkS F xs M) := fun c h => by
  simp only [mkS, Bool.and_eq_true] at h
  exact boxB_iff.1 h.1
theorem mkS_iff {M : List Bool} {c : Plc} (hc : PBox F xs c) : mkS F xs M c = M.getD (ixP xs c.q.toNat c.i.toNat) false := by
  simp only [mkS, boxB_iff.2 hc, Bool.true_and]
theorem PBox.ix {c : Plc} (hc : PBox F xs c) : ixP xs c.q.toNat c.i.toNat < szP F xs := by
  have := hc.q0; have := hc.q1; have := hc.i0; have := hc.i1
  exact ixP_lt (by omega) (by omega)
theorem mkS_set {M : List Bool} (hl : M.length = szP F xs) {c : Plc} (hc : PBox F xs c) : mkS F xs (M.set (ixP xs c.q.toNat c.i.toNat) true) = addS (mkS F xs M) c := by
  funext d
  have hx := hc.ix
  by_cases hd : PBox F xs d
  · simp only [addS, mkS_iff hd, getD_set]
    by_cases e : d = c
    · subst e
      simp [hl, hx]
    · rw [if_neg]
      · simp [e]
      · rintro ⟨h, _⟩
        have := hc.q0; have := hc.i0; have := hc.i1
        have := hd.q0; have := hd.i0; have := hd.i1
        obtain ⟨e1, e2⟩ := ixP_inj (by omega) (by omega) h
        exact e (by cases c; cases d; simp only at *; congr 1 <;> omega)
  · have hb : boxB F xs d = false := by
      cases hb : boxB F xs d
      · rfl
      · exact absurd (boxB_iff.1 hb) hd
    have hne : d ≠ c := fun e => hd (e ▸ hc)
    simp [mkS, addS, hb, hne]
theorem mkS_none (n : Nat) : mkS F xs (List.replicate n false) = fun _ => false := by
  funext d
  simp only [mkS, List.getD_eq_getElem?_getD, List.getElem?_replicate]
  split <;> simp
/-- the table of the least numbers -/
structure DInv (F : PFst) (xs : List Int) (D : List Int) : Prop where
  len : D.length = szP F xs
  rng : ∀ j, 0 ≤ D.getD j 0 ∧ D.getD j 0 ≤ 1073741824
  fin : ∀ t, t ∈ F.final → D.getD (ixP xs t.toNat xs.length) 0 = 0
def RelD (xs : List Int) (D : List Int) (a : PArc) (i : Nat) : Prop := stepOk xs i a.inp = true → D.getD (ixP xs a.fr.toNat i) 0 ≤ D.getD (ixP xs a.tgt.toNat (i + stepD a.inp)) 0 + costA a
def sumD (D : List Int) : Nat := (D.map Int.toNat).sum
theorem sumD_set (D : List Int) (j : Nat) (v : Int) (hj : j < D.length) (h0 : 0 ≤ v) (hv : v < D.getD j 0) : sumD (D.set j v) < sumD D := by
  induction D generalizing j with
  | nil => simp at hj
  | cons x D ih =>
    cases j with
    | zero => simp at hv; simp [sumD]; omega
    | succ j =>
      have := ih j (by simpa using hj) (by simpa using hv)
      simp only [sumD, List.set_cons_succ, List.map_cons, List.sum_cons] at this ⊢
      omega
theorem getD_setI (D : List Int) (j j' : Nat) (v : Int) : (D.set j v).getD j' 0 = if j = j' ∧ j < D.length then v else D.getD j' 0 := by
  simp only [List.getD_eq_getElem?_getD, List.getElem?_set]
  by_cases h : j = j'
  · subst h
    by_cases hl : j < D.length
    · simp [hl]
    · simp [hl]
  · simp [h]
theorem DInv.step {D : List Int} (h : DInv F xs D) {j : Nat} {v : Int} (hj : j < D.length) (h0 : 0 ≤ v) (hv : v < D.getD j 0) : DInv F xs (D.set j v) ∧ sumD (D.set j v) < sumD D := by
  refine ⟨⟨by rw [List.length_set]; exact h.len, fun k => ?_, fun t ht => ?_⟩, sumD_set D j v hj h0 hv⟩
  · rw [getD_setI]
    split
    · have := (h.rng j).2; omega
    · exact h.rng k
  · rw [getD_setI]
    split
    · rename_i e
      have := h.fin t ht
      rw [e.1] at hv
      omega
    · exact h.fin t ht
def PassD (F : PFst) (xs : List Int) (D0 : List Int) (Dn : PArc → Nat → Prop) (D : List Int) (more : Bool) : Prop :=
  DInv F xs D ∧ sumD D ≤ sumD D0 ∧ (more = true → sumD D < sumD D0) ∧ (more = false → D = D0 ∧ ∀ a i, Dn a i → RelD xs D0 a i)
theorem PassD.start {D : List Int} (h : DInv F xs D) : PassD F xs D (fun _ _ => False) D false :=
  ⟨h, Nat.le_refl _, (fun h => by cases h), fun _ => ⟨rfl, fun _ _ h => h.elim⟩⟩
theorem PassD.weaken {D0 D : List Int} {Dn Dn' : PArc → Nat → Prop} {more : Bool} (h : PassD F xs D0 Dn D more) (hD : ∀ a i, Dn' a i → Dn a i) : PassD F xs D0 Dn' D more :=
  ⟨h.1, h.2.1, h.2.2.1, fun hb => ⟨(h.2.2.2 hb).1, fun a c hd => (h.2.2.2 hb).2 a c (hD a c hd)⟩⟩
theorem PassD.keep {D0 D : List Int} {Dn Dn' : PArc → Nat → Prop} {more : Bool} (h : PassD F xs D0 Dn D more) {a : PArc} {i : Nat} (hr : RelD xs D a i) (hD : ∀ a' i', Dn' a' i' → Dn a' i' ∨ (a' = a ∧ i' = i)) : PassD F xs D0 Dn' D more := by
  refine ⟨h.1, h.2.1, h.2.2.1, fun hb => ?_⟩
  obtain ⟨e, hd⟩ := h.2.2.2 hb
  refine ⟨e, fun a' c' hd' => ?_⟩
  rcases hD a' c' hd' with h | ⟨rfl, rfl⟩
  · exact hd a' c' h
  · rw [← e]; exact hr
theorem PassD.step {D0 D : List Int} {Dn Dn' : PArc → Nat → Prop} {more : Bool} (h : PassD F xs D0 Dn D more) {j : Nat} {v : Int} (hj : j < D.length) (h0 : 0 ≤ v) (hv : v < D.getD j 0) : PassD F xs D0 Dn' (D.set j v) true := by
  obtain ⟨h1, h2⟩ := h.1.step hj h0 hv
  have := h.2.1
  exact ⟨h1, by omega, fun _ => by omega, fun hb => by cases hb⟩
theorem DInv.done (hF : GoodA F) {D : List Int} (h : DInv F xs D) (hr : ∀ a i, a ∈ F.arcs → i ≤ xs.length → RelD xs D a i) : ∀ c, PBox F xs c → ∀ w, AccP F xs c w → D.getD (ixP xs c.q.toNat c.i.toNat) 0 ≤ (w.length : Int) := by
  rintro c hc w ⟨t, ht, p, h1, h2, h3, h4⟩
  induction p generalizing c w with
  | nil =>
    have := hc.i0
    have := hc.i1
    simp only [chain] at h2
    have hl := congrArg List.length h3
    simp [ins] at hl
    have e : c.i.toNat = xs.length := by omega
    rw [e, h2, h.fin t ht]
    omega
  | cons a p ih =>
    have := hc.i0
    have := hc.i1
    obtain ⟨e1, h2⟩ := h2
    have hd := step_drop xs c.i.toNat a.inp (ins p) (by rw [← h3]; simp [ins])
    have hlv : Lv F xs a c := ⟨h1 a (by simp), e1, hd.1⟩
    have en : (nxP a c).i.toNat = c.i.toNat + stepD a.inp := by simp only [nxP]; omega
    have hu := ih (nxP a c) (hc.step hF hlv) (outs p) (fun b hb => h1 b (by simp [hb])) h2 (by rw [hd.2, en]) rfl
    have hle := hr a c.i.toNat (h1 a (by simp)) (by omega) hd.1
    rw [en, show (nxP a c).q = a.tgt from rfl] at hu
    rw [e1] at hle
    rw [← h4]
    have : ((outs (a :: p)).length : Int) = (outs p).length + costA a := by
      unfold costA
      by_cases ho : a.out = 0 <;> simp [outs, sym, ho]
    omega
/-- marks that spread over silent arcs -/
structure CInv (F : PFst) (xs : List Int) (N : Plc → Bool) (M : List Bool) : Prop where
  len : M.length = szP F xs
  nsub : ∀ c, N c = true → mkS F xs M c = true
  acc : ∀ c, mkS F xs M c = true → ∀ w, AccP F xs c w → AccS F xs N w
def CloAt (xs : List Int) (M : List Bool) (a : PArc) (i : Nat) : Prop := a.out = 0 → stepOk xs i a.inp = true → M.getD (ixP xs a.fr.toNat i) false = true → M.getD (ixP xs a.tgt.toNat (i + stepD a.inp)) false = true
def PassC (F : PFst) (xs : List Int) (N : Plc → Bool) (M0 : List Bool) (Dn : PArc → Nat → Prop) (M : List Bool) (more : Bool) : Prop :=
  CInv F xs N M ∧ cf M ≤ cf M0 ∧ (more = true → cf M < cf M0) ∧ (more = false → M = M0 ∧ ∀ a i, Dn a i → CloAt xs M0 a i)
theorem PassC.start {N : Plc → Bool} {M : List Bool} (h : CInv F xs N M) : PassC F xs N M (fun _ _ => False) M false :=
  ⟨h, Nat.le_refl _, (fun h => by cases h), fun _ => ⟨rfl, fun _ _ h => h.elim⟩⟩
theorem PassC.weaken {N : Plc → Bool} {M0 M : List Bool} {Dn Dn' : PArc → Nat → Prop} {more : Bool} (h : PassC F xs N M0 Dn M more) (hD : ∀ a i, Dn' a i → Dn a i) : PassC F xs N M0 Dn' M more :=
  ⟨h.1, h.2.1, h.2.2.1, fun hb => ⟨(h.2.2.2 hb).1, fun a c hd => (h.2.2.2 hb).2 a c (hD a c hd)⟩⟩
theorem PassC.keep {N : Plc → Bool} {M0 M : List Bool} {Dn Dn' : PArc → Nat → Prop} {more : Bool} (h : PassC F xs N M0 Dn M more) {a : PArc} {i : Nat} (hr : CloAt xs M a i) (hD : ∀ a' i', Dn' a' i' → Dn a' i' ∨ (a' = a ∧ i' = i)) : PassC F xs N M0 Dn' M more := by
  refine ⟨h.1, h.2.1, h.2.2.1, fun hb => ?_⟩
  obtain ⟨e, hd⟩ := h.2.2.2 hb
  refine ⟨e, fun a' c' hd' => ?_⟩
  rcases hD a' c' hd' with h | ⟨rfl, rfl⟩
  · exact hd a' c' h
  · rw [← e]; exact hr
theorem PassC.step (hF : GoodA F) {N : Plc → Bool} {M0 M : List Bool} {Dn Dn' : PArc → Nat → Prop} {more : Bool} (h : PassC F xs N M0 Dn M more) {a : PArc} {i : Nat} (ha : a ∈ F.arcs) (hi : i ≤ xs.length) (ho : a.out = 0) (hs : stepOk xs i a.inp = true)
    (hm : M.getD (ixP xs a.fr.toNat i) false = true) (hn : M.getD (ixP xs a.tgt.toNat (i + stepD a.inp)) false = false) : PassC F xs N M0 Dn' (M.set (ixP xs a.tgt.toNat (i + stepD a.inp)) true) true := by
  obtain ⟨f0, f1, t0, t1, _⟩ := hF.tgt a ha
  have hb : PBox F xs ⟨a.fr, i⟩ := ⟨f0, f1, by simp, by simp; omega⟩
  have hlv : Lv F xs a ⟨a.fr, i⟩ := ⟨ha, rfl, hs⟩
  have hb2 := hb.step hF hlv
  have e2 : ixP xs (nxP a ⟨a.fr, i⟩).q.toNat (nxP a ⟨a.fr, i⟩).i.toNat = ixP xs a.tgt.toNat (i + stepD a.inp) := by
    simp only [nxP]
    congr 1
  have hx := hb2.ix
  have hset := mkS_set h.1.len hb2
  rw [e2] at hx hset
  have hcf := (cf_set M (ixP xs a.tgt.toNat (i + stepD a.inp))).2 (by rw [h.1.len]; exact hx) hn
  have := h.2.1
  refine ⟨⟨by rw [List.length_set]; exact h.1.len, fun c hc => ?_, fun c hc w hw => ?_⟩, by omega, fun _ => by omega, fun hb => by cases hb⟩
  · rw [hset]; exact addS_sub (h.1.nsub c hc)
  · rw [hset] at hc
    rcases addS_iff.1 hc with rfl | hc
    · have hcc := AccP.cons (c := ⟨a.fr, i⟩) (by simp) hlv hw
      rw [show sym a.out = [] by simp [sym, ho]] at hcc
      exact h.1.acc _ (by rw [mkS_iff hb]; simpa using hm) _ hcc
    · exact h.1.acc c hc w hw
theorem CInv.done (hF : GoodA F) {N : Plc → Bool} {M : List Bool} (h : CInv F xs N M) (hr : ∀ a i, a ∈ F.arcs → i ≤ xs.length → CloAt xs M a i) : SpreadP F xs N (mkS F xs M) := by
  refine ⟨h.nsub, mkS_box M, fun c hc a hl ho => ?_, h.acc⟩
  have hb := mkS_box M c hc
  have hb2 := hb.step hF hl
  have := hb.i0; have := hb.i1
  rw [mkS_iff hb2]
  rw [mkS_iff hb] at hc
  have h1 := hr a c.i.toNat hl.1 (by omega) ho hl.2.2 (by rw [hl.2.1]; exact hc)
  have e : (nxP a c).i.toNat = c.i.toNat + stepD a.inp := by simp only [nxP]; omega
  rw [e]
  exact h1
theorem CInv.start {N : Plc → Bool} {M : List Bool} (hl : M.length = szP F xs) (hN : mkS F xs M = N) : CInv F xs N M :=
  ⟨hl, fun c hc => by rw [hN]; exact hc, fun c hc w hw => ⟨c, by rw [← hN]; exact hc, hw⟩⟩
/-- what is marked after x was written -/
structure WInv (F : PFst) (xs : List Int) (V : Plc → Bool) (x : Int) (Dn : PArc → Nat → Prop) (M : List Bool) : Prop where
  len : M.length = szP F xs
  sound : ∀ d, mkS F xs M d = true → ∃ c a, V c = true ∧ Lv F xs a c ∧ a.out = x ∧ d = nxP a c
  full : ∀ a c, V c = true → Lv F xs a c → a.out = x → Dn a c.i.toNat → mkS F xs M (nxP a c) = true
theorem WInv.start (V : Plc → Bool) (x : Int) : WInv F xs V x (fun _ _ => False) (List.replicate (szP F xs) false) :=
  ⟨by simp, (fun d hd => by rw [mkS_none] at hd; cases hd), (fun _ _ _ _ _ h => h.elim)⟩
theorem WInv.weaken {V : Plc → Bool} {x : Int} {Dn Dn' : PArc → Nat → Prop} {M : List Bool} (h : WInv F xs V x Dn M) (hD : ∀ a i, Dn' a i → Dn a i) : WInv F xs V x Dn' M :=
  ⟨h.len, h.sound, fun a c h1 h2 h3 h4 => h.full a c h1 h2 h3 (hD a _ h4)⟩
theorem WInv.keep {V : Plc → Bool} {x : Int} {Dn Dn' : PArc → Nat → Prop} {M : List Bool} (h : WInv F xs V x Dn M) {a : PArc} {i : Nat} (hr : ∀ c, V c = true → Lv F xs a c → a.out = x → c.i.toNat = i → False) (hD : ∀ a' i', Dn' a' i' → Dn a' i' ∨ (a' = a ∧ i' = i)) : WInv F xs V x Dn' M :=
  ⟨h.len, h.sound, fun a' c h1 h2 h3 h4 => by
    rcases hD a' _ h4 with h5 | ⟨rfl, h5⟩
    · exact h.full a' c h1 h2 h3 h5
    · exact (hr c h1 h2 h3 h5).elim⟩
theorem WInv.step (hF : GoodA F) {V : Plc → Bool} (hV : BoxP F xs V) {x : Int} {Dn Dn' : PArc → Nat → Prop} {M : List Bool} (h : WInv F xs V x Dn M) {a : PArc} {i : Nat} (hv : V ⟨a.fr, i⟩ = true) (ha : a ∈ F.arcs) (ho : a.out = x) (hs : stepOk xs i a.inp = true)
    (hD : ∀ a' i', Dn' a' i' → Dn a' i' ∨ (a' = a ∧ i' = i)) : WInv F xs V x Dn' (M.set (ixP xs a.tgt.toNat (i + stepD a.inp)) true) := by
  have hb := hV _ hv
  have hlv : Lv F xs a ⟨a.fr, i⟩ := ⟨ha, rfl, hs⟩
  have hb2 := hb.step hF hlv
  have e2 : ixP xs (nxP a ⟨a.fr, i⟩).q.toNat (nxP a ⟨a.fr, i⟩).i.toNat = ixP xs a.tgt.toNat (i + stepD a.inp) := by
    simp only [nxP]
    congr 1
  have hset := mkS_set h.len hb2
  rw [e2] at hset
  refine ⟨by rw [List.length_set]; exact h.len, fun d hd => ?_, fun a' c h1 h2 h3 h4 => ?_⟩
  · rw [hset] at hd
    rcases addS_iff.1 hd with rfl | hd
    · exact ⟨_, a, hv, hlv, ho, rfl⟩
    · exact h.sound d hd
  · rw [hset]
    rcases hD a' _ h4 with h5 | ⟨rfl, h5⟩
    · exact addS_sub (h.full a' c h1 h2 h3 h5)
    · have hc := hV c h1
      have := hc.i0
      have e : c = ⟨a'.fr, i⟩ := by
        obtain ⟨_, e1, _⟩ := h2
        cases c
        simp only at *
        congr 1
        · exact e1.symm
        · omega
      rw [e]
      exact addS_self _ _
theorem WInv.done {V : Plc → Bool} {x : Int} {Dn : PArc → Nat → Prop} {M : List Bool} (h : WInv F xs V x Dn M) (hV : BoxP F xs V) (hD : ∀ a i, a ∈ F.arcs → i ≤ xs.length → Dn a i) : IsWr F xs V x (mkS F xs M) :=
  fun d => ⟨h.sound d, fun ⟨c, a, h1, h2, h3, h4⟩ => by
    rw [h4]
    have hc := hV c h1
    have := hc.i0; have := hc.i1
    exact h.full a c h1 h2 h3 (hD a _ h2.1 (by omega))⟩
end
end Go.Proofs.Ytdijlakeonionaa

/-
  The reference 20: least.
-/
namespace Go.Proofs.Ytdijlakeonionaa
open Go.ChangeShapes Go.WideShapes Go.ChangeAt Go.RowKit
def iArr (D : List Int) : Array Value := (D.map (Value.int .i64)).toArray
/-- block g holds the ints D -/
def Ins (w : World) (g : Nat) (D : List Int) : Prop := w.heap[g]? = some (.cells (iArr D) 3 (0, 0))
theorem Ins.lt {w : World} {g : Nat} {D : List Int} (h : Ins w g D) : g < w.heap.size := (Array.getElem?_eq_some_iff.1 h).1
theorem Ins.cell {w : World} {g : Nat} {D : List Int} (h : Ins w g D) {j : Nat} (hj : j < D.length) : w.cell? ⟨g, j, none⟩ = some (.int .i64 (D.getD j 0)) := by
  rw [cell_of_row w g j _ _ (0, 0) h]
  simp [hj, iArr]
theorem Ins.free {w : World} {g : Nat} {D : List Int} (h : Ins w g D) (j : Nat) : w.frozen? ⟨g, j, none⟩ = false := by
  unfold Ins at h
  simp [World.frozen?, h]
theorem Ins.set_ {w : World} {g : Nat} {D : List Int} (h : Ins w g D) (j : Nat) (v : Int) : Ins (w.setCell ⟨g, j, none⟩ (.int .i64 v)) g (D.set j v) := by
  unfold Ins at h ⊢
  simp [World.setCell, Array.getElem?_modify, h, List.map_set, iArr]
theorem Ins.below {w w' : World} {g : Nat} {D : List Int} (h : Ins w g D) (hb : Below w.heap.size w w') : Ins w' g D := (hb.block g h.lt).trans h
theorem Ins.alloc {w : World} {g : Nat} {D : List Int} (h : Ins w g D) (o : Obj) : Ins (w.alloc o) g D := (Below.heap_alloc w o g h.lt).trans h
theorem Ins.rd {w : World} {g : Nat} {D : List Int} (h : Ins w g D) (hl : D.length ≤ 9223372036854775807) : RdI w (.slice (some ⟨g, 0, none⟩) D.length D.length) D := by
  refine ⟨some ⟨g, 0, none⟩, D.length, rfl, Nat.le_refl _, hl, by simp, fun _ => ⟨g, 0, rfl, h.lt, fun j u hu => ?_⟩⟩
  simp only [List.getElem?_map, Option.map_eq_some_iff] at hu
  obtain ⟨z, hz, rfl⟩ := hu
  obtain ⟨hl, rfl⟩ := List.getElem?_eq_some_iff.1 hz
  rw [Nat.zero_add, h.cell hl]
  simp [hl]
/-- the table while it is filled -/
structure DPre (D : List Int) (n : Nat) : Prop where
  len : D.length = n
  rng : ∀ j, 0 ≤ D.getD j 0 ∧ D.getD j 0 ≤ 1073741824
theorem DPre.set {D : List Int} {n : Nat} (h : DPre D n) (j : Nat) {v : Int} (h0 : 0 ≤ v) (h1 : v ≤ 1073741824) : DPre (D.set j v) n :=
  ⟨by rw [List.length_set]; exact h.len, fun k => by rw [getD_setI]; split; exact ⟨h0, h1⟩; exact h.rng k⟩
theorem DPre.zero (n : Nat) : DPre (List.replicate n 0) n :=
  ⟨by simp, fun j => by simp only [List.getD_eq_getElem?_getD, List.getElem?_replicate]; split <;> simp⟩
end Go.Proofs.Ytdijlakeonionaa

/-
  The reference 20: written, need, symbols.
-/
namespace Go.Proofs.Ytdijlakeonionaa
open Go.ChangeShapes Go.WideShapes Go.ChangeAt Go.RowKit
theorem RdI.take {w : World} {A : Option Addr} {n c k : Nat} {xs : List Int} (h : RdI w (.slice A n c) xs) (hk : k ≤ n) : RdI w (.slice A k c) (xs.take k) := by
  obtain ⟨A', c', he, h1, h2, h3, h4⟩ := h
  cases he
  have hl : (xs.take k).length = k := by simp; omega
  refine ⟨A, c, by rw [hl], by rw [hl]; omega, h2, by simp, fun hn => ?_⟩
  rw [hl] at hn
  obtain ⟨b, off, rfl, hb, hc⟩ := h4 (by omega)
  refine ⟨b, off, rfl, hb, fun j u hu => hc j u ?_⟩
  rw [List.map_take, List.getElem?_take] at hu
  split at hu
  · exact hu
  · cases hu
theorem RdI.drop {w : World} {A : Option Addr} {n c k : Nat} {xs : List Int} (h : RdI w (.slice A n c) xs) (hk : k ≤ n) : RdI w (.slice (if c = k then A else A.map (·.add k)) (n - k) (c - k)) (xs.drop k) := by
  obtain ⟨A', c', he, h1, h2, h3, h4⟩ := h
  cases he
  have hl : (xs.drop k).length = xs.length - k := by simp
  refine ⟨_, c - k, by rw [hl], by rw [hl]; omega, by omega, by simp, fun hn => ?_⟩
  rw [hl] at hn
  obtain ⟨b, off, rfl, hb, hc⟩ := h4 (by omega)
  rw [if_neg (by omega)]
  refine ⟨b, off + k, by simp [add_none], hb, fun j u hu => ?_⟩
  have := hc (k + j) u (by rw [← hu, List.map_drop, List.getElem?_drop])
  rwa [show off + k + j = off + (k + j) by omega]
theorem Bls.below {w w' : World} {g : Nat} {M : List Bool} (h : Bls w g M) (hb : Below w.heap.size w w') : Bls w' g M := (hb.block g h.lt).trans h
end Go.Proofs.Ytdijlakeonionaa

/-
  What is reached over arcs, as plain laws: the search of the program and the passes of the reference.
-/
namespace Go.Proofs.Ytdijlakeonionaa
def srcA (d : Bool) (a : PArc) : Int := if d then a.tgt else a.fr
def dstA (d : Bool) (a : PArc) : Int := if d then a.fr else a.tgt
/-- what is reached from S0 -/
inductive Rch (L : List PArc) (d : Bool) (S0 : Int → Prop) : Int → Prop
  | base (q : Int) : S0 q → Rch L d S0 q
  | step (a : PArc) : a ∈ L → Rch L d S0 (srcA d a) → Rch L d S0 (dstA d a)
def nexts (L : List PArc) (d : Bool) (q : Nat) : List Int := (L.filter fun a => srcA d a == (q : Int)).map (dstA d)
theorem nexts_snoc (L : List PArc) (d : Bool) (a : PArc) (q : Nat) : nexts (L ++ [a]) d q = nexts L d q ++ if srcA d a = (q : Int) then [dstA d a] else [] := by
  simp only [nexts, List.filter_append, List.filter_cons, List.filter_nil, beq_iff_eq, List.map_append]
  split <;> rfl
theorem nexts_len (L : List PArc) (d : Bool) (q : Nat) : (nexts L d q).length ≤ L.length := by
  unfold nexts
  rw [List.length_map]
  exact List.length_filter_le _ _
theorem mem_nexts {L : List PArc} {d : Bool} {q : Nat} {y : Int} : y ∈ nexts L d q ↔ ∃ a, a ∈ L ∧ srcA d a = (q : Int) ∧ dstA d a = y := by
  simp only [nexts, List.mem_map, List.mem_filter, beq_iff_eq]
  constructor
  · rintro ⟨a, ⟨h1, h2⟩, h3⟩; exact ⟨a, h1, h2, h3⟩
  · rintro ⟨a, h1, h2, h3⟩; exact ⟨a, ⟨h1, h2⟩, h3⟩
/-- the arcs that begin at what is not marked -/
def restA (L : List PArc) (d : Bool) (M : List Bool) : List PArc := L.filter fun a => !(M.getD (srcA d a).toNat false)
theorem restA_set (L : List PArc) (d : Bool) (M : List Bool) (q : Nat) (hL : ∀ a, a ∈ L → 0 ≤ srcA d a) (hq : q < M.length) (hM : M.getD q false = false) :
    (restA L d (M.set q true)).length + (nexts L d q).length = (restA L d M).length := by
  induction L with
  | nil => rfl
  | cons a L ih =>
    have h1 := ih fun b hb => hL b (by simp [hb])
    have h2 := hL a (by simp)
    have e : restA (a :: L) d (M.set q true) = if q = (srcA d a).toNat then restA L d (M.set q true) else if M.getD (srcA d a).toNat false = true then restA L d (M.set q true) else a :: restA L d (M.set q true) := by
      unfold restA
      rw [List.filter_cons, getD_set]
      by_cases h : q = (srcA d a).toNat
      · simp [h, h ▸ hq]
      · simp only [h, false_and, if_false]
        cases M.getD (srcA d a).toNat false <;> simp
    have e2 : restA (a :: L) d M = if M.getD (srcA d a).toNat false = true then restA L d M else a :: restA L d M := by
      unfold restA
      rw [List.filter_cons]
      cases M.getD (srcA d a).toNat false <;> simp
    have e3 : nexts (a :: L) d q = if q = (srcA d a).toNat then dstA d a :: nexts L d q else nexts L d q := by
      unfold nexts
      rw [List.filter_cons]
      by_cases h : q = (srcA d a).toNat
      · have h3 : (srcA d a == (q : Int)) = true := by simp; omega
        rw [if_pos h, h3]
        rfl
      · have h3 : (srcA d a == (q : Int)) = false := by simp; omega
        rw [if_neg h, h3]
        rfl
    rw [e, e2, e3]
    by_cases h : q = (srcA d a).toNat
    · rw [← h]
      simp only [if_true, hM, Bool.false_eq_true, if_false, List.length_cons]
      omega
    · simp only [h, if_false]
      split
      · exact h1
      · simp only [List.length_cons]; omega
structure RInv (L : List PArc) (d : Bool) (S : Nat) (fm : List Int) (M : List Bool) (Qs : List Int) : Prop where
  len : M.length = S
  qs : ∀ q, q ∈ Qs → 0 ≤ q ∧ q < S ∧ Rch L d (· ∈ fm) q
  ms : ∀ q : Nat, M.getD q false = true → Rch L d (· ∈ fm) (q : Int)
  base : ∀ q : Nat, (q : Int) ∈ fm → M.getD q false = true ∨ (q : Int) ∈ Qs
  clo : ∀ a, a ∈ L → M.getD (srcA d a).toNat false = true → M.getD (dstA d a).toNat false = true ∨ dstA d a ∈ Qs
  cnt : Qs.length + (restA L d M).length ≤ fm.length + L.length
section
variable {L : List PArc} {d : Bool} {S : Nat} {fm : List Int} {M : List Bool} {Qs : List Int}
theorem RInv.start (hf : ∀ q, q ∈ fm → 0 ≤ q ∧ q < S) : RInv L d S fm (List.replicate S false) fm := by
  have hz : ∀ j, (List.replicate S false).getD j false = false := fun j => by
    simp only [List.getD_eq_getElem?_getD, List.getElem?_replicate]
    split <;> rfl
  refine ⟨by simp, fun q hq => ⟨(hf q hq).1, (hf q hq).2, .base q hq⟩, (fun q h => by rw [hz] at h; cases h), (fun q h => .inr h), (fun a _ h => by rw [hz] at h; cases h), ?_⟩
  exact Nat.add_le_add_left (List.length_filter_le _ _) _
theorem RInv.skip {q : Nat} (h : RInv L d S fm M (Qs ++ [(q : Int)])) (hm : M.getD q false = true) : RInv L d S fm M Qs := by
  refine ⟨h.len, fun y hy => h.qs y (by simp [hy]), h.ms, fun y hy => ?_, fun a ha hs => ?_, by have := h.cnt; simp at this; omega⟩
  · rcases h.base y hy with h1 | h1
    · exact .inl h1
    · rcases List.mem_append.1 h1 with h2 | h2
      · exact .inr h2
      · have : (y : Int) = q := by simpa using h2
        rw [show y = q by omega]; exact .inl hm
  · rcases h.clo a ha hs with h1 | h1
    · exact .inl h1
    · rcases List.mem_append.1 h1 with h2 | h2
      · exact .inr h2
      · have : dstA d a = (q : Int) := by simpa using h2
        rw [this]; exact .inl hm
theorem RInv.mark (hL : ∀ a, a ∈ L → 0 ≤ srcA d a ∧ 0 ≤ dstA d a ∧ dstA d a < S) {q : Nat} (h : RInv L d S fm M (Qs ++ [(q : Int)])) (hm : M.getD q false = false) : RInv L d S fm (M.set q true) (Qs ++ nexts L d q) := by
  obtain ⟨_, hq1, hq2⟩ := h.qs (q : Int) (by simp)
  have hqS : q < M.length := by rw [h.len]; omega
  have hset : ∀ j, (M.set q true).getD j false = if q = j then true else M.getD j false := fun j => by
    rw [getD_set]
    by_cases e : q = j
    · simp [e, e ▸ hqS]
    · simp [e]
  refine ⟨by rw [List.length_set]; exact h.len, fun y hy => ?_, fun y hy => ?_, fun y hy => ?_, fun a ha hs => ?_, ?_⟩
  · rcases List.mem_append.1 hy with h1 | h1
    · exact h.qs y (by simp [h1])
    · obtain ⟨a, ha, hs, rfl⟩ := mem_nexts.1 h1
      exact ⟨(hL a ha).2.1, (hL a ha).2.2, .step a ha (by rw [hs]; exact hq2)⟩
  · rw [hset] at hy
    by_cases e : q = y
    · rw [← e]; exact hq2
    · rw [if_neg e] at hy; exact h.ms y hy
  · rw [hset]
    by_cases e : q = y
    · simp [e]
    · rw [if_neg e]
      rcases h.base y hy with h1 | h1
      · exact .inl h1
      · rcases List.mem_append.1 h1 with h2 | h2
        · exact .inr (by simp [h2])
        · have : (y : Int) = q := by simpa using h2
          omega
  · rw [hset] at hs ⊢
    by_cases e2 : q = (dstA d a).toNat
    · simp [e2]
    · rw [if_neg e2]
      by_cases e : q = (srcA d a).toNat
      · refine .inr (List.mem_append.2 (.inr (mem_nexts.2 ⟨a, ha, ?_, rfl⟩)))
        have := (hL a ha).1
        omega
      · rw [if_neg e] at hs
        rcases h.clo a ha hs with h1 | h1
        · exact .inl h1
        · rcases List.mem_append.1 h1 with h2 | h2
          · exact .inr (by simp [h2])
          · have : dstA d a = (q : Int) := by simpa using h2
            omega
  · have h1 := restA_set L d M q (fun a ha => (hL a ha).1) hqS hm
    have := h.cnt
    simp only [List.length_append, List.length_cons, List.length_nil] at this ⊢
    omega
theorem RInv.done (hL : ∀ a, a ∈ L → 0 ≤ srcA d a ∧ 0 ≤ dstA d a ∧ dstA d a < S) (hf : ∀ q, q ∈ fm → 0 ≤ q) (h : RInv L d S fm M []) (q : Nat) : M.getD q false = true ↔ Rch L d (· ∈ fm) (q : Int) := by
  refine ⟨h.ms q, fun hr => ?_⟩
  have : ∀ y, Rch L d (· ∈ fm) y → 0 ≤ y ∧ M.getD y.toNat false = true := fun y hy => by
    induction hy with
    | base y hy =>
      have h0 := hf y hy
      rcases h.base y.toNat (by rw [Int.toNat_of_nonneg h0]; exact hy) with h1 | h1
      · exact ⟨h0, h1⟩
      · cases h1
    | step a ha _ ih =>
      refine ⟨(hL a ha).2.1, ?_⟩
      rcases h.clo a ha ih.2 with h1 | h1
      · exact h1
      · cases h1
  have := (this _ hr).2
  simpa using this
end
/-- the marks of the reference -/
structure SInv (L : List PArc) (d : Bool) (S : Nat) (S0 : Int → Prop) (M : List Bool) : Prop where
  len : M.length = S
  ms : ∀ q : Nat, M.getD q false = true → Rch L d S0 (q : Int)
  base : ∀ q : Nat, S0 (q : Int) → M.getD q false = true
def SClo (d : Bool) (M : List Bool) (a : PArc) : Prop := M.getD (srcA d a).toNat false = true → M.getD (dstA d a).toNat false = true
def PassR (L : List PArc) (d : Bool) (S : Nat) (S0 : Int → Prop) (M0 : List Bool) (D : PArc → Prop) (M : List Bool) (more : Bool) : Prop :=
  SInv L d S S0 M ∧ cf M ≤ cf M0 ∧ (more = true → cf M < cf M0) ∧ (more = false → M = M0 ∧ ∀ a, D a → SClo d M0 a)
section
variable {L : List PArc} {d : Bool} {S : Nat} {S0 : Int → Prop} {M M0 : List Bool} {D D' : PArc → Prop} {more : Bool}
theorem PassR.start (h : SInv L d S S0 M) : PassR L d S S0 M (fun _ => False) M false :=
  ⟨h, Nat.le_refl _, (fun h => by cases h), fun _ => ⟨rfl, fun _ h => h.elim⟩⟩
theorem PassR.weaken (h : PassR L d S S0 M0 D M more) (hD : ∀ a, D' a → D a) : PassR L d S S0 M0 D' M more :=
  ⟨h.1, h.2.1, h.2.2.1, fun hb => ⟨(h.2.2.2 hb).1, fun a hd => (h.2.2.2 hb).2 a (hD a hd)⟩⟩
theorem PassR.keep (h : PassR L d S S0 M0 D M more) {a : PArc} (hr : SClo d M a) (hD : ∀ a', D' a' → D a' ∨ a' = a) : PassR L d S S0 M0 D' M more := by
  refine ⟨h.1, h.2.1, h.2.2.1, fun hb => ?_⟩
  obtain ⟨e, hd⟩ := h.2.2.2 hb
  refine ⟨e, fun a' hd' => ?_⟩
  rcases hD a' hd' with h | rfl
  · exact hd a' h
  · rw [← e]; exact hr
theorem PassR.step (hL : ∀ a, a ∈ L → 0 ≤ srcA d a ∧ 0 ≤ dstA d a ∧ dstA d a < S) (h : PassR L d S S0 M0 D M more) {a : PArc} (ha : a ∈ L) (hs : M.getD (srcA d a).toNat false = true) (hn : M.getD (dstA d a).toNat false = false) :
    PassR L d S S0 M0 D' (M.set (dstA d a).toNat true) true := by
  obtain ⟨h0, h1, h2⟩ := hL a ha
  have hlt : (dstA d a).toNat < M.length := by rw [h.1.len]; omega
  have hset : ∀ j, (M.set (dstA d a).toNat true).getD j false = if (dstA d a).toNat = j then true else M.getD j false := fun j => by
    rw [getD_set]
    by_cases e : (dstA d a).toNat = j
    · simp [e, e ▸ hlt]
    · simp [e]
  have hcf := (cf_set M (dstA d a).toNat).2 hlt hn
  have := h.2.1
  refine ⟨⟨by rw [List.length_set]; exact h.1.len, fun q hq => ?_, fun q hq => ?_⟩, by omega, fun _ => by omega, fun hb => by cases hb⟩
  · rw [hset] at hq
    by_cases e : (dstA d a).toNat = q
    · have e2 : (q : Int) = dstA d a := by omega
      rw [e2]
      refine .step a ha ?_
      have h3 := h.1.ms _ hs
      rw [Int.toNat_of_nonneg h0] at h3
      exact h3
    · rw [if_neg e] at hq; exact h.1.ms q hq
  · rw [hset]
    split
    · rfl
    · exact h.1.base q hq
theorem SInv.done (hL : ∀ a, a ∈ L → 0 ≤ srcA d a ∧ 0 ≤ dstA d a ∧ dstA d a < S) (h0 : ∀ q, S0 q → 0 ≤ q) (h : SInv L d S S0 M) (hc : ∀ a, a ∈ L → SClo d M a) (q : Nat) : M.getD q false = true ↔ Rch L d S0 (q : Int) := by
  refine ⟨h.ms q, fun hr => ?_⟩
  have : ∀ y, Rch L d S0 y → 0 ≤ y ∧ M.getD y.toNat false = true := fun y hy => by
    induction hy with
    | base y hy =>
      have h1 := h0 y hy
      refine ⟨h1, h.base y.toNat ?_⟩
      rw [Int.toNat_of_nonneg h1]; exact hy
    | step a ha _ ih => exact ⟨(hL a ha).2.1, hc a ha ih.2⟩
  have := (this _ hr).2
  simpa using this
end
end Go.Proofs.Ytdijlakeonionaa

