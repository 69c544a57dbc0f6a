/-
  Maps that the call owns, in plain words: a partial function on keys within a given list. No function of the program in sight.
-/
import Derived.Maps.Own
import Derived.Maps.OwnSet
import Derived.Maps.Views
import Derived.Maps.RangeWalk
import Derived.Test.YtmejihlplbeekaaF3
namespace Go.Proofs.Ytmejihlplbeekaa
open Go.ChangeShapes Go.WideShapes Go.ChangeAt Go.RowKit
open Go.Maps (Keyed)
/-- a kind of map: its types, how a key and an element look as a value -/
structure MS (P : Program) (α β : Type) where
  mt : TypeId
  kt : TypeId
  et : TypeId
  ht : P.underlying mt = some (.map kt et)
  K : Keyed P kt
  mkK : α → Value
  wf : α → Prop
  key : ∀ c, wf c → ∃ l, keyOf P kt (mkK c) = some l
  inj : ∀ c d, mkK c = mkK d → c = d
  mkV : β → Value
  lit : β → Lit
  wfV : β → Prop
  elem : ∀ x, wfV x → plainElem (H := Unit) P et (mkV x) = some (.lit (lit x), [])
  inv : ∀ v x z, plainElem (H := Unit) P et v = some z → z.1 = .lit (lit x) → v = mkV x
  zero : β
  zrun : ∀ w, (zeroValue et).run P w = .ok (mkV zero) w
  zwf : wfV zero
theorem nodup_le {α : Type} (l : List α) : ∀ L : List α, l.Nodup → (∀ x ∈ l, x ∈ L) → l.length ≤ L.length := by
  classical
  induction l with
  | nil => intro L _ _; exact Nat.zero_le _
  | cons x l ih =>
    intro L hn hs
    have hx : x ∈ L := hs x (by simp)
    have hn2 := List.nodup_cons.1 hn
    have ih := ih (L.erase x) hn2.2 (fun y hy => (List.mem_erase_of_ne (fun e => hn2.1 (by rw [← e]; exact hy))).2 (hs y (by simp [hy])))
    rw [List.length_erase_of_mem hx] at ih
    have := List.length_pos_of_mem hx
    simp only [List.length_cons]
    omega
section
variable {P : Program} {α β : Type} (S : MS P α β)
/-- the datum D is the function f, whose keys lie in L -/
structure Fun (D : DataW Unit) (L : List α) (f : α → Option β) : Prop where
  at_ : ∀ c l, S.wf c → keyOf P S.kt (S.mkK c) = some l → ∀ zd, D.atKey l zd = match f c with | some x => .lit (S.lit x) | none => zd
  dom : ∀ l, Maps.has D l = true → ∃ c, S.wf c ∧ keyOf P S.kt (S.mkK c) = some l
  box : ∀ c x, f c = some x → c ∈ L
  vals : ∀ c x, f c = some x → S.wfV x
/-- block b is a map: the function f on the keys of L -/
def OwnM (w : World) (b : Nat) (L : List α) (f : α → Option β) : Prop :=
  ∃ D : DataW Unit, w.ownsMap P S.kt (plainElem P S.et) b L.length D ∧ Fun S D L f
def OwnR (w : World) (b r : Nat) (L : List α) (f : α → Option β) (left : α → Bool) (cnt : Nat) : Prop :=
  ∃ (D : DataW Unit) (lf : Lit → Bool), w.ranges P S.kt (plainElem P S.et) b r L.length D lf cnt ∧ Fun S D L f ∧ ∀ c l, S.wf c → keyOf P S.kt (S.mkK c) = some l → lf l = left c
variable {S} {w w' : World} {b r : Nat} {L : List α} {f : α → Option β} {left : α → Bool} {cnt : Nat}
theorem Fun.has {D : DataW Unit} (h : Fun S D L f) {c : α} {l : Lit} (hc : S.wf c) (hl : keyOf P S.kt (S.mkK c) = some l) : Maps.has D l = (f c).isSome := by
  cases hf : f c with
  | none => exact Maps.has_false_of_atKey fun z => by rw [h.at_ c l hc hl, hf]
  | some x => exact Maps.has_true_of_atKey (y := .lit (S.lit x)) fun z => by rw [h.at_ c l hc hl, hf]
theorem Fun.size_le {D : DataW Unit} (h : Fun S D L f) {n b : Nat} (hm : w.ownsMap P S.kt (plainElem P S.et) b n D) : Maps.size D ≤ L.length := by
  obtain ⟨es, rfl, hp, hk⟩ := hm.entries S.K
  have hsub : ∀ p ∈ es, ∃ c, S.wf c ∧ keyOf P S.kt (S.mkK c) = some p.1 ∧ c ∈ L := by
    intro p hpm
    have hh : Maps.has (DataW.map es) p.1 = true := List.any_eq_true.2 ⟨p, hpm, WideAt.sameKey_self (hk p hpm)⟩
    obtain ⟨c, hc, hl⟩ := h.dom _ hh
    refine ⟨c, hc, hl, ?_⟩
    rw [h.has hc hl] at hh
    obtain ⟨x, hx⟩ := Option.isSome_iff_exists.1 hh
    exact h.box c x hx
  have hn : (es.map Prod.fst).Nodup := by
    rw [List.nodup_iff_pairwise_ne, List.pairwise_map]
    exact hp
  have := nodup_le (es.map Prod.fst) (L.filterMap fun c => keyOf P S.kt (S.mkK c)) hn (fun l hl => by
    obtain ⟨p, hpm, rfl⟩ := List.mem_map.1 hl
    obtain ⟨c, _, hl, hcL⟩ := hsub p hpm
    exact List.mem_filterMap.2 ⟨c, hcL, hl⟩)
  rw [List.length_map] at this
  exact Nat.le_trans this (List.length_filterMap_le _ _)
theorem owns_bound {n : Nat} {D : DataW Unit} (hm : w.ownsMap P S.kt (plainElem P S.et) b n D) (h : Fun S D L f) : w.ownsMap P S.kt (plainElem P S.et) b L.length D := by
  have hs := h.size_le hm
  obtain ⟨es, clock, hb, F, _, rfl⟩ := hm
  refine ⟨es, clock, hb, F, ?_, rfl⟩
  simpa [Maps.size, length_sorted] using hs
theorem OwnM.made (S : MS P α β) (w : World) (L : List α) (g : Nat) (hg : w.heap.size = g) : OwnM S (w.alloc (.map #[] 0)) g L (fun _ => none) := by
  subst hg
  exact ⟨_, (World.ownsMap_made _ _ _ _).mono (Nat.zero_le _), { at_ := fun _ _ _ _ _ => rfl, dom := fun _ hl => by simp [Maps.has] at hl, box := fun _ _ h => by simp at h, vals := fun _ _ h => by simp at h }⟩
theorem OwnM.kept (h : OwnM S w b L f) {row : Option Nat} (hg : w.grownBy w' row) (hr : row ≠ some b) : OwnM S w' b L f := by
  obtain ⟨D, h1, h2⟩ := h
  exact ⟨D, h1.kept hg (Ne.symm hr), h2⟩
theorem OwnM.block (h : OwnM S w b L f) : ∃ es cl, w.heap[b]? = some (.map es cl) := by
  obtain ⟨D, ⟨es, cl, h1, _⟩, _⟩ := h
  exact ⟨es, cl, h1⟩
theorem OwnM.lt (h : OwnM S w b L f) : b < w.heap.size := by
  obtain ⟨es, cl, h1⟩ := h.block
  exact (Array.getElem?_eq_some_iff.1 h1).1
theorem OwnM.below (h : OwnM S w b L f) (hb : Below w.heap.size w w') : OwnM S w' b L f := by
  obtain ⟨D, ⟨es, cl, h1, h3⟩, h2⟩ := h
  exact ⟨D, ⟨es, cl, (hb.block b (Array.getElem?_eq_some_iff.1 h1).1).trans h1, h3⟩, h2⟩
theorem OwnM.same (h : OwnM S w b L f) (hb : w'.heap[b]? = w.heap[b]?) : OwnM S w' b L f := by
  obtain ⟨D, ⟨es, cl, h1, h3⟩, h2⟩ := h
  exact ⟨D, ⟨es, cl, hb.trans h1, h3⟩, h2⟩
theorem OwnM.look (h : OwnM S w b L f) (c : α) (hc : S.wf c) : (Instr.lookup S.mt (.map (some b)) (S.mkK c) false).run P w = .ok (S.mkV ((f c).getD S.zero)) w := by
  obtain ⟨D, h1, h2⟩ := h
  obtain ⟨l, hl⟩ := S.key c hc
  obtain ⟨v, ps, hrun, hv⟩ := h1.lookup S.K S.ht (S.zrun w) (S.elem _ S.zwf) hl
  rw [hrun]
  congr 1
  refine S.inv v _ _ hv ?_
  rw [h2.at_ c l hc hl]
  cases f c <;> rfl
theorem OwnM.look_ok (h : OwnM S w b L f) (c : α) (hc : S.wf c) : (Instr.lookup S.mt (.map (some b)) (S.mkK c) true).run P w = .ok (.tuple #[S.mkV ((f c).getD S.zero), .bool (f c).isSome]) w := by
  obtain ⟨D, h1, h2⟩ := h
  obtain ⟨l, hl⟩ := S.key c hc
  obtain ⟨v, ps, hrun, hv⟩ := h1.look_ok S.K S.ht (S.zrun w) (S.elem _ S.zwf) hl
  rw [hrun, h2.has hc hl]
  have : v = S.mkV ((f c).getD S.zero) := by
    refine S.inv v _ _ hv ?_
    rw [h2.at_ c l hc hl]
    cases f c <;> rfl
  rw [this]
def put [DecidableEq α] (f : α → Option β) (c : α) (x : β) : α → Option β := fun d => if d = c then some x else f d
theorem Fun.put [DecidableEq α] {D : DataW Unit} (h : Fun S D L f) (hm : Maps.IsMap D) {c : α} {x : β} {l : Lit} (hc : S.wf c) (hl : keyOf P S.kt (S.mkK c) = some l) (hx : S.wfV x) (hL : c ∈ L) : Fun S (D.put l (.lit (S.lit x))) L (put f c x) := by
  refine ⟨fun d l' hd hl' zd => ?_, fun l' hl' => ?_, fun d y hd => ?_, fun d y hd => ?_⟩
  · unfold Go.Proofs.Ytmejihlplbeekaa.put
    by_cases he : l' = l
    · subst he
      have : d = c := S.inj _ _ (S.K.inj hl' hl)
      subst this
      rw [Maps.atKey_put_same hm (S.K.key hl), if_pos rfl]
    · have : d ≠ c := fun hcc => he (by subst hcc; rw [hl] at hl'; cases hl'; rfl)
      rw [Maps.atKey_put_other he, h.at_ d l' hd hl', if_neg this]
  · by_cases he : l' = l
    · subst he
      exact ⟨c, hc, hl⟩
    · rw [Maps.has_put_other he] at hl'
      exact h.dom l' hl'
  · unfold Go.Proofs.Ytmejihlplbeekaa.put at hd
    split at hd
    · rename_i e; rw [e]; exact hL
    · exact h.box d y hd
  · unfold Go.Proofs.Ytmejihlplbeekaa.put at hd
    split at hd
    · cases hd; exact hx
    · exact h.vals d y hd
theorem owns_isMap {n : Nat} {D : DataW Unit} {k : TypeId} {R : Value → Option (DataW Unit × List MemPlace)} (h : w.ownsMap P k R b n D) : Maps.IsMap D := by
  obtain ⟨es, cl, _, _, _, rfl⟩ := h
  exact ⟨_, rfl⟩
theorem OwnM.put [DecidableEq α] (h : OwnM S w b L f) (c : α) (hc : S.wf c) (x : β) (hx : S.wfV x) (hL : c ∈ L) (hn : L.length < maxLen) :
    ∃ w', (Instr.mapUpdate S.mt (.map (some b)) (S.mkK c) (S.mkV x)).run P w = .ok () w' ∧ OwnM S w' b L (put f c x) ∧ w.grownBy w' (some b) := by
  obtain ⟨D, h1, h2⟩ := h
  obtain ⟨l, hl⟩ := S.key c hc
  obtain ⟨w', hrun, h3, h4⟩ := h1.update S.K S.ht hn hl (S.elem x hx)
  have h5 := h2.put (owns_isMap h1) hc hl hx hL
  exact ⟨w', hrun, ⟨_, owns_bound h3 h5, h5⟩, h4⟩
theorem wpList_putM [DecidableEq α] {w : World} {ops : Array Oper} {rest : List Oper} {o : Oper} {a : Act} {Q : Exit → Act → World → Prop} (hg : o.guard = none) (m x v : Operand)
    (hop : o.op = Op.mapUpdate S.mt m x v ∨ o.op = Op.insert S.mt m x v) (b : Nat) (L : List α) (f : α → Option β) (c : α) (y : β) (hm : a.eval m = .map (some b)) (hx : a.eval x = S.mkK c) (hv : a.eval v = S.mkV y)
    (h : OwnM S w b L f) (hc : S.wf c) (hy : S.wfV y) (hL : c ∈ L) (hn : L.length < maxLen) (hK : ∀ w', OwnM S w' b L (Go.Proofs.Ytmejihlplbeekaa.put f c y) → w.grownBy w' (some b) → wpList P ops Q rest (a.put o.dst undef) w') : wpList P ops Q (o :: rest) a w := by
  refine wpList_plain hg fun K' hK' => ?_
  obtain ⟨w', hrun, r1, r2⟩ := h.put c hc y hy hL hn
  unfold Oper.wp
  rcases hop with hop | hop <;> (simp [execOp, hop, hm, hx, hv, hrun, Result.andThen]; exact hK' _ _ (hK w' r1 r2))
theorem wpList_rangeM {w : World} {ops : Array Oper} {rest : List Oper} {o : Oper} {a : Act} {Q : Exit → Act → World → Prop} (hg : o.guard = none) (m : Operand) (hop : o.op = Op.range S.mt m)
    (b : Nat) (L : List α) (f : α → Option β) (hm : a.eval m = .map (some b)) (h : OwnM S w b L f)
    (hK : ∀ w' cnt, OwnR S w' b w.heap.size L f (fun c => (f c).isSome) cnt → cnt ≤ L.length → w.grownBy w' none → w'.heap.size = w.heap.size + 1 → wpList P ops Q rest (a.put o.dst (.pointer (some ⟨w.heap.size, 0, none⟩))) w') : wpList P ops Q (o :: rest) a w := by
  obtain ⟨D, h1, h2⟩ := h
  refine wpList_range_own w hg m S.mt hop S.kt S.et S.K S.ht _ b L.length D hm h1 fun w' hr hgr hs => ?_
  refine hK w' _ ⟨D, _, hr, h2, fun c l hc hl => h2.has hc hl⟩ ?_ hgr hs
  exact h2.size_le h1
theorem OwnR.own (h : OwnR S w b r L f left cnt) : OwnM S w b L f := by
  obtain ⟨D, lf, h1, h2, _⟩ := h
  exact ⟨D, h1.owns, h2⟩
theorem OwnR.ne (h : OwnR S w b r L f left cnt) : r ≠ b := by
  obtain ⟨D, lf, h1, _⟩ := h
  exact h1.ne
theorem OwnR.lt (h : OwnR S w b r L f left cnt) : r < w.heap.size := by
  obtain ⟨D, lf, h1, _⟩ := h
  exact h1.lt
theorem OwnR.kept (h : OwnR S w b r L f left cnt) {row : Option Nat} (hg : w.grownBy w' row) (hb : row ≠ some b) (hr : row ≠ some r) : OwnR S w' b r L f left cnt := by
  obtain ⟨D, lf, h1, h2⟩ := h
  exact ⟨D, lf, h1.kept hg (Ne.symm hb) (Ne.symm hr), h2⟩
theorem OwnR.below (h : OwnR S w b r L f left cnt) (hb : Below w.heap.size w w') : OwnR S w' b r L f left cnt :=
  h.kept (row := none) ⟨hb.os, hb.tape, hb.output, hb.size, fun k hk _ => hb.block k hk⟩ (by simp) (by simp)
theorem wpList_nextM [DecidableEq α] {w : World} {ops : Array Oper} {rest : List Oper} {o : Oper} {a : Act} {Q : Exit → Act → World → Prop} (hg : o.guard = none) (it : Operand) (hop : o.op = Op.next it false)
    (b r : Nat) (L : List α) (f : α → Option β) (left : α → Bool) (cnt : Nat) (hit : a.eval it = .pointer (some ⟨r, 0, none⟩)) (h : OwnR S w b r L f left cnt)
    (hDone : cnt = 0 → (∀ c, S.wf c → left c = false) → wpList P ops Q rest (a.put o.dst (.tuple #[.bool false])) w)
    (hMore : ∀ (c : α) (x : β) (w' : World) (cnt' : Nat), S.wf c → left c = true → f c = some x → OwnR S w' b r L f (fun d => left d && decide (d ≠ c)) cnt' → cnt' < cnt →
      w.grownBy w' (some r) → w'.heap.size = w.heap.size → (Instr.entry (.pointer (some ⟨r, 0, none⟩))).run P w' = .ok (.tuple #[S.mkK c, S.mkV x]) w' → wpList P ops Q rest (a.put o.dst (.tuple #[.bool true, S.mkK c, S.mkV x])) w') :
    wpList P ops Q (o :: rest) a w := by
  obtain ⟨D, lf, h1, h2, h3⟩ := h
  refine wpList_plain hg fun K' hK' => ?_
  unfold Oper.wp
  rcases h1.next S.K o.type with ⟨h0, hl, hrun⟩ | ⟨key, v, kl, y, w', cnt', hkey, hlk, hv, hat, hrun, hrg, hlt, hgr, hsz, hen⟩
  · simp [execOp, hop, hit, hrun, Result.andThen]
    refine hK' _ _ (hDone h0 fun c hc => ?_)
    obtain ⟨l, hl'⟩ := S.key c hc
    rw [← h3 c l hc hl']
    exact hl l
  · have hh : Maps.has D kl = true := Maps.has_true_of_atKey hat
    obtain ⟨c, hc, hcl⟩ := h2.dom kl hh
    obtain rfl : key = S.mkK c := S.K.inj hkey hcl
    obtain ⟨x, hx⟩ : ∃ x, f c = some x := Option.isSome_iff_exists.1 (by rw [← h2.has hc hcl]; exact hh)
    have hy : y.1 = .lit (S.lit x) := by
      have := h2.at_ c kl hc hcl .nil
      rw [hat, hx] at this
      exact this
    obtain rfl : v = S.mkV x := S.inv v x y hv hy
    simp [execOp, hop, hit, hrun, Result.andThen]
    refine hK' _ _ (hMore c x w' cnt' hc (by rw [← h3 c kl hc hcl]; exact hlk) hx ⟨D, _, hrg, h2, fun d l hd hl => ?_⟩ hlt hgr hsz hen)
    simp only [h3 d l hd hl]
    congr 1
    by_cases e : d = c
    · subst e
      rw [hcl] at hl
      cases hl
      simp [WideAt.sameKey_self (S.K.key hcl)]
    · have hne : l ≠ kl := fun e2 => e (S.inj _ _ (S.K.inj hl (by rw [e2]; exact hcl)))
      rw [Maps.sameKey_ne hne]
      simp [e]
end
end Go.Proofs.Ytmejihlplbeekaa
