/-
  A table of rows that the call owns: block g holds slices, each a row of its own.
-/
import Derived.Test.YtmejihlplbeekaaF0
namespace Go.Proofs.Ytmejihlplbeekaa
open Go.ChangeShapes Go.WideShapes Go.ChangeAt Go.RowKit
/-- block g holds the slice values vs; row q has the elements (cnt q of them, of sz cells) R q; no two share a block -/
structure Tbl (T e : TypeId) (sz : Nat) (w : World) (base g : Nat) (vs : List Value) (cnt : Nat → Nat) (R : Nat → List Value) : Prop where
  blk : w.heap[g]? = some (.cells vs.toArray T (0, 0))
  row : ∀ (q : Nat) (v : Value), vs[q]? = some v → w.ownsRow base e sz v (cnt q) (R q)
  dis : ∀ (q q' : Nat) (v v' : Value), vs[q]? = some v → vs[q']? = some v' → q ≠ q' → v.ownBlock = none ∨ v.ownBlock ≠ v'.ownBlock
  ne : T ≠ e
  le : base ≤ g
section
variable {T e : TypeId} {sz : Nat} {w w1 : World} {base g : Nat} {vs : List Value} {cnt : Nat → Nat} {R : Nat → List Value}
theorem Tbl.lt (h : Tbl T e sz w base g vs cnt R) : g < w.heap.size := (Array.getElem?_eq_some_iff.1 h.blk).1
theorem Tbl.cell (h : Tbl T e sz w base g vs cnt R) {q : Nat} {v : Value} (hq : vs[q]? = some v) : w.cell? ⟨g, q, none⟩ = some v := by
  rw [cell_of_row w g q _ _ (0, 0) h.blk]
  simpa using hq
theorem Tbl.free (h : Tbl T e sz w base g vs cnt R) (j : Nat) : w.frozen? ⟨g, j, none⟩ = false := by simp [World.frozen?, h.blk]
theorem Tbl.neq (h : Tbl T e sz w base g vs cnt R) {q : Nat} {v : Value} (hq : vs[q]? = some v) : v.ownBlock ≠ some g := fun he => by
  obtain ⟨cs, hc⟩ := row_type (h.row q v hq) he
  exact ne_of_type h.blk hc h.ne rfl
theorem Tbl.below (h : Tbl T e sz w base g vs cnt R) (hb : Below w.heap.size w w1) : Tbl T e sz w1 base g vs cnt R :=
  ⟨(hb.block g h.lt).trans h.blk, fun q v hq => own_below (h.row q v hq) hb, h.dis, h.ne, h.le⟩
/-- an append onto row q, and the store of the new slice -/
theorem Tbl.push (h : Tbl T e sz w base g vs cnt R) {q : Nat} {v : Value} (hq : vs[q]? = some v) (hg : w.grownBy w1 v.ownBlock) {g' n cap : Nat} {xs : List Value}
    (ho : w1.ownsRow base e sz (.slice (some ⟨g', 0, none⟩) n cap) n xs) (hl : v.ownBlock = some g' ∨ w.heap.size ≤ g') {cnt' : Nat → Nat} {R' : Nat → List Value}
    (hc : cnt' q = n) (hR : R' q = xs) (hco : ∀ q', q' ≠ q → cnt' q' = cnt q' ∧ R' q' = R q') :
    Tbl T e sz (w1.setCell ⟨g, q, none⟩ (.slice (some ⟨g', 0, none⟩) n cap)) base g (vs.set q (.slice (some ⟨g', 0, none⟩) n cap)) cnt' R' := by
  have hb := hg.block g h.lt (Ne.symm (h.neq hq))
  rw [h.blk] at hb
  have hgg : g' ≠ g := by
    rintro rfl
    have hx : (Value.slice (some ⟨g', 0, none⟩) n cap).ownBlock = some g' := rfl
    obtain ⟨cs, hc2⟩ := row_type ho hx
    exact ne_of_type hb hc2 h.ne rfl
  have hother : ∀ q' v', vs[q']? = some v' → q' ≠ q → v'.ownBlock ≠ some g' ∧ (v'.ownBlock = none ∨ v'.ownBlock ≠ v.ownBlock) := by
    intro q' v' hq' hne
    have hd := h.dis q' q v' v hq' hq hne
    refine ⟨fun he => ?_, hd⟩
    rcases hl with hl | hl
    · rcases hd with hd | hd
      · rw [hd] at he; cases he
      · exact hd (he.trans hl.symm)
    · have := (World.ownsRow.lt (h.row q' v' hq') g' he).2
      omega
  refine ⟨?_, ?_, ?_, h.ne, h.le⟩
  · simp [World.setCell, Array.getElem?_modify, hb]
  · intro q' v' hq'
    by_cases he : q' = q
    · subst he
      rw [List.getElem?_set] at hq'
      simp at hq'
      obtain ⟨_, rfl⟩ := hq'
      rw [hc, hR]
      exact own_setCell ho (by simpa [Value.ownBlock] using hgg) _ _
    · rw [List.getElem?_set_ne (Ne.symm he)] at hq'
      rw [(hco q' he).1, (hco q' he).2]
      exact own_setCell (World.ownsRow.kept (h.row q' v' hq') hg (hother q' v' hq' he).2) (h.neq hq') _ _
  · intro q1 q2 v1 v2 h1 h2 hne
    by_cases e1 : q1 = q
    · subst e1
      rw [List.getElem?_set] at h1
      simp at h1
      obtain ⟨_, rfl⟩ := h1
      rw [List.getElem?_set_ne hne] at h2
      exact .inr fun he => (hother q2 v2 h2 (Ne.symm hne)).1 he.symm
    · rw [List.getElem?_set_ne (Ne.symm e1)] at h1
      by_cases e2 : q2 = q
      · subst e2
        rw [List.getElem?_set] at h2
        simp at h2
        obtain ⟨_, rfl⟩ := h2
        exact .inr (hother q1 v1 h1 e1).1
      · rw [List.getElem?_set_ne (Ne.symm e2)] at h2
        exact h.dis q1 q2 v1 v2 h1 h2 hne
theorem Tbl.mid (h : Tbl T e sz w base g vs cnt R) {q : Nat} {v : Value} (hq : vs[q]? = some v) (hg : w.grownBy w1 v.ownBlock) : w1.cell? ⟨g, q, none⟩ = some v ∧ w1.frozen? ⟨g, q, none⟩ = false ∧ w1.heap[g]? = w.heap[g]? := by
  have hb := hg.block g h.lt (Ne.symm (h.neq hq))
  exact ⟨(World.cell?_of_block (a := ⟨g, q, none⟩) hb).trans (h.cell hq), (World.frozen?_of_block (a := ⟨g, q, none⟩) hb).trans (h.free q), hb⟩
theorem Tbl.made (hn : T ≠ e) (w : World) (S : Nat) (g : Nat) (hb : base ≤ g) (hg : w.heap.size = g) : Tbl T e sz (w.alloc (.cells (List.replicate S (Value.slice none 0 0)).toArray T)) base g (List.replicate S (.slice none 0 0)) (fun _ => 0) (fun _ => []) := by
  subst hg
  refine ⟨heap_alloc_new w _, ?_, ?_, hn, hb⟩
  · intro q v hq
    rw [List.getElem?_replicate] at hq
    split at hq <;> cases hq
    exact World.ownsRow_nil _ _ _ _
  · intro q q' v v' hq _ _
    rw [List.getElem?_replicate] at hq
    split at hq <;> cases hq
    exact .inl rfl
end
/-- the table as it is read -/
def RTbl (sz : Nat) (w : World) (g S : Nat) (cnt : Nat → Nat) (R : Nat → List Value) : Prop :=
  g < w.heap.size ∧ ∀ q, q < S → ∃ v, w.cell? ⟨g, q, none⟩ = some v ∧ Rd w sz v (cnt q) (R q)
theorem RTbl.below {sz : Nat} {w w1 : World} {g S : Nat} {cnt : Nat → Nat} {R : Nat → List Value} (h : RTbl sz w g S cnt R) (hb : Below w.heap.size w w1) : RTbl sz w1 g S cnt R := by
  refine ⟨by have := hb.size; have := h.1; omega, fun q hq => ?_⟩
  obtain ⟨v, h1, h2⟩ := h.2 q hq
  exact ⟨v, (hb.cell h.1).trans h1, h2.below hb⟩
theorem Tbl.rd {T e : TypeId} {sz : Nat} {w : World} {base g : Nat} {vs : List Value} {cnt : Nat → Nat} {R : Nat → List Value} (h : Tbl T e sz w base g vs cnt R) : RTbl sz w g vs.length cnt R := by
  refine ⟨h.lt, fun q hq => ?_⟩
  exact ⟨vs[q], h.cell (List.getElem?_eq_getElem hq), Rd.own (h.row q _ (List.getElem?_eq_getElem hq))⟩
end Go.Proofs.Ytmejihlplbeekaa
