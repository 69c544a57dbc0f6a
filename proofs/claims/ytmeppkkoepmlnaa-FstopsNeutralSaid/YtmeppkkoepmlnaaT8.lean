/-
  A transducer that grows in memory: its struct in a block of the call's own, its rows owned; the builder of fstops: jump, end, add.
-/
import Derived.Test.YtmeppkkoepmlnaaT7
import Derived.Test.YtmeppkkoepmlnaaReg
namespace Go.Proofs.Ytmeppkkoepmlnaa
open Go.ChangeShapes Go.WideShapes Go.ChangeAt Go.RowKit

/-- block B is a struct of type T that reads as F; its rows are owned, in blocks from base on -/
structure Bld (T : TypeId) (w : World) (base B : Nat) (va vf : Value) (F : PFst) : Prop where
  blk : w.heap[B]? = some (.cells #[.int .i64 F.states, va, vf] T (0, 0))
  oa : OwnA w base va F.arcs
  oi : OwnI w base vf F.final
  ta : T ≠ 57
  ti : T ≠ 3
  le : base ≤ B
/-- what a step of such a transducer may change: block B, and rows of arcs and ints from base on -/
def Fr (base B : Nat) (w w' : World) : Prop :=
  Below base w w' ∧ ∀ k, k < w.heap.size → k ≠ B → (∀ cs t m, w.heap[k]? = some (.cells cs t m) → t ≠ 57 ∧ t ≠ 3) → w'.heap[k]? = w.heap[k]?
theorem Fr.refl (base B : Nat) (w : World) : Fr base B w w := ⟨Below.refl _ _, fun _ _ _ _ => rfl⟩
theorem Fr.trans {base B : Nat} {a b c : World} (h : Fr base B a b) (k : Fr base B b c) : Fr base B a c := by
  refine ⟨h.1.trans k.1, fun i hi hB ht => ?_⟩
  have h1 := h.2 i hi hB ht
  have := h.1.size
  rw [k.2 i (by omega) hB (fun cs t m he => ht cs t m (h1.symm.trans he)), h1]
theorem Fr.drewN {base B : Nat} {a b : World} (h : Fr base B a b) (n : Nat) : Fr base B a (b.drewN n) := ⟨below_drewN h.1 n, h.2⟩
theorem Fr.alloc {base B : Nat} {a b : World} (h : Fr base B a b) (hB : base ≤ a.heap.size) (o : Obj) : Fr base B a (b.alloc o) := by
  have := h.1.size
  exact ⟨h.1.alloc (by omega) o, fun k hk hne ht => (Below.heap_alloc b o k (by omega)).trans (h.2 k hk hne ht)⟩
/-- what a call that changes nothing old leaves -/
theorem Fr.call {base B : Nat} {a b c : World} (h : Fr base B a b) (hB : base ≤ a.heap.size) (k : Below b.heap.size b c) : Fr base B a c := by
  have hs := h.1.size
  exact ⟨h.1.trans (k.mono (by omega)), fun i hi hne ht => (k.block i (by omega)).trans (h.2 i hi hne ht)⟩
section
variable {T : TypeId} {w w1 : World} {base B : Nat} {va vf v' : Value} {F : PFst}
theorem Bld.lt (h : Bld T w base B va vf F) : B < w.heap.size := (Array.getElem?_eq_some_iff.1 h.blk).1
theorem Bld.c0 (h : Bld T w base B va vf F) : w.cell? ⟨B, 0, none⟩ = some (.int .i64 F.states) := by rw [cell_of_row w B _ _ _ (0, 0) h.blk]; rfl
theorem Bld.c1 (h : Bld T w base B va vf F) : w.cell? ⟨B, 1, none⟩ = some va := by rw [cell_of_row w B _ _ _ (0, 0) h.blk]; rfl
theorem Bld.c2 (h : Bld T w base B va vf F) : w.cell? ⟨B, 2, none⟩ = some vf := by rw [cell_of_row w B _ _ _ (0, 0) h.blk]; rfl
theorem Bld.free (h : Bld T w base B va vf F) (j : Nat) : w.frozen? ⟨B, j, none⟩ = false := by simp [World.frozen?, h.blk]
theorem row_type {size n : Nat} {e : TypeId} {v : Value} {xs : List Value} (h : w.ownsRow base e size v n xs) {k : Nat} (hk : v.ownBlock = some k) : ∃ cs, w.heap[k]? = some (.cells cs e (0, 0)) := by
  rcases h.2 with ⟨rfl, _⟩ | ⟨g, cap, cur, rfl, _, hh, _⟩
  · simp [Value.ownBlock] at hk
  · simp [Value.ownBlock] at hk; subst hk; exact ⟨cur, hh⟩
theorem ne_of_type {k k' : Nat} {cs cs' : Array Value} {t t' : TypeId} {m m' : Nat × Nat} (h : w.heap[k]? = some (.cells cs t m)) (h' : w.heap[k']? = some (.cells cs' t' m')) (hne : t ≠ t') : k ≠ k' := by
  rintro rfl
  rw [h] at h'
  cases h'
  exact hne rfl
theorem own_setCell {size n : Nat} {e : TypeId} {v : Value} {xs : List Value} (h : w.ownsRow base e size v n xs) {B : Nat} (hB : v.ownBlock ≠ some B) (j : Nat) (u : Value) : (w.setCell ⟨B, j, none⟩ u).ownsRow base e size v n xs := by
  refine ⟨h.1, ?_⟩
  rcases h.2 with hn | ⟨g, cap, cur, rfl, hb, hg, rest⟩
  · exact .inl hn
  · exact .inr ⟨g, cap, cur, rfl, hb, (Below.heap_setCell w ⟨B, j, none⟩ u g (by simp [Value.ownBlock] at hB; simpa using hB)).trans hg, rest⟩
theorem Bld.neA (h : Bld T w base B va vf F) : va.ownBlock ≠ some B := fun he => by
  obtain ⟨cs, hc⟩ := row_type h.oa he
  exact ne_of_type h.blk hc h.ta rfl
theorem Bld.neI (h : Bld T w base B va vf F) : vf.ownBlock ≠ some B := fun he => by
  obtain ⟨cs, hc⟩ := row_type h.oi he
  exact ne_of_type h.blk hc h.ti rfl
theorem Bld.neAI (h : Bld T w base B va vf F) : vf.ownBlock = none ∨ vf.ownBlock ≠ va.ownBlock := by
  cases hv : vf.ownBlock with
  | none => exact .inl rfl
  | some k =>
    refine .inr fun he => ?_
    obtain ⟨cs, hc⟩ := row_type h.oi hv
    obtain ⟨cs', hc'⟩ := row_type h.oa he.symm
    exact ne_of_type hc hc' (by decide) rfl
theorem Bld.neIA (h : Bld T w base B va vf F) : va.ownBlock = none ∨ va.ownBlock ≠ vf.ownBlock := by
  cases hv : va.ownBlock with
  | none => exact .inl rfl
  | some k =>
    refine .inr fun he => ?_
    obtain ⟨cs, hc⟩ := row_type h.oa hv
    obtain ⟨cs', hc'⟩ := row_type h.oi he.symm
    exact ne_of_type hc hc' (by decide) rfl
theorem Fr.of_grown {e : TypeId} {size n j : Nat} {v u : Value} {xs : List Value} (ho : w.ownsRow base e size v n xs) (he : e = 57 ∨ e = 3) (hB : base ≤ B) (hlt : base ≤ w.heap.size) (hg : w.grownBy w1 v.ownBlock) :
    Fr base B w (w1.setCell ⟨B, j, none⟩ u) := by
  refine ⟨⟨hg.os, hg.tape, hg.output, by have := hg.size; simpa using this, fun k hk => ?_⟩, fun k hk hkB ht => ?_⟩
  · rw [Below.heap_setCell w1 ⟨B, j, none⟩ u k (by simp; omega)]
    refine hg.block k (by omega) fun he => ?_
    have := (World.ownsRow.lt ho k he.symm).1
    omega
  · rw [Below.heap_setCell w1 ⟨B, j, none⟩ u k (by simpa using hkB)]
    refine hg.block k hk fun he2 => ?_
    obtain ⟨cs', hc'⟩ := row_type ho he2.symm
    rcases he with rfl | rfl
    · exact (ht _ _ _ hc').1 rfl
    · exact (ht _ _ _ hc').2 rfl
/-- what is known after an append of arcs and the store of the new row -/
theorem Bld.pushed {l : List PArc} (h : Bld T w base B va vf F) (hg : w.grownBy w1 va.ownBlock) (ho : OwnA w1 base v' l) :
    Bld T (w1.setCell ⟨B, 1, none⟩ v') base B v' vf ⟨F.states, l, F.final⟩ ∧ Fr base B w (w1.setCell ⟨B, 1, none⟩ v') := by
  have hB1 := hg.block B h.lt (Ne.symm h.neA)
  rw [h.blk] at hB1
  have hvB : v'.ownBlock ≠ some B := fun he => by
    obtain ⟨cs, hc⟩ := row_type ho he
    exact ne_of_type hB1 hc h.ta rfl
  exact ⟨⟨by simp [World.setCell, Array.getElem?_modify, hB1], own_setCell ho hvB _ _, own_setCell (World.ownsRow.kept h.oi hg h.neAI) h.neI _ _, h.ta, h.ti, h.le⟩, Fr.of_grown h.oa (.inl rfl) h.le (by have := h.lt; have := h.le; omega) hg⟩
theorem Bld.mid (h : Bld T w base B va vf F) (hg : w.grownBy w1 va.ownBlock) : w1.cell? ⟨B, 1, none⟩ = some va ∧ w1.frozen? ⟨B, 1, none⟩ = false := by
  have hB1 := hg.block B h.lt (Ne.symm h.neA)
  exact ⟨(World.cell?_of_block (a := ⟨B, 1, none⟩) hB1).trans h.c1, (World.frozen?_of_block (a := ⟨B, 1, none⟩) hB1).trans (h.free 1)⟩
/-- the same of the final states -/
theorem Bld.pushedF {l : List Int} (h : Bld T w base B va vf F) (hg : w.grownBy w1 vf.ownBlock) (ho : OwnI w1 base v' l) :
    Bld T (w1.setCell ⟨B, 2, none⟩ v') base B va v' ⟨F.states, F.arcs, l⟩ ∧ Fr base B w (w1.setCell ⟨B, 2, none⟩ v') := by
  have hB1 := hg.block B h.lt (Ne.symm h.neI)
  rw [h.blk] at hB1
  have hvB : v'.ownBlock ≠ some B := fun he => by
    obtain ⟨cs, hc⟩ := row_type ho he
    exact ne_of_type hB1 hc h.ti rfl
  exact ⟨⟨by simp [World.setCell, Array.getElem?_modify, hB1], own_setCell (World.ownsRow.kept h.oa hg h.neIA) h.neA _ _, own_setCell ho hvB _ _, h.ta, h.ti, h.le⟩, Fr.of_grown h.oi (.inr rfl) h.le (by have := h.lt; have := h.le; omega) hg⟩
theorem Bld.midF (h : Bld T w base B va vf F) (hg : w.grownBy w1 vf.ownBlock) : w1.cell? ⟨B, 2, none⟩ = some vf ∧ w1.frozen? ⟨B, 2, none⟩ = false := by
  have hB1 := hg.block B h.lt (Ne.symm h.neI)
  exact ⟨(World.cell?_of_block (a := ⟨B, 2, none⟩) hB1).trans h.c2, (World.frozen?_of_block (a := ⟨B, 2, none⟩) hB1).trans (h.free 2)⟩
theorem Bld.alloc (h : Bld T w base B va vf F) (o : Obj) : Bld T (w.alloc o) base B va vf F :=
  ⟨(Below.heap_alloc w o B h.lt).trans h.blk, World.ownsRow.alloc h.oa o, World.ownsRow.alloc h.oi o, h.ta, h.ti, h.le⟩
theorem own_below {size n : Nat} {e : TypeId} {v : Value} {xs : List Value} (h : w.ownsRow base e size v n xs) (hb : Below w.heap.size w w1) : w1.ownsRow base e size v n xs := by
  refine ⟨h.1, ?_⟩
  rcases h.2 with hn | ⟨g, cap, cur, rfl, hb2, hg, rest⟩
  · exact .inl hn
  · exact .inr ⟨g, cap, cur, rfl, hb2, (hb.block g (Array.getElem?_eq_some_iff.1 hg).1).trans hg, rest⟩
theorem Bld.below (h : Bld T w base B va vf F) (hb : Below w.heap.size w w1) : Bld T w1 base B va vf F :=
  ⟨(hb.block B h.lt).trans h.blk, own_below h.oa hb, own_below h.oi hb, h.ta, h.ti, h.le⟩
theorem Bld.setS (h : Bld T w base B va vf F) (n : Int) : Bld T (w.setCell ⟨B, 0, none⟩ (.int .i64 n)) base B va vf ⟨n, F.arcs, F.final⟩ ∧ Fr base B w (w.setCell ⟨B, 0, none⟩ (.int .i64 n)) := by
  refine ⟨⟨?_, own_setCell h.oa h.neA _ _, own_setCell h.oi h.neI _ _, h.ta, h.ti, h.le⟩, (Below.refl _ _).setCell (p := ⟨B, 0, none⟩) h.le _, fun k _ hk _ => Below.heap_setCell w ⟨B, 0, none⟩ _ k (by simpa using hk)⟩
  simp [World.setCell, Array.getElem?_modify, h.blk]
theorem Bld.drew (h : Bld T w base B va vf F) : Bld T w.drew base B va vf F := ⟨h.blk, h.oa, h.oi, h.ta, h.ti, h.le⟩
theorem Bld.drewN (h : Bld T w base B va vf F) (n : Nat) : Bld T (w.drewN n) base B va vf F := ⟨h.blk, h.oa, h.oi, h.ta, h.ti, h.le⟩
theorem Bld.rd (h : Bld T w base B va vf F) : RdF w (.agg #[.int .i64 F.states, va, vf]) F := ⟨va, vf, rfl, h.oa.rd, h.oi.rd⟩
end
set_option maxHeartbeats 1000000 in
theorem jump_any (base B : Nat) (va vf : Value) (F : PFst) (p q : Int) (w : World) (h : Bld 62 w base B va vf F) (hl : F.arcs.length ≤ 1000000) :
    Calls Try.prog 47 #[.pointer (some ⟨B, 0, none⟩), .int .i64 p, .int .i64 q] w fun e w' => e = .returned (.tuple #[]) ∧ (∃ va', Bld 62 w' base B va' vf ⟨F.states, F.arcs ++ [jumpArc p q], F.final⟩) ∧ Fr base B w w' := by
  have H := Lib.hid h
  have c1 := h.c1
  have hB := h.lt
  have hle := h.le
  clear h
  go_enter Try.func47, Try.ntmps47
  go_wp2_with (at_builtin; refine wpList_app_arc rfl (.tmp 11) (.tmp 15) rfl base va F.arcs rfl H.out.oa p 0 0 q F.arcs.length rfl hl (by omega) rfl ?_; intro g' cap w1 ho hg hgr; obtain ⟨k1, k2⟩ := H.out.mid hgr)
  go_end0
  have hp := H.out.pushed hgr ho
  exact ⟨rfl, ⟨_, hp.1⟩, hp.2⟩
end Go.Proofs.Ytmeppkkoepmlnaa
