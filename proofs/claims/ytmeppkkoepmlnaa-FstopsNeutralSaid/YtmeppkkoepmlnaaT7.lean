/-
  Appending one element onto a row of the call's own; the builder of fstops: jump.
-/
import Derived.Test.YtmeppkkoepmlnaaT6
namespace Go.Proofs.Ytmeppkkoepmlnaa
open Go.ChangeShapes Go.WideShapes Go.ChangeAt Go.RowKit
theorem infoA0 : (Try.prog.info? 57).map (fun i => (i.zero, i.size, i.bytes)) = some (some (.agg #[.int .i64 0, .int .i64 0, .int .i64 0, .int .i64 0]), 4, 32) := by kernel_rfl
theorem infoI0 : (Try.prog.info? 3).map (fun i => (i.zero, i.size, i.bytes)) = some (some (.int .i64 0), 1, 8) := by kernel_rfl
theorem arcsCells_snoc (l : List PArc) (x : PArc) : arcsCells (l ++ [x]) = arcsCells l ++ arcCells x := by simp [arcsCells]
/-- a row of arcs, of ints, that the call owns -/
def OwnA (w : World) (base : Nat) (v : Value) (l : List PArc) : Prop := w.ownsRow base 57 4 v l.length (arcsCells l)
def OwnI (w : World) (base : Nat) (v : Value) (l : List Int) : Prop := w.ownsRow base 3 1 v l.length (l.map (Value.int .i64))
theorem OwnA.rd {w : World} {base : Nat} {v : Value} {l : List PArc} (h : OwnA w base v l) : RdA w v l := Rd.own h
theorem OwnI.rd {w : World} {base : Nat} {v : Value} {l : List Int} (h : OwnI w base v l) : RdI w v l := Rd.own h

theorem wpList_app_arc {ops : Array Oper} {rest : List Oper} {o : Oper} {a : Act} {Q : Exit → Act → World → Prop} {w : World} (hgd : o.guard = none) (s x : Operand)
    (ho : o.op = .call { callee := .builtin .append, args := #[s, x], argTypes := #[27, 27] })
    (base : Nat) (v : Value) (l : List PArc) (hs : a.eval s = v) (hown : OwnA w base v l) (x0 x1 x2 x3 : Int) (m : Nat) (hm : Hid (l.length = m)) (hl : m ≤ 1000000) (hbase : base ≤ w.heap.size)
    (hx : a.eval x = .slice (some ⟨w.heap.size, 0, none⟩) 1 1)
    (h : ∀ g' cap w', OwnA w' base (.slice (some ⟨g', 0, none⟩) (m + 1) cap) (l ++ [⟨x0, x1, x2, x3⟩]) → base ≤ g' → w.grownBy w' v.ownBlock → wpList Try.prog ops Q rest (a.put o.dst (.slice (some ⟨g', 0, none⟩) (m + 1) cap)) w') :
    wpList Try.prog ops Q (o :: rest) a (w.alloc (.cells #[.int .i64 x0, .int .i64 x1, .int .i64 x2, .int .i64 x3] 57)) := by
  obtain rfl := hm.out
  obtain ⟨i0, hi, hz0, hz1, hz2⟩ := info_parts infoA0
  refine wpList_append_own _ hgd s x 27 ho base 57 i0 _ 4 32 Try.underlying27 hi hz0 hz1 hz2 rfl (by decide) v l.length (arcsCells l) hs (World.ownsRow.alloc hown _) ⟨w.heap.size, 0, none⟩ 1 1
    [.int .i64 x0, .int .i64 x1, .int .i64 x2, .int .i64 x3] hx rfl ?_ ?_ (by simp only [maxLen]; omega) (by omega) (by simp; omega) ?_
  · intro j u hu
    match j, hu with
    | 0, hu => simp at hu; subst hu; simp [go_sem, Addr.add]
    | 1, hu => simp at hu; subst hu; simp [go_sem, Addr.add]
    | 2, hu => simp at hu; subst hu; simp [go_sem, Addr.add]
    | 3, hu => simp at hu; subst hu; simp [go_sem, Addr.add]
  · intro u hu
    simp at hu
    rcases hu with rfl | rfl | rfl | rfl <;> rfl
  · intro v' w' h1 h2 _
    obtain ⟨g', cap, rfl, hg1, hg2⟩ := h1.form (by omega)
    refine h g' cap w' ?_ hg1 ?_
    · unfold OwnA
      rw [arcsCells_snoc, List.length_append]
      exact h1
    · exact ⟨h2.os, h2.tape, h2.output, Nat.le_trans (by simp) h2.size, fun k hk hne => (h2.block k (by simp; omega) hne).trans (Below.heap_alloc w _ k hk)⟩
end Go.Proofs.Ytmeppkkoepmlnaa
