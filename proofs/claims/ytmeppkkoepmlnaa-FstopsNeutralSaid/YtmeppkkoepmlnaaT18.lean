/-
  The closure of Compose.
-/
import Derived.Test.YtmeppkkoepmlnaaT17
namespace Go.Proofs.Ytmeppkkoepmlnaa
open Go.ChangeShapes Go.WideShapes Go.ChangeAt Go.RowKit
theorem wpList_app_arc2 {ops : Array Oper} {rest : List Oper} {o : Oper} {a : Act} {Q : Exit → Act → World → Prop} {w : World} (hgd : o.guard = none) (s x : Operand)
    (ho : o.op = .call { callee := .builtin .append, args := #[s, x], argTypes := #[27, 27] })
    (base : Nat) (v : Value) (l : List PArc) (hs : a.eval s = v) (hown : OwnA w base v l) (x0 x1 x2 x3 : Int) (m : Nat) (hm : Hid (l.length = m)) (hl : m ≤ 900000) (hbase : base ≤ w.heap.size)
    (hx : a.eval x = .slice (some ⟨w.heap.size, 0, none⟩) 1 1)
    (h : ∀ g' cap w', OwnA w' base (.slice (some ⟨g', 0, none⟩) (m + 1) cap) (l ++ [⟨x0, x1, x2, x3⟩]) → base ≤ g' → w.grownBy w' v.ownBlock → (v.ownBlock = some g' ∨ g' = w.heap.size + 1) → wpList Try.prog ops Q rest (a.put o.dst (.slice (some ⟨g', 0, none⟩) (m + 1) cap)) w') :
    wpList Try.prog ops Q (o :: rest) a (w.alloc (.cells #[.int .i64 x0, .int .i64 x1, .int .i64 x2, .int .i64 x3] 57)) := by
  obtain rfl := hm.out
  have hr : RdA (w.alloc (.cells #[.int .i64 x0, .int .i64 x1, .int .i64 x2, .int .i64 x3] 57)) (.slice (some ⟨w.heap.size, 0, none⟩) 1 1) [⟨x0, x1, x2, x3⟩] := by
    refine ⟨_, 1, rfl, by simp, by decide, by simp [arcsCells, arcCells], fun _ => ⟨w.heap.size, 0, rfl, by simp, ?_⟩⟩
    intro j u hu
    simp only [arcsCells, arcCells, List.flatMap_cons, List.flatMap_nil, List.append_nil] at hu
    match j, hu with
    | 0, hu => simp at hu; subst hu; simp [go_sem]
    | 1, hu => simp at hu; subst hu; simp [go_sem]
    | 2, hu => simp at hu; subst hu; simp [go_sem]
    | 3, hu => simp at hu; subst hu; simp [go_sem]
  refine wpList_plain hgd fun K hK => wp_app_arcs s x ho base v l hs (World.ownsRow.alloc hown _) _ _ hx hr (by simp; omega) (by simp; omega) ?_
  intro v' w' h1 h2 h3
  obtain ⟨g', cap, rfl, hg1, hg2⟩ := World.ownsRow.form h1 (by simp)
  simp only [List.length_append, List.length_cons, List.length_nil, Nat.zero_add] at h1 ⊢
  refine hK _ _ (h g' cap w' h1 hg1 ?_ ?_)
  · exact ⟨h2.os, h2.tape, h2.output, Nat.le_trans (by simp) h2.size, fun k hk hne => (h2.block k (by simp; omega) hne).trans (Below.heap_alloc w _ k hk)⟩
  · rcases h3 with h3 | h3
    · exact .inl h3.symm
    · right; simp [Value.ownBlock] at h3; exact h3
/-- exactly what changes: block B, the row of arcs, new blocks -/
def Gx (B : Nat) (w w' : World) (va va' : Value) : Prop :=
  (∀ k, k < w.heap.size → k ≠ B → va.ownBlock ≠ some k → w'.heap[k]? = w.heap[k]?) ∧ (va'.ownBlock = va.ownBlock ∨ ∃ k, va'.ownBlock = some k ∧ w.heap.size ≤ k)
theorem Gx.arc {B g : Nat} {w w' : World} {va va' : Value} {x0 x1 x2 x3 : Int} (h : Gx B w w' va va') (ha : ABlk w g x0 x1 x2 x3) (hB : g ≠ B) (hn : va.ownBlock ≠ some g) : ABlk w' g x0 x1 x2 x3 ∧ va'.ownBlock ≠ some g := by
  have hlt := (Array.getElem?_eq_some_iff.1 ha).1
  refine ⟨(h.1 g hlt hB hn).trans ha, fun he => ?_⟩
  rcases h.2 with h2 | ⟨k, h2, h3⟩
  · exact hn (h2.symm.trans he)
  · rw [h2] at he; cases he; omega
set_option maxHeartbeats 1000000 in
theorem put_any (base B Pb : Nat) (va vf : Value) (F : PFst) (m : Int) (y z : Value) (p q i o p2 q2 : Int) (w : World) (h : Bld 29 w base B va vf F) (hP : FBlk w Pb (.int .i64 m) y z) (hl : F.arcs.length ≤ 800000)
    (hm : 0 ≤ m ∧ m ≤ 5000) (hp : 0 ≤ p ∧ p ≤ 5000) (hq : 0 ≤ q ∧ q ≤ 5000) (hp2 : 0 ≤ p2 ∧ p2 ≤ 5000) (hq2 : 0 ≤ q2 ∧ q2 ≤ 5000) :
    Calls Try.prog 48 #[.int .i64 p, .int .i64 q, .int .i64 i, .int .i64 o, .int .i64 p2, .int .i64 q2, .pointer (some ⟨B, 0, none⟩), .pointer (some ⟨Pb, 0, none⟩)] w
      fun e w' => e = .returned (.tuple #[]) ∧ (∃ va', Bld 29 w' base B va' vf ⟨F.states, F.arcs ++ [put m p q i o p2 q2], F.final⟩ ∧ Gx B w w' va va') ∧ Fr base B w w' := by
  have H := Lib.hid h
  have c1 := h.c1
  have hB := h.lt
  have hle := h.le
  obtain ⟨m0, _, _, _, _, _⟩ := hP.facts
  obtain ⟨hm0, hm1⟩ := hm
  obtain ⟨hp0, hp1⟩ := hp
  obtain ⟨hq0, hq1⟩ := hq
  obtain ⟨hp20, hp21⟩ := hp2
  obtain ⟨hq20, hq21⟩ := hq2
  clear h hP
  have b1 : 0 ≤ p * m := Int.mul_nonneg hp0 hm0
  have b2 : p * m ≤ 25000000 := by have := Int.mul_le_mul hp1 hm1 hm0 (by omega : (0:Int) ≤ 5000); omega
  have b3 : 0 ≤ p2 * m := Int.mul_nonneg hp20 hm0
  have b4 : p2 * m ≤ 25000000 := by have := Int.mul_le_mul hp21 hm1 hm0 (by omega : (0:Int) ≤ 5000); omega
  have HPUT : Hid (put m p q i o p2 q2 = ⟨p * m + q, i, o, p2 * m + q2⟩) := rfl
  obtain ⟨r, hr⟩ : ∃ r : Int, p * m = r := ⟨_, rfl⟩
  obtain ⟨r2, hr2⟩ : ∃ r2 : Int, p2 * m = r2 := ⟨_, rfl⟩
  have HPUT2 : Hid (put m p q i o p2 q2 = ⟨r + q, i, o, r2 + q2⟩) := by rw [Hid, HPUT.out, hr, hr2]
  rw [hr] at b1 b2
  rw [hr2] at b3 b4
  go_enter Try.func48, Try.ntmps48
  go_wp2_with (at_builtin; refine wpList_app_arc2 rfl (.tmp 15) (.tmp 31) rfl base va F.arcs rfl H.out.oa (r + q) i o (r2 + q2) F.arcs.length rfl (by omega) (by omega) rfl ?_; intro g' cap w1 ho hg hgr hor; obtain ⟨k1, k2⟩ := H.out.mid hgr)
  go_end0
  have hp := H.out.pushed hgr ho
  rw [HPUT2.out]
  refine ⟨rfl, ⟨_, hp.1, ?_, ?_⟩, hp.2⟩
  · intro k hk hkB hne
    rw [Below.heap_setCell w1 ⟨B, 1, none⟩ _ k (by simpa using hkB)]
    exact hgr.block k hk (Ne.symm hne)
  · rcases hor with h | h
    · exact .inl h.symm
    · exact .inr ⟨g', rfl, by omega⟩
end Go.Proofs.Ytmeppkkoepmlnaa
