/-
  A range over a function whose iterator writes one variable of its own between two rounds: block Bi, a box that lay ahead of the loop.
  The iterator's contract SeqBox: the caller's word J abides new blocks and a write to Bi. The law wpIn_rangeFunc_box: the caller's word I abides besides a turn of the loop's two blocks of book-keeping, D and D + 1, where D is the heap's size where the loop begins.
-/
import Derived.Test.YtnjniganlielcaaMem
import Derived.RangeFuncNested
import Derived.RangeFuncBound
import Derived.RangeFuncCalls
import Derived.RangeFuncLeaves
import Derived.Shelf.Abstract
import Derived.Shelf.RegionOpen
import Derived.OwnWalkIn
import Derived.TacticsInMore
import Derived.LoopNIn
import Derived.LoopIn
namespace Go
open Go.RowKit
variable {F : Fence} {n : Nat} {P : Program}
/-- a word that abides new blocks and a turn of the blocks that T names -/
def Stays {β : Type} (T : Nat → Prop) (I : β → World → Prop) : Prop := ∀ s A B row, I s A → A.grownBy B row → (∀ k, row = some k → T k) → I s B
theorem Stays.and {β : Type} {T : Nat → Prop} {I J : β → World → Prop} (h : Stays T I) (k : Stays T J) : Stays T (fun s W => I s W ∧ J s W) := fun s A B row hs hg hr => ⟨h s A B row hs.1 hg hr, k s A B row hs.2 hg hr⟩
theorem Stays.new {β : Type} {T : Nat → Prop} {I : β → World → Prop} (h : Stays T I) {s : β} {W : World} (hs : I s W) (o : Obj) : I s (W.alloc o) := h s W _ none hs (World.grownBy_alloc W o none) (fun k e => by cases e)
theorem Stays.put {β : Type} {T : Nat → Prop} {I : β → World → Prop} (h : Stays T I) {s : β} {W : World} (hs : I s W) {k : Nat} (hk : T k) (o : Obj) : I s (W.putObj k o) := h s W _ (some k) hs (grownBy_putObj' W k o) (fun j e => by cases e; exact hk)
theorem Stays.blk {β : Type} {T : Nat → Prop} (b : Nat) (o : Obj) (hb : ¬ T b) : Stays T (fun (_ : β) W => W.heap[b]? = some o) := fun _ _ _ _ hs hg hr =>
  (hg.block b (Array.getElem?_eq_some_iff.1 hs).1 (fun e => hb (hr b e.symm))).trans hs
theorem Stays.below {β : Type} {T : Nat → Prop} {m : Nat} {w : World} (hm : m ≤ w.heap.size) (hT : ∀ k, T k → m ≤ k) : Stays T (fun (_ : β) W => Below m w W) := fun _ _ _ _ hs hg hr =>
  hs.grown hg (Nat.le_trans hm hs.size) (fun k e => hT k (hr k e))
theorem grown_of_below {A B : World} (h : Below A.heap.size A B) (row : Option Nat) : A.grownBy B row := ⟨h.os, h.tape, h.output, h.size, fun k hk _ => h.block k hk⟩
theorem Stays.call {β : Type} {T : Nat → Prop} {I : β → World → Prop} (h : Stays T I) {s : β} {A B : World} (hs : I s A) (hb : Below A.heap.size A B) : I s B := h s A B none hs (grown_of_below hb none) (fun k e => by cases e)
theorem Stays.set {β : Type} {T : Nat → Prop} {I : β → World → Prop} (h : Stays T I) {s : β} {A : World} (hs : I s A) {b : Nat} (hb : T b) (u : Value) : I s (A.setCell ⟨b, 0, none⟩ u) := h s A _ (some b) hs (grownBy_setCell' A b u) (fun k e => by cases e; exact hb)
theorem Stays.pure {β : Type} {T : Nat → Prop} (p : β → Prop) : Stays T (fun s (_ : World) => p s) := fun _ _ _ _ hs _ _ => hs
/-- the contract of an iterator that writes block Bi between two rounds -/
def SeqBox {α : Type} (F : Fence) (n : Nat) (P : Program) (g : Nat) (lb : Array Value) (encs : α → Array Value) (Bi : Nat) (Kp : World → World → Prop) (S Sp : List α → Prop) (N : Nat) (w : World) : Prop :=
  ∀ (l : Nat) (J Jx : List α → World → Prop) (W : World), Below w.heap.size w W → W.heap.size = w.heap.size + 2 → Stays (fun k => k = Bi) J →
    (∀ pre x W1, J pre W1 → pre.length < N → YieldAt F (n - 1) P l (encs x) W1 fun e W' =>
      (e = .returned (.bool true) ∧ J (pre ++ [x]) W' ∧ Kp W1 W') ∨ (e = .returned (.bool false) ∧ Jx (pre ++ [x]) W')) →
    J [] W → CallsIn F n P g (#[.func (.yield l) #[] #[]] ++ lb) W fun e W' => (∃ v, e = .returned v) ∧ ((∃ xs, S xs ∧ J xs W') ∨ (∃ pre, Sp pre ∧ Jx pre W'))
/-- the loop's two blocks lie as they lay -/
def Books (D : Nat) (W W' : World) : Prop := W'.heap[D]? = W.heap[D]? ∧ W'.heap[D + 1]? = W.heap[D + 1]?
theorem Books.refl (D : Nat) (W : World) : Books D W W := ⟨rfl, rfl⟩
theorem Books.alloc {D : Nat} {W W' : World} (h : Books D W W') (hl : D + 1 < W'.heap.size) (o : Obj) : Books D W (W'.alloc o) := ⟨(Below.heap_alloc _ o D (by omega)).trans h.1, (Below.heap_alloc _ o (D + 1) hl).trans h.2⟩
theorem Books.set {D : Nat} {W W' : World} (h : Books D W W') {b : Nat} (hb : b < D) (j : Nat) (u : Value) : Books D W (W'.setCell ⟨b, j, none⟩ u) := ⟨(Below.heap_setCell W' ⟨b, j, none⟩ u D (by show D ≠ b; omega)).trans h.1, (Below.heap_setCell W' ⟨b, j, none⟩ u (D + 1) (by show D + 1 ≠ b; omega)).trans h.2⟩
theorem Books.call {D : Nat} {W W' W2 : World} (h : Books D W W') (hl : D + 1 < W'.heap.size) (hb : Below W'.heap.size W' W2) : Books D W W2 := ⟨(hb.block D (by omega)).trans h.1, (hb.block (D + 1) hl).trans h.2⟩
def boxPost {α : Type} (D : Nat) (Kp : World → World → Prop) (I : List α → World → Prop) (Ix : Code → List α → World → Prop) (xs : List α) (W : World) : Exit → Act → World → Prop
  | .normal, _, W' => Books D W W' ∧ Kp W W' ∧ I xs W'
  | .ret, _, W' => Books D W W' ∧ Ix .ret xs W'
  | .exit id, _, W' => Books D W W' ∧ Ix (.exit id) xs W'
  | .goto t, _, W' => Books D W W' ∧ Ix (.goto t) xs W'
  | .panic _, _, _ => False
  | .outgrown, _, _ => False
theorem wpIn_rangeFunc_box {α : Type} {g : Operand} {ps : Array Tmp} {assign body : Code} {Q : Exit → Act → World → Prop} {a : Act} {w : World} {D : Nat} (hD : w.heap.size = D)
    (hro : F.round = none) (h1 : 1 ≤ n) {gf : Nat} {lb : Array Value} (hg : a.eval g = .func (.func gf) #[] lb) (hFg : F.fn gf) (eg : ∀ args w, (callFunc gf args).run P w = .ok (.enter gf args) w)
    {encs : α → Array Value} {Bi : Nat} {Kp : World → World → Prop} {S Sp : List α → Prop} {N : Nat} (hBi : Bi < D) (hseq : SeqBox F (n - 1) P gf lb encs Bi Kp S Sp N w)
    (hKt : ∀ {A B C : World}, Kp A B → Kp B C → Kp A C) (hKb : ∀ (W : World) (r r' : Loop), W.heap[D + 1]? = some (.loop r) → Kp W (W.putObj (D + 1) (.loop r'))) (hps : ∀ x, (encs x).size = ps.size)
    (I : List α → World → Prop) (Ix : Code → List α → World → Prop) (hI : Stays (fun k => k = Bi ∨ k = D ∨ k = D + 1) I) (hIx : ∀ c, Stays (fun k => k = D ∨ k = D + 1) (Ix c)) (h0 : I [] w)
    (Ax : α → Act → World → Prop) (hAx : ∀ x a', Stays (fun k => k = D + 1) (fun (_ : Unit) W => Ax x a' W))
    (hassign : ∀ (l : Nat) (pre : List α) (x : α) (W : World) (K : Act → World → Prop), D + 1 < W.heap.size → I pre W → (∀ a' W', Books D W W' → Kp W W' → I pre W' → Ax x a' W' → K a' W') →
      assign.wpIn (F.inRound l) (n - 1 - 1) P (Exit.then K (fun _ _ _ => False)) { tmps := (ps.zip (encs x)).foldl (fun t (p, v) => t.setIfInBounds p v) a.tmps, defers := [] } W)
    (hbody : ∀ (l : Nat) (pre : List α) (x : α) (a' : Act) (W : World), D + 1 < W.heap.size → I pre W → Ax x a' W → pre.length < N → body.wpIn (F.inRound l) (n - 1 - 1) P (boxPost D Kp I Ix (pre ++ [x]) W) a' W)
    (hdone : ∀ (xs : List α) (W : World), S xs → I xs W → W.heap[D]? = some (.deferred (some [])) → Q .normal { a with defers := { target := .collected D, args := #[] } :: a.defers } W)
    (hstop : ∀ (c : Code) (pre : List α) (W : World), Sp pre → Ix c pre W → W.heap[D]? = some (.deferred (some [])) → c.wpIn F n P Q { a with defers := { target := .collected D, args := #[] } :: a.defers } W) :
    (Code.rangeFunc g ps assign body).wpIn F n P Q a w := by
  subst hD
  refine wpIn_rangeFunc fun fn hfn => ?_
  rw [hro]
  obtain ⟨R, hR⟩ : ∃ R : LoopState → Option Code → Loop, ∀ s p, R s p = { state := s, pending := p, fn, tmps := a.tmps, params := ps, assign, body, defers := w.heap.size } := ⟨_, fun _ _ => rfl⟩
  have hst : ∀ s p, (R s p).state = s := fun s p => by rw [hR]
  have hpe : ∀ s p, (R s p).pending = p := fun s p => by rw [hR]
  have htu : ∀ s p s' p', ({ R s p with state := s', pending := p' } : Loop) = R s' p' := fun s p s' p' => by rw [hR, hR]
  have htu1 : ∀ s p s', ({ R s p with state := s' } : Loop) = R s' p := fun s p s' => by rw [hR, hR]
  generalize hL : w.heap.size + 1 = L
  obtain ⟨V, hV⟩ : ∃ V, (w.alloc (.deferred (some []))).alloc (.loop (R .ready none)) = V := ⟨_, rfl⟩
  have vL : V.heap[L]? = some (.loop (R .ready none)) := by
    have := World.alloc_heap_new (w.alloc (.deferred (some []))) (.loop (R .ready none))
    rw [World.size_alloc, hV, hL] at this
    exact this
  have vD : V.heap[w.heap.size]? = some (.deferred (some [])) := by
    rw [← hV]
    exact (Below.heap_alloc _ _ _ (by simp)).trans (World.alloc_heap_new w _)
  have vb : Below w.heap.size w V := by rw [← hV]; exact ((Below.refl _ w).alloc (Nat.le_refl _) _).alloc (by simp) _
  have vz : V.heap.size = w.heap.size + 2 := by rw [← hV]; simp
  refine ⟨L, [{ target := .collected w.heap.size, args := #[] }], V, { target := .fn (.func gf) lb, args := #[.func (.yield L) #[] #[]] }, V, gf, #[.func (.yield L) #[] #[]] ++ lb, V, ?_, ?_, ?_, ?_, fun _ => h1, ?_⟩
  · rw [← hV, ← hL, hR]
    exact run_enterLoop_outer _ _ _ _ _
  · simp only [resolve, hg]
    simp [go_sem]
  · intro f' hf'
    simp [Target.leads] at hf'
    subst hf'
    exact hFg
  · simp [invoke, go_sem, eg]
  have hLD : L ≠ w.heap.size := by omega
  refine (hseq L (fun xs W => I xs W ∧ (W.heap[L]? = some (.loop (R .ready none)) ∧ W.heap[w.heap.size]? = some (.deferred (some []))))
    (fun xs W => ∃ c, Ix c xs W ∧ W.heap[L]? = some (.loop (R .done (some c))) ∧ W.heap[w.heap.size]? = some (.deferred (some []))) V vb vz ?_ ?_ ?_).mono ?_
  · refine Stays.and (fun s A B row hs hg' hr => hI s A B row hs hg' (fun k e => .inl (hr k e))) (Stays.and (Stays.blk _ _ (by omega)) (Stays.blk _ _ (by omega)))
  · rintro pre x W ⟨hi, hl, hd⟩ hlen
    have hlt := (Array.getElem?_eq_some_iff.1 hl).1
    have hy := run_yield (P := P) (args := encs x) hl (by rw [hR]; exact hps x)
    rw [hR] at hy
    refine ⟨fn, _, assign, body, hy, roundIn_of_wpIn hfn (hassign L pre x W _ (by omega) hi ?_)⟩
    clear hy
    intro a1 W1 k1 kp1 i1 ax1
    rw [Books, hL] at k1
    have hl1 := k1.2.trans hl
    have hd1 := k1.1.trans hd
    have hlt1 := (Array.getElem?_eq_some_iff.1 hl1).1
    refine ⟨_, run_beginRound hl1 (hst _ _), ?_⟩
    rw [htu1]
    have hl2 : (W1.putObj L (.loop (R .busy none))).heap[L]? = some (.loop (R .busy none)) := World.putObj_heap_same hlt1
    have hd2 : (W1.putObj L (.loop (R .busy none))).heap[w.heap.size]? = some (.deferred (some [])) := (World.putObj_heap_other (Ne.symm hLD)).trans hd1
    have kp2 : Kp W1 (W1.putObj L (.loop (R .busy none))) := by rw [← hL] at hl1 ⊢; exact hKb _ _ _ hl1
    refine wpIn_mono (hbody L pre x a1 _ (by simp; omega) (hI.put i1 (.inr (.inr hL.symm)) _) ((hAx x a1).put (s := ()) ax1 hL.symm _) hlen) ?_
    have fin : ∀ (j : Option Code) (W3 : World), Books w.heap.size (W1.putObj L (.loop (R .busy none))) W3 →
        (Instr.endRound L j).run P W3 = .ok (.bool j.isNone) (W3.putObj L (.loop (R (if j.isNone then .ready else .done) j))) ∧ W3.heap[L]? = some (.loop (R .busy none)) ∧
          (W3.putObj L (.loop (R (if j.isNone then .ready else .done) j))).heap[L]? = some (.loop (R (if j.isNone then .ready else .done) j)) ∧
          (W3.putObj L (.loop (R (if j.isNone then .ready else .done) j))).heap[w.heap.size]? = some (.deferred (some [])) := fun j W3 k3 => by
      rw [Books, hL] at k3
      have hl3 := k3.2.trans hl2
      have h := run_endRound (P := P) j hl3
      rw [htu] at h
      exact ⟨h, hl3, World.putObj_heap_same (Array.getElem?_eq_some_iff.1 hl3).1, (World.putObj_heap_other (Ne.symm hLD)).trans (k3.1.trans hd2)⟩
    intro e a3 W3 hp
    cases e with
    | normal =>
      obtain ⟨k3, kp3, i3⟩ := hp
      obtain ⟨hr, hl3, hl4, hd4⟩ := fin none W3 k3
      refine ⟨_, _, hr, .inl ⟨rfl, ⟨hI.put i3 (.inr (.inr hL.symm)) _, hl4, hd4⟩, hKt kp1 (hKt (hKt kp2 kp3) ?_)⟩⟩
      rw [← hL] at hl3 ⊢
      exact hKb _ _ _ hl3
    | ret =>
      obtain ⟨k3, i3⟩ := hp
      obtain ⟨hr, hl3, hl4, hd4⟩ := fin (some .ret) W3 k3
      exact ⟨_, _, hr, .inr ⟨rfl, .ret, (hIx _).put i3 (.inr hL.symm) _, hl4, hd4⟩⟩
    | exit id =>
      obtain ⟨k3, i3⟩ := hp
      obtain ⟨hr, hl3, hl4, hd4⟩ := fin (some (.exit id)) W3 k3
      exact ⟨_, _, hr, .inr ⟨rfl, .exit id, (hIx _).put i3 (.inr hL.symm) _, hl4, hd4⟩⟩
    | goto t =>
      obtain ⟨k3, i3⟩ := hp
      obtain ⟨hr, hl3, hl4, hd4⟩ := fin (some (.goto t)) W3 k3
      exact ⟨_, _, hr, .inr ⟨rfl, .goto t, (hIx _).put i3 (.inr hL.symm) _, hl4, hd4⟩⟩
    | panic ch => exact hp.elim
    | outgrown => exact hp.elim
  · refine ⟨?_, vL, vD⟩
    rw [← hV]
    exact hI.new (hI.new h0 _) _
  · rintro e W2 ⟨⟨v, rfl⟩, (⟨xs, hS, hi, hl, hd⟩ | ⟨pre, hSp, c, hi, hl, hd⟩)⟩
    · have h := run_endLoop (P := P) hl (by rw [hst]; simp)
      rw [hpe] at h
      exact ⟨none, _, h, hdone xs _ hS (hI.put hi (.inr (.inr hL.symm)) _) ((World.putObj_heap_other (Ne.symm hLD)).trans hd)⟩
    · have h := run_endLoop (P := P) hl (by rw [hst]; simp)
      rw [hpe] at h
      exact ⟨some c, _, h, hstop c pre _ hSp ((hIx c).put hi (.inr hL.symm) _) ((World.putObj_heap_other (Ne.symm hLD)).trans hd)⟩
end Go
