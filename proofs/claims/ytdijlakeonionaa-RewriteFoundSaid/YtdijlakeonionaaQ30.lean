/-
  What search may change, and what it finds, in plain words.
-/
import Derived.Test.YtdijlakeonionaaQ29
namespace Go.Proofs.Ytdijlakeonionaa
open Go.ChangeShapes Go.WideShapes Go.ChangeAt Go.RowKit
/-- append of a list of structs onto a row of the call's own -/
theorem wpList_app_rows {α : Type} (T E : TypeId) (sz bys : Nat) (z : Value) (f : α → List Value) (hT : Try.prog.underlying T = some (.slice E)) (hI : (Try.prog.info? E).map (fun i => (i.zero, i.size, i.bytes)) = some (some z, sz, bys))
    (hz : z.cells.size = sz) (hsz : 0 < sz) (hb : bys ≤ 10000) (h1 : ∀ a, ∀ u ∈ f a, u.oneCell' = true)
    {ops : Array Oper} {rest : List Oper} {o : Oper} {a : Act} {Q : Exit → Act → World → Prop} {w : World} (hgd : o.guard = none) (s x : Operand)
    (ho : o.op = .call { callee := .builtin .append, args := #[s, x], argTypes := #[T, T] })
    (base : Nat) (v : Value) (l : List α) (hs : a.eval s = v) (hown : w.ownsRow base E sz v l.length (l.flatMap f)) (vx : Value) (ys : List α) (hx : a.eval x = vx) (hr : Rd w sz vx ys.length (ys.flatMap f)) (hl : l.length + ys.length ≤ 1000000000) (hbase : base ≤ w.heap.size)
    (h : ∀ v' w', w'.ownsRow base E sz v' (l ++ ys).length ((l ++ ys).flatMap f) → w.grownBy w' v.ownBlock → wpList Try.prog ops Q rest (a.put o.dst v') w') :
    wpList Try.prog ops Q (o :: rest) a w := by
  obtain ⟨i0, hi, hz0, hz1, hz2⟩ := info_parts hI
  refine wpList_plain hgd fun K hK => ?_
  refine wp_append_rd w s x T ho base E i0 z sz bys hT hi hz0 hz1 hz2 hz hsz v l.length _ hs hown vx ys.length _ hx hr (fun u hu => ?_) (by simp only [maxLen]; omega) ?_ hbase ?_
  · obtain ⟨y, _, hy⟩ := List.mem_flatMap.1 hu
    exact h1 y u hy
  · have : (l.length + ys.length) * bys ≤ 1000000000 * 10000 := Nat.mul_le_mul hl hb
    omega
  · intro v' w' k1 k2 _
    refine hK _ _ (h v' w' ?_ k2)
    rw [List.flatMap_append, List.length_append]
    exact k1
theorem FrW.blk {n B bm : Nat} {w w' : World} (h : FrW n B (fun k => k = bm) w w') {k : Nat} {cs : Array Value} {t : TypeId} {mm : Nat × Nat} (hk : w.heap[k]? = some (.cells cs t mm)) (hn : k < n) (hB : k ≠ B) (hb : k ≠ bm) (ht : t ≠ 25) : w'.heap[k]? = some (.cells cs t mm) :=
  (h.2 k hn hB hb (fun cs' m' hc => by rw [hk] at hc; cases hc; exact absurd rfl ht)).trans hk
theorem FrW.own {n B bm base size cnt : Nat} {w w' : World} (h : FrW n B (fun k => k = bm) w w') {e : TypeId} {v : Value} {xs : List Value} (ho : w.ownsRow base e size v cnt xs) (hn : w.heap.size ≤ n) (hB : ∀ k cs m, w.heap[k]? = some (.cells cs e m) → k ≠ B ∧ k ≠ bm) (ht : e ≠ 25) : w'.ownsRow base e size v cnt xs :=
  own_keep ho fun k cs m _ hk _ => (h.blk hk (Nat.lt_of_lt_of_le (Array.getElem?_eq_some_iff.1 hk).1 hn) (hB k cs m hk).1 (hB k cs m hk).2 ht).trans hk.symm
theorem FrW.low {n N B bm : Nat} {w w' : World} (h : FrW n B (fun k => k = bm) w w') (hn : N ≤ n) (hB : N ≤ B) (hb : N ≤ bm) : Below N w w' :=
  ⟨h.1.os, h.1.tape, h.1.output, h.1.size, fun k hk => h.2 k (by omega) (by omega) (by show ¬ k = bm; omega) (fun _ _ _ => by omega)⟩
theorem FrW.app {n B bm base size cnt : Nat} {w w1 w2 : World} (h : FrW n B (fun k => k = bm) w w1) {v : Value} {xs : List Value} (ho : w1.ownsRow base 25 size v cnt xs) (hB : B ≤ base) (hn : n ≤ w1.heap.size) (hg : w1.grownBy w2 v.ownBlock) : FrW n B (fun k => k = bm) w w2 := by
  refine ⟨h.1.grown hg (Nat.zero_le _) (fun j _ => Nat.zero_le j), fun k h1 h2 h3 h4 => ?_⟩
  have e := h.2 k h1 h2 h3 h4
  rw [← e]
  refine hg.block k (by omega) fun he => ?_
  obtain ⟨cs, hcs⟩ := row_type ho he.symm
  rw [e] at hcs
  have := h4 _ _ hcs
  have := (World.ownsRow.lt ho k he.symm).1
  omega
theorem FrW.setB {n B bm : Nat} {w w1 : World} (h : FrW n B (fun k => k = bm) w w1) (j : Nat) (u : Value) : FrW n B (fun k => k = bm) w (w1.setCell ⟨B, j, none⟩ u) :=
  ⟨h.1.setCell (Nat.zero_le _) u, fun k h1 h2 h3 h4 => (Below.heap_setCell w1 ⟨B, j, none⟩ u k h2).trans (h.2 k h1 h2 h3 h4)⟩
theorem FrW.grown {n B bm : Nat} {w w1 w2 : World} (h : FrW n B (fun k => k = bm) w w1) {row : Option Nat} (hg : w1.grownBy w2 row) (hn : n ≤ w1.heap.size) (hr : ∀ j, row = some j → n ≤ j) : FrW n B (fun k => k = bm) w w2 :=
  ⟨h.1.grown hg (Nat.zero_le _) (fun j _ => Nat.zero_le j), fun k h1 h2 h3 h4 => (hg.block k (by omega) fun e => by have := hr k e.symm; omega).trans (h.2 k h1 h2 h3 h4)⟩
theorem FrW.del {n n2 B bm : Nat} {w w1 w2 : World} (h : FrW n B (fun k => k = bm) w w1) {v : Value} (hd : Frm n2 (DelX bm v) w1 w2) (hn : n ≤ n2) (hv : ∀ j, v.ownBlock = some j → n ≤ j) : FrW n B (fun k => k = bm) w w2 :=
  ⟨h.1.trans hd.1, fun k h1 h2 h3 h4 => (hd.2 k (by omega) (fun e => by
    rcases e with e | e
    · exact h3 e
    · have := hv k e; omega)).trans (h.2 k h1 h2 h3 h4)⟩
theorem OwnL.apart {w w' : World} {base : Nat} {u : Value} {Ls : List (List Int)} (h : OwnL w base u Ls) {b2 size2 n2 : Nat} {e2 : TypeId} {v : Value} {ys : List Value} (hv : w.ownsRow b2 e2 size2 v n2 ys) (h1 : 25 ≠ e2) (h2 : 3 ≠ e2) (hg : w.grownBy w' v.ownBlock) : OwnL w' base u Ls :=
  h.keep fun k cs t m hk ht _ => (blk_apart hk hv (by rcases ht with rfl | rfl <;> assumption) hg).trans hk.symm
theorem OwnL.of_map {w w' : World} {base bm : Nat} {u : Value} {Ls : List (List Int)} (h : OwnL w base u Ls) {I : List PPh} {R : PRule} {wl : List Int} (hk : KnM I R wl bm w) (hg : w.grownBy w' (some bm)) : OwnL w' base u Ls :=
  h.keep fun k cs t m hc _ _ => hg.block k (Array.getElem?_eq_some_iff.1 hc).1 fun e => by cases e; exact hk.ne hc rfl
theorem OwnL.del {w w' : World} {base bm b2 : Nat} {u v : Value} {Ls : List (List Int)} {l : List Pl} (h : OwnL w base u Ls) {I : List PPh} {R : PRule} {wl : List Int} (hk : KnM I R wl bm w) (hv : OwnPl w b2 v l) (hd : Frm w.heap.size (DelX bm v) w w') : OwnL w' base u Ls :=
  h.keep fun k cs t m hc ht _ => hd.2 k (Array.getElem?_eq_some_iff.1 hc).1 fun e => by
    rcases e with e | e
    · exact hk.ne hc e
    · obtain ⟨cs', hcs⟩ := row_type hv e
      rw [hc] at hcs
      cases hcs
      rcases ht with h | h <;> exact absurd h (by decide)
theorem blk_del {w w' : World} {bm b2 k : Nat} {v : Value} {l : List Pl} {I : List PPh} {R : PRule} {wl : List Int} (hk : KnM I R wl bm w) (hv : OwnPl w b2 v l) (hd : Frm w.heap.size (DelX bm v) w w') {cs : Array Value} {t : TypeId} {mm : Nat × Nat} (hc : w.heap[k]? = some (.cells cs t mm)) (ht : t ≠ 87) : w'.heap[k]? = some (.cells cs t mm) :=
  (hd.2 k (Array.getElem?_eq_some_iff.1 hc).1 fun e => by
    rcases e with e | e
    · exact hk.ne hc e
    · obtain ⟨cs', hcs⟩ := row_type hv e
      rw [hc] at hcs
      cases hcs
      exact ht rfl).trans hc
theorem own_del {w w' : World} {bm base size n : Nat} {u v : Value} {I : List PPh} {R : PRule} {wl : List Int} {e : TypeId} {xs : List Value} (ho : w.ownsRow base e size u n xs) (hk : KnM I R wl bm w) (hd : Frm w.heap.size (DelX bm v) w w') (hne : ∀ j, u.ownBlock = some j → v.ownBlock ≠ some j) : w'.ownsRow base e size u n xs :=
  own_keep ho fun k cs m hu hc _ => hd.2 k (Array.getElem?_eq_some_iff.1 hc).1 fun e => by
    rcases e with e | e
    · exact hk.ne hc e
    · exact hne k hu e
/-- the places behind some places, those alone from which something may follow -/
def nextL (I : List PPh) (R : PRule) (wl : List Int) (l : List Pl) (g : Int) : List Pl := l.flatMap fun p => if 0 < p.left then stepP I R wl p g else []
theorem nextL_take (I : List PPh) (R : PRule) (wl : List Int) {l : List Pl} (g : Int) {k : Nat} {p : Pl} {r : List Pl} (h : l.drop k = p :: r) : nextL I R wl (l.take (k + 1)) g = nextL I R wl (l.take k) g ++ if 0 < p.left then stepP I R wl p g else [] := by
  rw [drop_take1' h, nextL, nextL, List.flatMap_append]; simp
theorem nextL_len (I : List PPh) (R : PRule) (wl : List Int) (l : List Pl) (g : Int) : (nextL I R wl l g).length ≤ l.length * 2 :=
  flatMap_len fun p _ => by split; exact stepP_len _ _ _ _ _; simp
def srchT (I : List PPh) (R : PRule) (wl : List Int) (k : Nat) (word : List Int) (l : List Pl) (j : Nat) : List (List Int) :=
  match k with | 0 => [] | k' + 1 => srchK I R wl (srch I R wl k') word l j
def srchN (I : List PPh) (R : PRule) (wl : List Int) (k : Nat) (word : List Int) (N : List Pl) : List (List Int) :=
  match k with | 0 => [] | k' + 1 => srch I R wl k' word N
theorem srch_split (I : List PPh) (R : PRule) (wl : List Int) (k : Nat) (word : List Int) (l : List Pl) : srch I R wl k word l = (if l.any (doneP R wl) then [word] else []) ++ srchT I R wl k word l I.length := by
  cases k
  · rw [srch, srchT, List.append_nil]
  · rw [srch, srchT]
theorem nextS_eq {I : List PPh} {R : PRule} {wl : List Int} {k : Nat} {l : List Pl} (h : ∀ p ∈ l, p.left = k + 1) (g : Int) : nextS I R wl l g = (nextL I R wl l g).filter (canP I R wl) := by
  rw [nextS, nextL]
  congr 1
  exact flatMap_cong fun p hp => by rw [if_pos (by rw [h p hp]; omega)]
theorem srchT_succ {I : List PPh} {R : PRule} {wl : List Int} {k : Nat} {word : List Int} {l : List Pl} (h : ∀ p ∈ l, p.left = k) (j : Nat) :
    srchT I R wl k word l (j + 1) = srchT I R wl k word l j ++ if (nextL I R wl l ((j : Int) + 1)).filter (canP I R wl) = [] then [] else srchN I R wl k (word ++ [(j : Int) + 1]) ((nextL I R wl l ((j : Int) + 1)).filter (canP I R wl)) := by
  cases k with
  | zero => rw [srchT, srchT, srchN]; split <;> rfl
  | succ k => rw [srchT, srchT, srchK_succ, nextS_eq h]; rfl
theorem nextL_zero {I : List PPh} {R : PRule} {wl : List Int} {l : List Pl} (h : ∀ p ∈ l, p.left = 0) (g : Int) : nextL I R wl l g = [] := by
  rw [nextL, List.flatMap_eq_nil_iff]
  intro p hp
  rw [if_neg (by rw [h p hp]; omega)]
theorem srch_len (I : List PPh) (R : PRule) (wl : List Int) : ∀ (k : Nat) (word : List Int) (l : List Pl), (srch I R wl k word l).length ≤ cF I.length k
  | 0, word, l => by rw [srch, cF]; split <;> simp
  | k + 1, word, l => by
    rw [srch, cF, List.length_append, srchK]
    have := flat_len (l := List.range I.length) (f := fun (j : Nat) => if nextS I R wl l ((j : Int) + 1) = [] then [] else srch I R wl k (word ++ [(j : Int) + 1]) (nextS I R wl l ((j : Int) + 1))) (m := cF I.length k) fun j _ => by
      split
      · simp
      · exact srch_len I R wl k _ _
    rw [List.length_range] at this
    have h2 : (if l.any (doneP R wl) = true then [word] else []).length ≤ 1 := by split <;> simp
    omega
theorem srchT_len (I : List PPh) (R : PRule) (wl : List Int) (k : Nat) (word : List Int) (l : List Pl) (j : Nat) : (srchT I R wl (k + 1) word l j).length ≤ j * cF I.length k := by
  rw [srchT, srchK]
  have := flat_len (l := List.range j) (f := fun (j : Nat) => if nextS I R wl l ((j : Int) + 1) = [] then [] else srch I R wl k (word ++ [(j : Int) + 1]) (nextS I R wl l ((j : Int) + 1))) (m := cF I.length k) fun j _ => by
    split
    · simp
    · exact srch_len I R wl k _ _
  rwa [List.length_range] at this
end Go.Proofs.Ytdijlakeonionaa
