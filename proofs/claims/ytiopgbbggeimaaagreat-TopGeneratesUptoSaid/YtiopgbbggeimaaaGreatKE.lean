/-
  Rows of analyses that the call owns; what the search may change.
-/
import Derived.Test.YtiopgbbggeimaaaGreatKD
import Derived.Laws.IdiomCopy
namespace Go.Proofs.YtiopgbbggeimaaaGreat
open Go.ChangeShapes Go.WideShapes Go.ChangeAt Go.RowKit
def layA (cs : Array Value) : Nat → List Value → Array Value
  | _, [] => cs
  | o, v :: r => layA (cs.setIfInBounds o v) (o + 1) r
theorem layA_size : ∀ (vs : List Value) (cs : Array Value) (o : Nat), (layA cs o vs).size = cs.size
  | [], _, _ => rfl
  | v :: r, cs, o => by rw [layA, layA_size r]; simp
theorem layA_list : ∀ (vs : List Value) (cs : Array Value) (o : Nat), o + vs.length ≤ cs.size → (layA cs o vs).toList = cs.toList.take o ++ vs ++ cs.toList.drop (o + vs.length)
  | [], cs, o, _ => by simp [layA]
  | v :: r, cs, o, h => by
    simp only [List.length_cons] at h
    rw [layA, layA_list r _ _ (by simp; omega)]
    have e : (cs.setIfInBounds o v).toList = cs.toList.set o v := by simp
    rw [e]
    have ho : o < cs.toList.length := by simp; omega
    rw [List.set_eq_take_append_cons_drop, if_pos ho]
    have h1 : (cs.toList.take o ++ v :: cs.toList.drop (o + 1)).take (o + 1) = cs.toList.take o ++ [v] := by
      rw [List.take_append, List.length_take, Nat.min_eq_left (Nat.le_of_lt ho), List.take_take, Nat.min_eq_right (by omega)]
      simp [show o + 1 - o = 1 by omega]
    have h2 : (cs.toList.take o ++ v :: cs.toList.drop (o + 1)).drop (o + 1 + r.length) = cs.toList.drop (o + (r.length + 1)) := by
      rw [List.drop_append, List.length_take, Nat.min_eq_left (Nat.le_of_lt ho), List.drop_of_length_le (by simp; omega), show o + 1 + r.length - o = r.length + 1 by omega, List.drop_succ_cons, List.drop_drop, List.nil_append]
      congr 1; omega
    rw [h1, h2]
    simp
theorem set_block {w : World} {b : Nat} {cs : Array Value} {t : TypeId} {m : Nat × Nat} (h : w.heap[b]? = some (.cells cs t m)) (o : Nat) (v : Value) : (w.setCell ⟨b, o, none⟩ v).heap[b]? = some (.cells (cs.setIfInBounds o v) t m) := by
  simp [World.setCell, Array.getElem?_modify, h]
theorem setCells_block {b : Nat} {t : TypeId} {m : Nat × Nat} : ∀ (vs : List Value) (w : World) (cs : Array Value) (o : Nat), w.heap[b]? = some (.cells cs t m) → (w.setCells b o vs).heap[b]? = some (.cells (layA cs o vs) t m)
  | [], _, _, _, h => h
  | v :: r, _, _, o, h => setCells_block r _ _ _ (set_block h o v)
theorem setCell_grown (w : World) (b o : Nat) (v : Value) : w.grownBy (w.setCell ⟨b, o, none⟩ v) (some b) :=
  ⟨rfl, rfl, rfl, by simp [World.setCell], fun k _ hk => Below.heap_setCell _ _ _ k (fun e => hk (by rw [e]))⟩
theorem setCells_grown (b : Nat) : ∀ (vs : List Value) (w : World) (o : Nat), w.grownBy (w.setCells b o vs) (some b)
  | [], _, _ => World.grownBy.refl _ _
  | v :: r, w, o => grown_tr (setCell_grown w b o v) (setCells_grown b r _ _)
theorem row_lay {w : World} {base g n cap size : Nat} {e : TypeId} {xs : List Value} (h : w.ownsRow base e size (.slice (some ⟨g, 0, none⟩) n cap) n xs) (o : Nat) (vs : List Value) (ho : o + vs.length ≤ n * size) :
    (w.setCells g o vs).ownsRow base e size (.slice (some ⟨g, 0, none⟩) n cap) n (xs.take o ++ vs ++ xs.drop (o + vs.length)) := by
  obtain ⟨h0, h1 | ⟨g', cap', cur, he, hb, hg, h1, h2, h3, h4⟩⟩ := h
  · cases h1.1
  cases he
  have hsz : n * size ≤ cur.size := by rw [h3]; exact Nat.mul_le_mul_right _ h1
  refine ⟨?_, .inr ⟨g, cap, layA cur o vs, rfl, hb, setCells_block vs w cur o hg, h1, h2, by rw [layA_size, h3], ?_⟩⟩
  · rw [List.length_append, List.length_append, List.length_take, List.length_drop, h0]; omega
  · rw [layA_list vs cur o (by omega), ← h4]
    have hl : (cur.toList.take o ++ vs).length = o + vs.length := by rw [List.length_append, List.length_take]; simp; omega
    rw [List.take_append, hl, List.take_of_length_le (by rw [hl]; exact ho), List.take_take, Nat.min_eq_left (by omega), List.drop_take]
theorem row_cut {w : World} {base g n cap size : Nat} {e : TypeId} {xs : List Value} (h : w.ownsRow base e size (.slice (some ⟨g, 0, none⟩) n cap) n xs) {i : Nat} (hi : i ≤ n) : w.ownsRow base e size (.slice (some ⟨g, 0, none⟩) i cap) i (xs.take (i * size)) := by
  obtain ⟨h0, h1 | ⟨g', cap', cur, he, hb, hg, h1, h2, h3, h4⟩⟩ := h
  · cases h1.1
  cases he
  have hsz : i * size ≤ n * size := Nat.mul_le_mul_right _ hi
  refine ⟨by rw [List.length_take, h0]; omega, .inr ⟨g, cap, cur, rfl, hb, hg, by omega, h2, h3, ?_⟩⟩
  rw [← h4, List.take_take, Nat.min_eq_left hsz]
theorem boxed_below {W W' : World} {B : Nat} {t : TypeId} {v : Value} (h : Boxed W B t v) (hb : Below W.heap.size W W') : Boxed W' B t v := (hb.block B h.lt).trans h
/-- a row of parts, of the call's own -/
def OwnPt (w : World) (base : Nat) (v : Value) (l : List PPt) : Prop := w.ownsRow base 65 3 v l.length (l.flatMap ptCells)
theorem OwnPt.rd {w : World} {base : Nat} {v : Value} {l : List PPt} (h : OwnPt w base v l) : RdPt w v l := Rd.own h
theorem own_sliceP {w : World} {base : Nat} {v : Value} {l : List PPt} (h : OwnPt w base v l) : ∃ A c, v = .slice A l.length c := by
  rcases h.2 with ⟨rfl, h0⟩ | ⟨g, cap, cur, rfl, _⟩
  · exact ⟨none, 0, by rw [h0]⟩
  · exact ⟨_, _, rfl⟩
/-- what the search may change: rows of analyses, boxes of such, boxes of bools, maps -/
structure Gw (n0 : Nat) (w w' : World) : Prop where
  b : Below n0 w w'
  c : ∀ (k : Nat) (cs : Array Value) (t : TypeId) (m : Nat × Nat), w.heap[k]? = some (.cells cs t m) → t ≠ 39 → t ≠ 48 → t ≠ 4 → w'.heap[k]? = some (.cells cs t m)
/-- the same without maps -/
structure Gs (n0 : Nat) (w w' : World) : Prop extends Gw n0 w w' where
  mp : ∀ (k : Nat) (es : Array MapEntry) (cl : Nat), w.heap[k]? = some (.map es cl) → w'.heap[k]? = some (.map es cl)
section
variable {n0 : Nat} {w w1 w2 : World}
theorem Gw.refl (n0 : Nat) (w : World) : Gw n0 w w := ⟨Below.refl _ _, fun _ _ _ _ h _ _ _ => h⟩
theorem Gs.refl (n0 : Nat) (w : World) : Gs n0 w w := ⟨Gw.refl _ _, fun _ _ _ h => h⟩
theorem Gw.trans (h : Gw n0 w w1) (k : Gw n0 w1 w2) : Gw n0 w w2 := ⟨h.b.trans k.b, fun i cs t m h1 h2 h3 h4 => k.c i cs t m (h.c i cs t m h1 h2 h3 h4) h2 h3 h4⟩
theorem Gs.trans (h : Gs n0 w w1) (k : Gs n0 w1 w2) : Gs n0 w w2 := ⟨h.toGw.trans k.toGw, fun i es cl h1 => k.mp i es cl (h.mp i es cl h1)⟩
theorem Gs.of_below (h : Below w.heap.size w w1) (hn : n0 ≤ w.heap.size) : Gs n0 w w1 := ⟨⟨h.mono hn, fun k _ _ _ h1 _ _ _ => (h.block k (Array.getElem?_eq_some_iff.1 h1).1).trans h1⟩, fun k _ _ h1 => (h.block k (Array.getElem?_eq_some_iff.1 h1).1).trans h1⟩
theorem Gw.of_map {b : Nat} {es : Array MapEntry} {cl : Nat} (hb : w.heap[b]? = some (.map es cl)) (hn : n0 ≤ b) (hs : n0 ≤ w.heap.size) (h : w.grownBy w1 (some b)) : Gw n0 w w1 :=
  ⟨(Below.refl n0 w).grown h hs (fun k hk => by cases hk; exact hn), fun k cs t m h1 _ _ _ => (h.block k (Array.getElem?_eq_some_iff.1 h1).1 (fun e => by cases e; rw [hb] at h1; cases h1)).trans h1⟩
theorem Gs.of_set {B : Nat} {t : TypeId} {u : Value} (h : Boxed w B t u) (ht : t = 48 ∨ t = 4) (hn : n0 ≤ B) (v : Value) : Gs n0 w (w.setCell ⟨B, 0, none⟩ v) := by
  have hg : w.grownBy (w.setCell ⟨B, 0, none⟩ v) (some B) := ⟨rfl, rfl, rfl, by simp [World.setCell], fun k _ hk => Below.heap_setCell _ _ _ k (fun e => hk (by rw [e]))⟩
  refine ⟨⟨(Below.refl n0 w).grown hg (by have := h.lt; omega) (fun k hk => by cases hk; exact hn), fun k cs t2 m h1 h2 h3 h4 => (hg.block k (Array.getElem?_eq_some_iff.1 h1).1 (fun e => ?_)).trans h1⟩, fun k es cl h1 => (hg.block k (Array.getElem?_eq_some_iff.1 h1).1 (fun e => ?_)).trans h1⟩
  · cases e
    have h5 : w.heap[B]? = _ := h
    rw [h1] at h5
    cases h5
    rcases ht with ht | ht
    · exact h3 ht
    · exact h4 ht
  · cases e
    have h5 : w.heap[B]? = _ := h
    rw [h1] at h5
    cases h5
theorem Gs.of_row {base n : Nat} {u : Value} {xs : List Value} (h : w.ownsRow base 39 1 u n xs) (hn : n0 ≤ base) (hs : n0 ≤ w.heap.size) (hg : w.grownBy w1 u.ownBlock) : Gs n0 w w1 := by
  refine ⟨⟨(Below.refl n0 w).grown hg hs (fun k hk => Nat.le_trans hn (World.ownsRow.lt h k hk).1), fun k cs t m h1 h2 _ _ => (hg.block k (Array.getElem?_eq_some_iff.1 h1).1 (fun e => ?_)).trans h1⟩, fun k es cl h1 => (hg.block k (Array.getElem?_eq_some_iff.1 h1).1 (fun e => ?_)).trans h1⟩
  · obtain ⟨cs', hc⟩ := row_type h e.symm
    rw [h1] at hc
    cases hc
    exact h2 rfl
  · obtain ⟨cs', hc⟩ := row_type h e.symm
    rw [h1] at hc
    cases hc
theorem Gw.size (h : Gw n0 w w1) : w.heap.size ≤ w1.heap.size := h.b.size
theorem Gw.ownPt (g : Gw n0 w w1) {base : Nat} {v : Value} {l : List PPt} (h : OwnPt w base v l) : OwnPt w1 base v l := own_keepQ h fun k cs m _ hk _ => (g.c k cs _ m hk (by decide) (by decide) (by decide)).trans hk.symm
theorem Gw.ownI (g : Gw n0 w w1) {base : Nat} {v : Value} {l : List Int} (h : OwnI w base v l) : OwnI w1 base v l := own_keepQ h fun k cs m _ hk _ => (g.c k cs _ m hk (by decide) (by decide) (by decide)).trans hk.symm
theorem Gw.ownW (g : Gw n0 w w1) {base n : Nat} {v : Value} {xs : List Value} (h : w.ownsRow base 31 1 v n xs) : w1.ownsRow base 31 1 v n xs := own_keepQ h fun k cs m _ hk _ => (g.c k cs _ m hk (by decide) (by decide) (by decide)).trans hk.symm
theorem Gw.lg (g : Gw n0 w w1) {B : Nat} {x : GV} (h : LgBlk w B x) : LgBlk w1 B x := g.c B _ _ _ h (by decide) (by decide) (by decide)
theorem Gw.eb (g : Gw n0 w w1) {B : Nat} {x : EV} (h : EBlk w B x) : EBlk w1 B x := g.c B _ _ _ h (by decide) (by decide) (by decide)
theorem Gw.sr (g : Gw n0 w w1) {B : Nat} {x : Sch} (h : SrBlk w B x) : SrBlk w1 B x := g.c B _ _ _ h (by decide) (by decide) (by decide)
theorem Gw.fb (g : Gw n0 w w1) {B : Nat} {v : Value} (h : Boxed w B 120 v) : Boxed w1 B 120 v := g.c B _ _ _ h (by decide) (by decide) (by decide)
theorem Gs.trm (g : Gs n0 w w1) {G : PLang} {wl : List Int} {bm : Nat} (h : TrM G wl bm w) : TrM G wl bm w1 := by
  obtain ⟨f, h1, h2⟩ := h
  obtain ⟨es, cl, h3⟩ := h1.block
  exact ⟨f, h1.same ((g.mp bm es cl h3).trans h3.symm), h2⟩
end
/-! lists of analyses that the call owns -/
def OwnAs (w : World) (base : Nat) (v : Value) (Ls : List (List PPt)) : Prop := ∃ us : List Value, w.ownsRow base 39 1 v us.length us ∧ us.length = Ls.length ∧ ∀ x ∈ us.zip Ls, OwnPt w base x.1 x.2
theorem OwnAs.nil (w : World) (base : Nat) : OwnAs w base (.slice none 0 0) [] := ⟨[], World.ownsRow_nil _ _ _ _, rfl, fun x h => by simp at h⟩
theorem OwnAs.below {w w' : World} {base : Nat} {v : Value} {Ls : List (List PPt)} (h : OwnAs w base v Ls) (hb : Below w.heap.size w w') : OwnAs w' base v Ls := by
  obtain ⟨us, h1, h2, h3⟩ := h
  exact ⟨us, own_below h1 hb, h2, fun x hx => own_below (h3 x hx) hb⟩
theorem OwnAs.rd {w : World} {base : Nat} {v : Value} {Ls : List (List PPt)} (h : OwnAs w base v Ls) : RdAs w v Ls := by
  obtain ⟨us, h1, h2, h3⟩ := h
  refine ⟨us, by rw [← h2]; exact Rd.own h1, h2, fun i u l hu hl => (h3 (u, l) ?_).rd⟩
  refine List.mem_of_getElem? (i := i) ?_
  rw [List.getElem?_zip_eq_some]
  exact ⟨hu, hl⟩
theorem OwnAs.slice {w : World} {base : Nat} {v : Value} {Ls : List (List PPt)} (h : OwnAs w base v Ls) : ∃ A c, v = .slice A Ls.length c := by
  obtain ⟨us, h1, h2, _⟩ := h
  rcases h1.2 with ⟨rfl, h0⟩ | ⟨g, cap, cur, rfl, _⟩
  · exact ⟨none, 0, by rw [← h2, h0]⟩
  · exact ⟨_, _, by rw [h2]⟩
theorem infoAn : (Tryz.prog.info? 39).map (fun i => (i.zero, i.size, i.bytes)) = some (some (.agg #[.slice none 0 0]), 1, 24) := by kernel_rfl
theorem wpList_app_an {ops : Array Oper} {rest : List Oper} {o : Oper} {a : Act} {Q : Exit → Act → World → Prop} {w : World} (hgd : o.guard = none) (s x : Operand)
    (ho : o.op = .call { callee := .builtin .append, args := #[s, x], argTypes := #[48, 48] })
    (base : Nat) (v : Value) (us : List Value) (m : Nat) (hs : a.eval s = v) (hown : w.ownsRow base 39 1 v us.length us) (hm : Hid (us.length = m)) (hl : m ≤ 1000000) (hbase : base ≤ w.heap.size)
    (hx : a.eval x = .slice (some ⟨w.heap.size, 0, none⟩) 1 1)
    (h : ∀ g' cap w', w'.ownsRow base 39 1 (.slice (some ⟨g', 0, none⟩) (m + 1) cap) (m + 1) (us ++ [.slice none 0 0]) → base ≤ g' → w.grownBy w' v.ownBlock → (some g' = v.ownBlock ∨ w.heap.size ≤ g') → wpList Tryz.prog ops Q rest (a.put o.dst (.slice (some ⟨g', 0, none⟩) (m + 1) cap)) w') :
    wpList Tryz.prog ops Q (o :: rest) a (w.alloc (.cells #[.slice none 0 0] 39)) := by
  obtain rfl := hm.out
  obtain ⟨i0, hi, hz0, hz1, hz2⟩ := info_parts infoAn
  refine wpList_append_own_at _ hgd s x 48 ho base 39 i0 _ 1 24 Tryz.underlying48 hi hz0 hz1 hz2 rfl (by decide) v us.length us hs (World.ownsRow.alloc hown _) ⟨w.heap.size, 0, none⟩ 1 1
    [.slice none 0 0] hx rfl ?_ ?_ (by simp only [maxLen]; omega) (by omega) (by simp; omega) ?_
  · intro j u hu
    match j, hu with
    | 0, hu => simp at hu; subst hu; simp [go_sem, Addr.add]
  · intro u hu
    simp at hu
    subst hu
    rfl
  · intro v' w' h1 h2 _ h4
    obtain ⟨g', cap, rfl, hg1, hg2⟩ := h1.form (by omega)
    refine h g' cap w' h1 hg1 ⟨h2.os, h2.tape, h2.output, Nat.le_trans (by simp) h2.size, fun k hk hne => (h2.block k (by simp; omega) hne).trans (Below.heap_alloc w _ k hk)⟩ ?_
    rcases h4 with h4 | h4
    · exact .inl h4
    · right
      simp [Value.ownBlock] at h4
      omega
end Go.Proofs.YtiopgbbggeimaaaGreat
