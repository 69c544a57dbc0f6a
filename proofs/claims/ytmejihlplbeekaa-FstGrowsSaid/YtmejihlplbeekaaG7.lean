/-
  The finder of fst: lists that were found; what a walk may change.
-/
import Derived.Test.YtmejihlplbeekaaG6
namespace Go.Proofs.Ytmejihlplbeekaa
open Go.ChangeShapes Go.WideShapes Go.ChangeAt Go.RowKit
theorem infoL0 : (Try.prog.info? 23).map (fun i => (i.zero, i.size, i.bytes)) = some (some (.slice none 0 0), 1, 24) := by kernel_rfl
theorem own_slice {w : World} {base : Nat} {v : Value} {l : List Int} (h : OwnI w base v l) : v.oneCell' = true ∧ ∃ A c, v = .slice A l.length c := by
  rcases h.2 with ⟨rfl, h0⟩ | ⟨g, cap, cur, rfl, _⟩
  · exact ⟨rfl, none, 0, by rw [h0]⟩
  · exact ⟨rfl, _, _, rfl⟩
/-- a row of slices, each a row of the call's own -/
def OwnL (w : World) (base : Nat) (v : Value) (Ls : List (List Int)) : Prop :=
  ∃ us : List Value, w.ownsRow base 23 1 v Ls.length us ∧ us.length = Ls.length ∧ ∀ (i : Nat) (u : Value) (l : List Int), us[i]? = some u → Ls[i]? = some l → OwnI w base u l
theorem OwnL.nil (w : World) (base : Nat) : OwnL w base (.slice none 0 0) [] := ⟨[], World.ownsRow_nil _ _ _ _, rfl, fun i u l h => by simp at h⟩
theorem OwnL.below {w w' : World} {base : Nat} {v : Value} {Ls : List (List Int)} (h : OwnL w base v Ls) (hb : Below w.heap.size w w') : OwnL w' base v Ls := by
  obtain ⟨us, h1, h2, h3⟩ := h
  exact ⟨us, own_below h1 hb, h2, fun i u l hu hl => own_below (h3 i u l hu hl) hb⟩
theorem own_keep {w w' : World} {base size n : Nat} {e : TypeId} {v : Value} {xs : List Value} (h : w.ownsRow base e size v n xs) (hk : ∀ k cs m, v.ownBlock = some k → w.heap[k]? = some (.cells cs e m) → base ≤ k → w'.heap[k]? = w.heap[k]?) : w'.ownsRow base e size v n xs := by
  refine ⟨h.1, ?_⟩
  rcases h.2 with hn | ⟨g, cap, cur, rfl, hb2, hg, rest⟩
  · exact .inl hn
  · exact .inr ⟨g, cap, cur, rfl, hb2, (hk g _ _ rfl hg hb2).trans hg, rest⟩
theorem OwnL.keep {w w' : World} {base : Nat} {v : Value} {Ls : List (List Int)} (h : OwnL w base v Ls) (hk : ∀ k cs t m, w.heap[k]? = some (.cells cs t m) → (t = 23 ∨ t = 3) → base ≤ k → w'.heap[k]? = w.heap[k]?) : OwnL w' base v Ls := by
  obtain ⟨us, h1, h2, h3⟩ := h
  exact ⟨us, own_keep h1 fun k cs m _ h hb => hk k cs _ m h (.inl rfl) hb, h2, fun i u l hu hl => own_keep (h3 i u l hu hl) fun k cs m _ h hb => hk k cs _ m h (.inr rfl) hb⟩
theorem ownI_grownL {w w' : World} {base b2 size n : Nat} {e : TypeId} {u v : Value} {l : List Int} {us : List Value} (ho : OwnI w base u l) (hv : w.ownsRow b2 e size v n us) (he : 3 ≠ e) (hg : w.grownBy w' v.ownBlock) : OwnI w' base u l := by
  refine World.ownsRow.kept ho hg ?_
  rcases ho.2 with ⟨rfl, _⟩ | ⟨g, cap, cur, rfl, _, hh, _⟩
  · exact .inl rfl
  · refine .inr fun e' => ?_
    obtain ⟨cs, hcs⟩ := row_type hv e'.symm
    rw [hh] at hcs
    cases hcs
    exact he rfl
theorem wpList_app_word {ops : Array Oper} {rest : List Oper} {o : Oper} {a : Act} {Q : Exit → Act → World → Prop} {w : World} (hgd : o.guard = none) (s x : Operand)
    (ho : o.op = .call { callee := .builtin .append, args := #[s, x], argTypes := #[33, 33] })
    (base : Nat) (v : Value) (Ls : List (List Int)) (hs : a.eval s = v) (hown : OwnL w base v Ls) (vc : Value) (l : List Int) (hvc : OwnI w base vc l) (m : Nat) (hm : Hid (Ls.length = m)) (hl : m ≤ 1000000) (hbase : base ≤ w.heap.size)
    (hx : a.eval x = .slice (some ⟨w.heap.size, 0, none⟩) 1 1)
    (h : ∀ g' cap w', OwnL w' base (.slice (some ⟨g', 0, none⟩) (m + 1) cap) (Ls ++ [l]) → w.grownBy w' v.ownBlock → wpList Try.prog ops Q rest (a.put o.dst (.slice (some ⟨g', 0, none⟩) (m + 1) cap)) w') :
    wpList Try.prog ops Q (o :: rest) a (w.alloc (.cells #[vc] 23)) := by
  obtain rfl := hm.out
  obtain ⟨us, hu1, hu2, hu3⟩ := hown
  obtain ⟨i0, hi, hz0, hz1, hz2⟩ := info_parts infoL0
  refine wpList_append_own _ hgd s x 33 ho base 23 i0 _ 1 24 Try.underlying33 hi hz0 hz1 hz2 rfl (by decide) v Ls.length us hs (World.ownsRow.alloc hu1 _) ⟨w.heap.size, 0, none⟩ 1 1
    [vc] hx rfl ?_ ?_ (by simp only [maxLen]; omega) (by omega) (by simp; omega) ?_
  · intro j u hu
    match j, hu with
    | 0, hu => simp at hu; subst hu; simp [go_sem, Addr.add]
  · intro u hu
    simp at hu
    subst hu
    exact (own_slice hvc).1
  · intro v' w' h1 h2 _
    obtain ⟨g', cap, rfl, hg1, hg2⟩ := h1.form (by omega)
    have hg : w.grownBy w' v.ownBlock := ⟨h2.os, h2.tape, h2.output, Nat.le_trans (by simp) h2.size, fun k hk hne => (h2.block k (by simp; omega) hne).trans (Below.heap_alloc w _ k hk)⟩
    refine h g' cap w' ⟨us ++ [vc], by simpa using h1, by simp [hu2], fun i u l' hu hl' => ?_⟩ hg
    by_cases hil : i < us.length
    · rw [List.getElem?_append_left hil] at hu
      rw [List.getElem?_append_left (by omega)] at hl'
      exact ownI_grownL (hu3 i u l' hu hl') hu1 (by decide) hg
    · have hi0 : i = us.length := by
        have := (List.getElem?_eq_some_iff.1 hu).1
        simp at this
        omega
      subst hi0
      rw [List.getElem?_append_right (Nat.le_refl _)] at hu
      rw [hu2, List.getElem?_append_right (Nat.le_refl _)] at hl'
      simp at hu hl'
      subst hu
      subst hl'
      exact ownI_grownL hvc hu1 (by decide) hg
theorem OwnL.row {w : World} {base : Nat} {v : Value} {Ls : List (List Int)} (h : OwnL w base v Ls) : ∃ us, w.ownsRow base 23 1 v Ls.length us := by
  obtain ⟨us, h1, _⟩ := h
  exact ⟨us, h1⟩
/-- what a walk may change: the finder's block, one map, the rows of lists -/
def FrW (n B : Nat) (b : Nat → Prop) (w w' : World) : Prop := Below 0 w w' ∧ ∀ k, k < n → k ≠ B → ¬ b k → (∀ cs m, w.heap[k]? = some (.cells cs 23 m) → k < B) → w'.heap[k]? = w.heap[k]?
section
variable {n B : Nat} {b : Nat → Prop} {w w1 w2 : World}
theorem FrW.refl (n B : Nat) (b : Nat → Prop) (w : World) : FrW n B b w w := ⟨Below.refl _ _, fun _ _ _ _ _ => rfl⟩
theorem FrW.trans (h : FrW n B b w w1) (k : FrW n B b w1 w2) : FrW n B b w w2 := ⟨h.1.trans k.1, fun j h1 h2 h3 h4 => by
  have e := h.2 j h1 h2 h3 h4
  exact (k.2 j h1 h2 h3 (fun cs m hc => h4 cs m (by rw [← e]; exact hc))).trans e⟩
theorem FrW.size (h : FrW n B b w w1) : w.heap.size ≤ w1.heap.size := h.1.size
theorem FrW.of_frm (h : Frm n b w w1) : FrW n B b w w1 := ⟨h.1, fun k h1 _ h3 _ => h.2 k h1 h3⟩
theorem FrW.of_below (h : Below n w w1) : FrW n B b w w1 := ⟨h.mono (Nat.zero_le _), fun k h1 _ _ _ => h.block k h1⟩
theorem FrW.drewN' (h : FrW n B b w w1) (k : Nat) : FrW n B b w (w1.drewN k) := ⟨below_drewN h.1 k, h.2⟩
theorem FrW.set7 {p : Addr} {u : Value} (hp : p.block = B) (h : FrW n B b w w1) : FrW n B b w (w1.setCell p u) := by
  refine ⟨h.1.setCell (Nat.zero_le _) u, fun k h1 h2 h3 h4 => ?_⟩
  rw [← h.2 k h1 h2 h3 h4]
  exact Below.heap_setCell w1 p u k (fun e => h2 (by rw [e, hp]))
theorem FrW.grownL (h : FrW n B b w w1) {v : Value} {m : Nat} {us : List Value} (ho : w1.ownsRow B 23 1 v m us) (hg : w1.grownBy w2 v.ownBlock) (hn : n ≤ w1.heap.size) : FrW n B b w w2 := by
  refine ⟨h.1.grown hg (Nat.zero_le _) (fun j _ => Nat.zero_le j), fun k h1 h2 h3 h4 => ?_⟩
  have e := h.2 k h1 h2 h3 h4
  rw [← e]
  refine hg.block k (by omega) fun he => ?_
  obtain ⟨cs, hc⟩ := row_type ho he.symm
  have hB := (World.ownsRow.lt ho k he.symm).1
  have := h4 cs (0, 0) (by rw [← e]; exact hc)
  omega
theorem FrW.inner {b2 : Nat → Prop} (h : FrW n B b w w1) (k : FrW w1.heap.size B b2 w1 w2) (hn : n ≤ w1.heap.size) (hb : ∀ j, j < n → b2 j → b j) : FrW n B b w w2 :=
  h.trans ⟨k.1, fun j h1 h2 h3 h4 => k.2 j (by omega) h2 (fun h => h3 (hb j h1 h)) h4⟩
/-- what lies below the finder stays -/
theorem FrW.below (h : FrW n B b w w1) (hn : B ≤ n) (hb : ∀ k, k < B → ¬ b k) : Below B w w1 :=
  ⟨h.1.os, h.1.tape, h.1.output, h.1.size, fun k hk => h.2 k (by omega) (by omega) (hb k hk) (fun _ _ _ => hk)⟩
theorem FrW.map {P : Program} {α β : Type} {S : MS P α β} {L : List α} {f : α → Option β} {g : Nat} (h : FrW n B b w w1) (hm : OwnM S w g L f) (hg : g < n) (hB : g ≠ B) (hb : ¬ b g) : OwnM S w1 g L f :=
  hm.same (h.2 g hg hB hb (fun _ _ hc => absurd rfl (hm.ne hc)))
theorem FrW.ownI {base : Nat} {v : Value} {l : List Int} (h : FrW n B b w w1) (ho : OwnI w base v l) (hn : w.heap.size ≤ n) (hB : ∀ cs t m, w.heap[B]? = some (.cells cs t m) → t ≠ 3) (hb : ∀ k, b k → ∀ cs t m, w.heap[k]? ≠ some (.cells cs t m)) : OwnI w1 base v l :=
  own_keep ho fun k cs m _ hk _ => h.2 k (by have := (Array.getElem?_eq_some_iff.1 hk).1; omega) (fun e => hB cs _ m (by rw [← e]; exact hk) rfl) (fun hbk => hb k hbk cs _ m hk) (fun cs' m' hc => by rw [hk] at hc; cases hc)
end
/-- the outcome of a walk -/
def WPost (B S g : Nat) (va vf vin lv : Value) (m : Int) (M : Nat) (Fs E : List (List Int)) (e : Ending) (w' : World) : Prop :=
  (Fs.length + E.length ≤ M ∧ e = .returned (.bool true) ∧ ∃ fv', FinB w' B S va vf g vin lv m fv' ∧ OwnL w' B fv' (Fs ++ E)) ∨ (M < Fs.length + E.length ∧ e = .returned (.bool false))
/-- what a walk of at most k further elements does -/
def WalkC (w₀ : World) (B S g bl : Nat) (va vf vin : Value) (m : Int) (M : Nat) (F : PFst) (xs : List Int) (lf : Plc → Option Int) (k : Nat) : Prop :=
  ∀ (w : World) (bN : Nat) (vl fv : Value) (l : List Int) (Fs : List (List Int)) (N : Plc → Bool), Below B w₀ w → FinB w B S va vf g vin (.map (some bl)) m fv → OwnM MI w bl (boxP S xs.length) lf → B < bl → bl ≠ bN → OwnM MB w bN (boxP S xs.length) (setF N) → BoxP F xs N → B < bN →
    OwnI w B vl l → l.length + k ≤ 1000 → OwnL w B fv Fs → Fs.length ≤ M →
    Calls Try.prog 41 #[.pointer (some ⟨B, 0, none⟩), vl, .map (some bN), .int .i64 (k : Int)] w fun e w' => WPost B S g va vf vin (.map (some bl)) m M Fs ((enumW (symsX F.arcs) k (AccS F xs N)).map (l ++ ·)) e w' ∧ FrW w.heap.size B (fun j => j = bN) w w'
theorem wp_app_int1 {w : World} {o : Oper} {a : Act} {K : Act → World → Prop} {Q : Exit → Act → World → Prop} (s x : Operand)
    (ho : o.op = .call { callee := .builtin .append, args := #[s, x], argTypes := #[23, 23] })
    (base : Nat) (v : Value) (l : List Int) (hs : a.eval s = v) (hown : OwnI w base v l) (x0 : Int) (hl : l.length ≤ 1000000) (hbase : base ≤ w.heap.size)
    (hx : a.eval x = .slice (some ⟨w.heap.size, 0, none⟩) 1 1)
    (h : ∀ g' cap w', OwnI w' base (.slice (some ⟨g', 0, none⟩) (l.length + 1) cap) (l ++ [x0]) → w.grownBy w' v.ownBlock → K (a.put o.dst (.slice (some ⟨g', 0, none⟩) (l.length + 1) cap)) w') :
    o.wp Try.prog a (w.alloc (.cells #[.int .i64 x0] 3)) K Q := by
  obtain ⟨i0, hi, hz0, hz1, hz2⟩ := info_parts infoI0
  refine wp_append_own _ s x 23 ho base 3 i0 _ 1 8 Try.underlying23 hi hz0 hz1 hz2 rfl (by decide) v l.length (l.map (Value.int .i64)) hs (World.ownsRow.alloc hown _) ⟨w.heap.size, 0, none⟩ 1 1
    [.int .i64 x0] hx rfl ?_ ?_ (by simp only [maxLen]; omega) (by omega) (by simp; omega) ?_
  · intro j u hu
    match j, hu with
    | 0, hu => simp at hu; subst hu; simp [go_sem, Addr.add]
  · intro u hu
    simp at hu
    subst hu
    rfl
  · intro v' w' h1 h2 _
    obtain ⟨g', cap, rfl, hg1, hg2⟩ := h1.form (by omega)
    refine h g' cap w' ?_ ?_
    · unfold OwnI
      rw [List.map_append, List.length_append]
      exact h1
    · exact ⟨h2.os, h2.tape, h2.output, Nat.le_trans (by simp) h2.size, fun k hk hne => (h2.block k (by simp; omega) hne).trans (Below.heap_alloc w _ k hk)⟩
theorem wpList_app_intG {w : World} {ops : Array Oper} {rest : List Oper} {o : Oper} {a : Act} {Q : Exit → Act → World → Prop} (hw : Region.wanted o (yielded ops a.tmps) = true) (s x : Operand)
    (ho : o.op = .call { callee := .builtin .append, args := #[s, x], argTypes := #[23, 23] })
    (base : Nat) (v : Value) (l : List Int) (hs : a.eval s = v) (hown : OwnI w base v l) (x0 : Int) (hl : l.length ≤ 1000000) (hbase : base ≤ w.heap.size)
    (hx : a.eval x = .slice (some ⟨w.heap.size, 0, none⟩) 1 1)
    (h : ∀ g' cap w', OwnI w' base (.slice (some ⟨g', 0, none⟩) (l.length + 1) cap) (l ++ [x0]) → w.grownBy w' v.ownBlock → wpList Try.prog ops Q rest (a.put o.dst (.slice (some ⟨g', 0, none⟩) (l.length + 1) cap)) w') :
    wpList Try.prog ops Q (o :: rest) a (w.alloc (.cells #[.int .i64 x0] 3)) :=
  BigFrame.wpList_want hw fun _ hK => wp_app_int1 s x ho base v l hs hown x0 hl hbase hx fun g' cap w' h1 h2 => hK _ _ (h g' cap w' h1 h2)
/-- after an append onto the list of found lists the finder's block is as it was -/
theorem FinB.app {w w' : World} {B S g : Nat} {va vf vin lv fv v : Value} {m : Int} {Ls : List (List Int)} (h : FinB w B S va vf g vin lv m fv) (hv : OwnL w B v Ls) (hg : w.grownBy w' v.ownBlock) : FinB w' B S va vf g vin lv m fv := by
  obtain ⟨us, hu⟩ := hv.row
  refine h.same (hg.block B h.lt fun e => ?_)
  obtain ⟨cs, hc⟩ := row_type hu e.symm
  unfold FinB at h
  rw [h] at hc
  cases hc
theorem FinB.facts7 {w : World} {B S g : Nat} {va vf vin lv fv : Value} {m : Int} (h : FinB w B S va vf g vin lv m fv) : w.cell? ⟨B, 7, none⟩ = some fv ∧ w.frozen? ⟨B, 7, none⟩ = false ∧ B < w.heap.size := ⟨h.cells.2.2.2.2.2.2.2, h.free 7, h.lt⟩
/-- what stays when a list is appended and the finder's field is set -/
theorem set7_same {w w' : World} {B : Nat} {v u : Value} {Ls : List (List Int)} (hv : OwnL w B v Ls) (hg : w.grownBy w' v.ownBlock) {k : Nat} (hk : k < w.heap.size) (hB : k ≠ B) (ht : ∀ cs m, w.heap[k]? ≠ some (.cells cs 23 m)) : (w'.setCell ⟨B, 7, none⟩ u).heap[k]? = w.heap[k]? := by
  obtain ⟨us, hu⟩ := hv.row
  refine (Below.heap_setCell w' ⟨B, 7, none⟩ u k hB).trans (hg.block k hk fun e => ?_)
  obtain ⟨cs, hc⟩ := row_type hu e.symm
  exact ht cs _ hc
theorem fin_type {w : World} {B S g : Nat} {va vf vin lv fv : Value} {m : Int} (h : FinB w B S va vf g vin lv m fv) {k : Nat} {cs : Array Value} {t : TypeId} {mm : Nat × Nat} (hk : w.heap[k]? = some (.cells cs t mm)) (ht : t = 23 ∨ t = 3) : k ≠ B := by
  rintro rfl
  unfold FinB at h
  rw [h] at hk
  cases hk
  rcases ht with h | h <;> exact absurd h (by decide)
/-- the lists that the loop over the symbols finds, up to symbol j -/
noncomputable def partW (F : PFst) (xs : List Int) (V : Plc → Bool) (Sy : List Int) (l : List Int) (k j : Nat) : List (List Int) := match k with
  | 0 => []
  | k' + 1 => (Sy.take j).flatMap fun x => (enumW (symsX F.arcs) k' (fun w => AccS F xs V (x :: w))).map ((l ++ [x]) ++ ·)
theorem partW_zero (F : PFst) (xs : List Int) (V : Plc → Bool) (Sy : List Int) (l : List Int) (k : Nat) : partW F xs V Sy l k 0 = [] := by cases k <;> simp [partW]
theorem partW_succ (F : PFst) (xs : List Int) (V : Plc → Bool) {Sy : List Int} (l : List Int) (k j : Nat) {x : Int} {r : List Int} (h : Sy.drop j = x :: r) : partW F xs V Sy l (k + 1) (j + 1) = partW F xs V Sy l (k + 1) j ++ (enumW (symsX F.arcs) k (fun w => AccS F xs V (x :: w))).map ((l ++ [x]) ++ ·) := by
  simp only [partW]
  rw [take_of_drop h, List.flatMap_append]
  simp
theorem partW_le (F : PFst) (xs : List Int) (V : Plc → Bool) (Sy : List Int) (l : List Int) (k j : Nat) : (partW F xs V Sy l k j).length ≤ (partW F xs V Sy l k Sy.length).length := by
  cases k with
  | zero => simp [partW]
  | succ k =>
    simp only [partW, List.take_length]
    generalize (fun x => (enumW (symsX F.arcs) k (fun w => AccS F xs V (x :: w))).map ((l ++ [x]) ++ ·)) = f
    have h := congrArg (fun t => (t.flatMap f).length) (List.take_append_drop j Sy)
    simp only [List.flatMap_append, List.length_append] at h
    omega
theorem partW_whole {F : PFst} {xs : List Int} (hF : GoodA F) {N V : Plc → Bool} (hS : SpreadP F xs N V) {Sy : List Int} (hY : Sy.Pairwise (· < ·)) (hM : ∀ x, x ∈ Sy ↔ SymsP F xs V x) (l : List Int) (k : Nat) :
    (enumW (symsX F.arcs) k (AccS F xs N)).map (l ++ ·) = (enumW (symsX F.arcs) 0 (AccS F xs V)).map (l ++ ·) ++ partW F xs V Sy l k Sy.length := by
  rw [enumW_congr (fun w => (hS.acc w).symm)]
  cases k with
  | zero => simp [partW]
  | succ k =>
    rw [enumW_succ hF hS.2.1 hS.2.2.1 Sy hY hM]
    simp only [partW, List.take_length]
end Go.Proofs.Ytmejihlplbeekaa
