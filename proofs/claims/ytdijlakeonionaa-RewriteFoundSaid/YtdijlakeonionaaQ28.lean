/-
  Rows that are written in place; the closure that search hands to slices.DeleteFunc, and slices.DeleteFunc at places.
-/
import Derived.Test.YtdijlakeonionaaQ27
import Derived.Laws.IdiomCopy
namespace Go.Proofs.Ytdijlakeonionaa
open Go.ChangeShapes Go.WideShapes Go.ChangeAt Go.RowKit
def layA (cs : Array Value) : Nat → List Value → Array Value
  | _, [] => cs
  | o, v :: r => layA (cs.setIfInBounds o v) (o + 1) r
theorem layA_size : ∀ (vs : List Value) (cs : Array Value) (o : Nat), (layA cs o vs).size = cs.size
  | [], _, _ => rfl
  | v :: r, cs, o => by rw [layA, layA_size r]; simp
theorem layA_list : ∀ (vs : List Value) (cs : Array Value) (o : Nat), o + vs.length ≤ cs.size → (layA cs o vs).toList = cs.toList.take o ++ vs ++ cs.toList.drop (o + vs.length)
  | [], cs, o, _ => by simp [layA]
  | v :: r, cs, o, h => by
    simp only [List.length_cons] at h
    rw [layA, layA_list r _ _ (by simp; omega)]
    have e : (cs.setIfInBounds o v).toList = cs.toList.set o v := by simp
    rw [e]
    have ho : o < cs.toList.length := by simp; omega
    rw [List.set_eq_take_append_cons_drop, if_pos ho]
    have h1 : (cs.toList.take o ++ v :: cs.toList.drop (o + 1)).take (o + 1) = cs.toList.take o ++ [v] := by
      rw [List.take_append, List.length_take, Nat.min_eq_left (Nat.le_of_lt ho), List.take_take, Nat.min_eq_right (by omega)]
      simp [show o + 1 - o = 1 by omega]
    have h2 : (cs.toList.take o ++ v :: cs.toList.drop (o + 1)).drop (o + 1 + r.length) = cs.toList.drop (o + (r.length + 1)) := by
      rw [List.drop_append, List.length_take, Nat.min_eq_left (Nat.le_of_lt ho), List.drop_of_length_le (by simp; omega), show o + 1 + r.length - o = r.length + 1 by omega, List.drop_succ_cons, List.drop_drop, List.nil_append]
      congr 1; omega
    rw [h1, h2]
    simp
theorem set_block {w : World} {b : Nat} {cs : Array Value} {t : TypeId} {m : Nat × Nat} (h : w.heap[b]? = some (.cells cs t m)) (o : Nat) (v : Value) : (w.setCell ⟨b, o, none⟩ v).heap[b]? = some (.cells (cs.setIfInBounds o v) t m) := by
  simp [World.setCell, Array.getElem?_modify, h]
theorem setCells_block {b : Nat} {t : TypeId} {m : Nat × Nat} : ∀ (vs : List Value) (w : World) (cs : Array Value) (o : Nat), w.heap[b]? = some (.cells cs t m) → (w.setCells b o vs).heap[b]? = some (.cells (layA cs o vs) t m)
  | [], _, _, _, h => h
  | v :: r, _, _, o, h => setCells_block r _ _ _ (set_block h o v)
theorem setCell_grown (w : World) (b o : Nat) (v : Value) : w.grownBy (w.setCell ⟨b, o, none⟩ v) (some b) :=
  ⟨rfl, rfl, rfl, by simp [World.setCell], fun k _ hk => Below.heap_setCell _ _ _ k (fun e => hk (by rw [e]))⟩
theorem setCells_grown (b : Nat) : ∀ (vs : List Value) (w : World) (o : Nat), w.grownBy (w.setCells b o vs) (some b)
  | [], _, _ => World.grownBy.refl _ _
  | v :: r, w, o => grown_tr (setCell_grown w b o v) (setCells_grown b r _ _)
theorem row_lay {w : World} {base g n cap size : Nat} {e : TypeId} {xs : List Value} (h : w.ownsRow base e size (.slice (some ⟨g, 0, none⟩) n cap) n xs) (o : Nat) (vs : List Value) (ho : o + vs.length ≤ n * size) :
    (w.setCells g o vs).ownsRow base e size (.slice (some ⟨g, 0, none⟩) n cap) n (xs.take o ++ vs ++ xs.drop (o + vs.length)) := by
  obtain ⟨h0, h1 | ⟨g', cap', cur, he, hb, hg, h1, h2, h3, h4⟩⟩ := h
  · cases h1.1
  cases he
  have hsz : n * size ≤ cur.size := by rw [h3]; exact Nat.mul_le_mul_right _ h1
  refine ⟨?_, .inr ⟨g, cap, layA cur o vs, rfl, hb, setCells_block vs w cur o hg, h1, h2, by rw [layA_size, h3], ?_⟩⟩
  · rw [List.length_append, List.length_append, List.length_take, List.length_drop, h0]; omega
  · rw [layA_list vs cur o (by omega), ← h4]
    have hl : (cur.toList.take o ++ vs).length = o + vs.length := by rw [List.length_append, List.length_take]; simp; omega
    rw [List.take_append, hl, List.take_of_length_le (by rw [hl]; exact ho), List.take_take, Nat.min_eq_left (by omega), List.drop_take]
theorem row_cut {w : World} {base g n cap size : Nat} {e : TypeId} {xs : List Value} (h : w.ownsRow base e size (.slice (some ⟨g, 0, none⟩) n cap) n xs) {i : Nat} (hi : i ≤ n) : w.ownsRow base e size (.slice (some ⟨g, 0, none⟩) i cap) i (xs.take (i * size)) := by
  obtain ⟨h0, h1 | ⟨g', cap', cur, he, hb, hg, h1, h2, h3, h4⟩⟩ := h
  · cases h1.1
  cases he
  have hsz : i * size ≤ n * size := Nat.mul_le_mul_right _ hi
  refine ⟨by rw [List.length_take, h0]; omega, .inr ⟨g, cap, cur, rfl, hb, hg, by omega, h2, h3, ?_⟩⟩
  rw [← h4, List.take_take, Nat.min_eq_left hsz]
theorem flat_take {α : Type} (f : α → List Value) (n : Nat) (hf : ∀ a, (f a).length = n) : ∀ (l : List α) (i : Nat), (l.flatMap f).take (i * n) = (l.take i).flatMap f
  | l, 0 => by simp
  | [], i + 1 => by simp
  | x :: l, i + 1 => by
    rw [List.flatMap_cons, List.take_succ_cons, List.flatMap_cons, ← flat_take f n hf l i, List.take_append, hf, Nat.succ_mul, List.take_of_length_le (by rw [hf]; omega), show i * n + n - n = i * n by omega]
theorem flat_drop {α : Type} (f : α → List Value) (n : Nat) (hf : ∀ a, (f a).length = n) : ∀ (l : List α) (i : Nat), (l.flatMap f).drop (i * n) = (l.drop i).flatMap f
  | l, 0 => by simp
  | [], i + 1 => by simp
  | x :: l, i + 1 => by
    rw [List.flatMap_cons, List.drop_succ_cons, ← flat_drop f n hf l i, List.drop_append, hf, Nat.succ_mul, List.drop_of_length_le (by rw [hf]; omega), show i * n + n - n = i * n by omega, List.nil_append]
theorem pl_put {w : World} {base g cap n : Nat} {l : List Pl} (h : OwnPl w base (.slice (some ⟨g, 0, none⟩) n cap) l) {i : Nat} (hi : i < n) (q : Pl) : OwnPl (w.setCells g (i * 8) (plC q)) base (.slice (some ⟨g, 0, none⟩) n cap) (l.set i q) := by
  have hn : n = l.length := own_n h
  subst hn
  have h2 := row_lay h (i * 8) (plC q) (by rw [plC_len]; omega)
  unfold OwnPl
  rw [List.length_set]
  have e : (l.set i q).flatMap plC = (l.flatMap plC).take (i * 8) ++ plC q ++ (l.flatMap plC).drop (i * 8 + (plC q).length) := by
    rw [plC_len, show i * 8 + 8 = (i + 1) * 8 by omega, flat_take plC 8 plC_len, flat_drop plC 8 plC_len, List.set_eq_take_append_cons_drop, if_pos hi, List.flatMap_append, List.flatMap_cons, List.append_assoc]
  rw [e]
  exact h2
theorem pl_cut {w : World} {base g cap n : Nat} {l : List Pl} (h : OwnPl w base (.slice (some ⟨g, 0, none⟩) n cap) l) {i : Nat} (hi : i ≤ n) (vs : List Value) (hv : vs.length = (n - i) * 8) :
    OwnPl (w.setCells g (i * 8) vs) base (.slice (some ⟨g, 0, none⟩) i cap) (l.take i) := by
  have hn : n = l.length := own_n h
  subst hn
  have h2 := row_cut (row_lay h (i * 8) vs (by rw [hv]; omega)) hi
  unfold OwnPl
  rw [List.length_take, Nat.min_eq_left hi]
  have e : (l.take i).flatMap plC = ((l.flatMap plC).take (i * 8) ++ vs ++ (l.flatMap plC).drop (i * 8 + vs.length)).take (i * 8) := by
    have hl : ((l.flatMap plC).take (i * 8)).length = i * 8 := by rw [List.length_take, flatN_len plC 8 plC_len]; omega
    rw [List.append_assoc, List.take_append, hl, Nat.sub_self, List.take_zero, List.append_nil, List.take_of_length_le (Nat.le_of_eq hl), flat_take plC 8 plC_len]
  rw [e]
  exact h2
theorem idxP_spec {α : Type} (pr : α → Bool) : ∀ (l : List α) (k : Nat), (idxP pr l k = -1 ∧ ∀ x ∈ l, pr x = false) ∨ ∃ i : Nat, idxP pr l k = ((k + i : Nat) : Int) ∧ i < l.length ∧ (∀ x ∈ l.take i, pr x = false) ∧ ∃ y, l[i]? = some y ∧ pr y = true
  | [], k => .inl ⟨rfl, fun x hx => nomatch hx⟩
  | x :: r, k => by
    rw [idxP]
    cases hx : pr x
    · rw [if_neg (by simp)]
      rcases idxP_spec pr r (k + 1) with ⟨h1, h2⟩ | ⟨i, h1, h2, h3, h4⟩
      · left
        refine ⟨h1, fun y hy => ?_⟩
        rcases List.mem_cons.1 hy with rfl | hy
        · exact hx
        · exact h2 y hy
      · right
        refine ⟨i + 1, by rw [h1]; congr 1; omega, by simpa using h2, fun y hy => ?_, by simpa using h4⟩
        rw [List.take_succ_cons] at hy
        rcases List.mem_cons.1 hy with rfl | hy
        · exact hx
        · exact h3 y hy
    · rw [if_pos rfl]
      exact .inr ⟨0, rfl, (by simp), (fun y hy => (by simp at hy)), x, rfl, hx⟩
theorem filter_all {α : Type} {K : α → Bool} {l : List α} (h : ∀ x ∈ l, (!K x) = false) : l.filter K = l := by
  rw [List.filter_eq_self]
  intro x hx
  have := h x hx
  simpa using this
theorem slice_lo (A : Option Addr) (n c lo : Nat) (h1 : lo ≤ n) (W : World) : (Instr.slice 88 (.slice A n c) (some (.int .i64 (lo : Int))) none none).run Try.prog W = .ok (.slice (if c = lo then A else A.map (·.add (lo * 8))) (n - lo) (c - lo)) W := by
  obtain ⟨i0, hi0, hz0, hz1, hz2⟩ := info_parts infoPl
  have he : Try.prog.elem 88 = 87 := by kernel_rfl
  have hs : (Go.sizeOf (Try.prog.elem 88)).run Try.prog W = .ok 8 W := by rw [he]; simp [Go.sizeOf, typeInfo, hi0, hz1]
  rw [run_slice_l W _ _ _ _ (by kernel_rfl) .i64 _ (by omega) (by omega), hs]
  simp [Result.andThen, sliced]
theorem slice_hi (g n c hi : Nat) (h1 : hi ≤ c) (W : World) : (Instr.slice 88 (.slice (some ⟨g, 0, none⟩) n c) none (some (.int .i64 (hi : Int))) none).run Try.prog W = .ok (.slice (some ⟨g, 0, none⟩) hi c) W := by
  obtain ⟨i0, hi0, hz0, hz1, hz2⟩ := info_parts infoPl
  have he : Try.prog.elem 88 = 87 := by kernel_rfl
  have hs : (Go.sizeOf (Try.prog.elem 88)).run Try.prog W = .ok 8 W := by rw [he]; simp [Go.sizeOf, typeInfo, hi0, hz1]
  rw [run_slice_h W _ _ _ _ (by kernel_rfl) .i64 _ (by omega) (by omega), hs]
  simp [Result.andThen, sliced, Addr.add]
theorem zero8 (n : Nat) : (Builtin.zeroCells (Value.agg #[.int .i64 0, .int .u8 0, .int .u8 0, .int .i8 0, .int .i8 0, .int .i8 0, .int .i64 0, .int .i64 0]).cells n).toList.length = n * 8 ∧
    ∀ v ∈ (Builtin.zeroCells (Value.agg #[.int .i64 0, .int .u8 0, .int .u8 0, .int .i8 0, .int .i8 0, .int .i8 0, .int .i64 0, .int .i64 0]).cells n).toList, v.oneCell' = true := by
  constructor
  · simp [Builtin.zeroCells, Value.cells]
  · intro v hv
    simp only [Builtin.zeroCells, Value.cells, Array.toList_map, List.mem_map] at hv
    obtain ⟨i, _, rfl⟩ := hv
    have h8 : i % 8 < 8 := Nat.mod_lt _ (by decide)
    show (#[Value.int .i64 0, .int .u8 0, .int .u8 0, .int .i8 0, .int .i8 0, .int .i8 0, .int .i64 0, .int .i64 0][i % 8]!).oneCell' = true
    rcases (show i % 8 = 0 ∨ i % 8 = 1 ∨ i % 8 = 2 ∨ i % 8 = 3 ∨ i % 8 = 4 ∨ i % 8 = 5 ∨ i % 8 = 6 ∨ i % 8 = 7 by omega) with h | h | h | h | h | h | h | h <;> rw [h] <;> rfl
/-- clear on the tail of a row of places -/
theorem run_clear_pl {w : World} {base g cap n : Nat} {l : List Pl} (h : OwnPl w base (.slice (some ⟨g, 0, none⟩) n cap) l) {i : Nat} (hi : i ≤ n) :
    ∃ vs : List Value, vs.length = (n - i) * 8 ∧ ∀ ty : TypeId, (Builtin.clear_ #[88] ty #[.slice (if cap = i then (some ⟨g, 0, none⟩ : Option Addr) else (some ⟨g, 0, none⟩ : Option Addr).map (·.add (i * 8))) (n - i) (cap - i)]).run Try.prog w = .ok (.tuple #[]) (w.setCells g (i * 8) vs) := by
  have hn : n = l.length := own_n h
  subst hn
  obtain ⟨h0, h1 | ⟨g', cap', cur, he, hb, hg, h1, h2, h3, h4⟩⟩ := h
  · cases h1.1
  cases he
  by_cases hni : l.length = i
  · refine ⟨[], by rw [hni]; simp, fun ty => ?_⟩
    rw [hni, Nat.sub_self]
    have hz : ∀ (A : Option Addr) (c : Nat), (Builtin.clear_ #[88] ty #[.slice A 0 c]).run Try.prog w = .ok (.tuple #[]) w := by
      intro A c
      cases A <;> simp [Builtin.clear_, run_underlying Try.underlying88]
    exact hz _ _
  · obtain ⟨z1, z2⟩ := zero8 (l.length - i)
    have hl : l.length ≤ cap := by omega
    have hci : ¬ cap = i := by omega
    rw [if_neg hci]
    refine ⟨_, z1, fun ty => ?_⟩
    have hcell : ∀ j, j < (l.length - i) * 8 → (w.cell? ⟨g, i * 8 + j, none⟩).isSome = true := by
      intro j hj
      rw [cell_of_row w g (i * 8 + j) cur _ (0, 0) hg]
      have : i * 8 + j < cur.size := by rw [h3]; omega
      simp [this]
    have hfr : ∀ j, w.frozen? ⟨g, j, none⟩ = false := fun j => by simp [World.frozen?, hg]
    have hst := run_storeCells_cells (P := Try.prog) g (i * 8) _ 0 w (by rw [z1]; simpa using hcell) (fun j _ => hfr _) z2
    simp only [Nat.add_zero] at hst
    obtain ⟨mm, hmm⟩ : ∃ mm, l.length - i = mm + 1 := ⟨l.length - i - 1, by omega⟩
    rw [hmm] at hst ⊢
    have ha : (⟨g, 0, none⟩ : Addr).add (i * 8) = ⟨g, i * 8, none⟩ := by unfold Addr.add; split <;> simp_all
    simp only [Option.map_some, ha]
    simp [Builtin.clear_, run_underlying Try.underlying88, hst]
end Go.Proofs.Ytdijlakeonionaa
