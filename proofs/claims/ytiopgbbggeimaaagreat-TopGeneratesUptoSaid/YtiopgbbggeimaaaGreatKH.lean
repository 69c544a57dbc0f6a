/-
  analyze: the closure add of All.
-/
import Derived.Test.YtiopgbbggeimaaaGreatKE
namespace Go.Proofs.YtiopgbbggeimaaaGreat
open Go.ChangeShapes Go.WideShapes Go.ChangeAt Go.RowKit
/-- what was found so far, in memory -/
def StA (n0 bo bf : Nat) (st : Fnd) (w : World) : Prop := ∃ v, Boxed w bo 48 v ∧ OwnAs w n0 v st.1 ∧ Boxed w bf 4 (.bool st.2) ∧ n0 ≤ bo ∧ n0 ≤ bf ∧ st.1.length ≤ 200
theorem StA.below {n0 bo bf : Nat} {st : Fnd} {w w' : World} (h : StA n0 bo bf st w) (hb : Below w.heap.size w w') : StA n0 bo bf st w' := by
  obtain ⟨v, h1, h2, h3, h4, h5, h6⟩ := h
  exact ⟨v, boxed_below h1 hb, h2.below hb, boxed_below h3 hb, h4, h5, h6⟩
theorem OwnAs.setBox {w : World} {base : Nat} {v : Value} {Ls : List (List PPt)} (h : OwnAs w base v Ls) {B : Nat} {t : TypeId} {x : Value} (hB : Boxed w B t x) (h1 : t ≠ 39) (h2 : t ≠ 65) (u : Value) : OwnAs (w.setCell ⟨B, 0, none⟩ u) base v Ls := by
  obtain ⟨us, g1, g2, g3⟩ := h
  have hk : ∀ (k : Nat) (cs : Array Value) (e : TypeId) (m : Nat × Nat), w.heap[k]? = some (.cells cs e m) → t ≠ e → (w.setCell ⟨B, 0, none⟩ u).heap[k]? = w.heap[k]? := fun k cs e m hk hne => Below.heap_setCell w ⟨B, 0, none⟩ u k fun hh => by
    have hh' : k = B := hh
    have h5 : w.heap[B]? = _ := hB
    rw [← hh', hk] at h5
    cases h5
    exact hne rfl
  exact ⟨us, own_keepQ g1 fun k cs m _ h _ => hk k cs _ m h h1, g2, fun x hx => own_keepQ (g3 x hx) fun k cs m _ h _ => hk k cs _ m h h2⟩
theorem slice_lo (g off n c lo : Nat) (h : lo ≤ n) (hnc : n ≤ c) (hc : c ≤ 9223372036854775807) (W : World) : ∃ o, (lo < n → o = off + lo) ∧ (Instr.slice 48 (.slice (some ⟨g, off, none⟩) n c) (some (.int .i64 (lo : Int))) none none).run Tryz.prog W = .ok (.slice (some ⟨g, o, none⟩) (n - lo) (c - lo)) W := by
  obtain ⟨i0, hi, hz0, hz1, hz2⟩ := info_parts infoAn
  have he : Tryz.prog.elem 48 = 39 := by kernel_rfl
  have hs : (Go.sizeOf (Tryz.prog.elem 48)).run Tryz.prog W = .ok 1 W := by rw [he]; simp [Go.sizeOf, typeInfo, hi, hz1]
  by_cases hcl : c = lo
  · refine ⟨off, fun hh => by omega, ?_⟩
    rw [run_slice_l W _ _ _ _ (by kernel_rfl) .i64 (lo : Int) (by omega) (by omega), hs]
    simp [Result.andThen, sliced, hcl]
  · refine ⟨off + lo, fun _ => rfl, ?_⟩
    have hadd : (⟨g, off, none⟩ : Addr).add lo = ⟨g, off + lo, none⟩ := by unfold Addr.add; split <;> simp_all
    rw [run_slice_l W _ _ _ _ (by kernel_rfl) .i64 (lo : Int) (by omega) (by omega), hs]
    simp [Result.andThen, sliced, hcl, hadd]
theorem slice_los (g off n c lo : Nat) (h : lo ≤ n) (hnc : n ≤ c) (hc : c ≤ 9223372036854775807) : ∃ o, (lo < n → o = off + lo) ∧ (∀ W, (Instr.slice 48 (.slice (some ⟨g, off, none⟩) n c) (some (.int .i64 (lo : Int))) none none).run Tryz.prog W = .ok (.slice (some ⟨g, o, none⟩) (n - lo) (c - lo)) W) ∧
    (∀ W, (Instr.sliceAt 48 (.slice (some ⟨g, off, none⟩) n c) (some (.int .i64 (lo : Int))) none none).run Tryz.prog W = .ok (.slice (some ⟨g, o, none⟩) (n - lo) (c - lo)) W) := by
  by_cases hl : lo < n
  · have key : ∀ W, (Instr.slice 48 (.slice (some ⟨g, off, none⟩) n c) (some (.int .i64 (lo : Int))) none none).run Tryz.prog W = .ok (.slice (some ⟨g, off + lo, none⟩) (n - lo) (c - lo)) W := fun W => by
      obtain ⟨o, h1, h2⟩ := slice_lo g off n c lo h hnc hc W
      rw [h2, h1 hl]
    exact ⟨off + lo, fun _ => rfl, key, fun W => by rw [run_sliceAt_slice W _ _ _ _ _ (by kernel_rfl), key]⟩
  · obtain ⟨i0, hi, hz0, hz1, hz2⟩ := info_parts infoAn
    have he : Tryz.prog.elem 48 = 39 := by kernel_rfl
    have hs : ∀ W, (Go.sizeOf (Tryz.prog.elem 48)).run Tryz.prog W = .ok 1 W := fun W => by rw [he]; simp [Go.sizeOf, typeInfo, hi, hz1]
    have hadd : (⟨g, off, none⟩ : Addr).add lo = ⟨g, off + lo, none⟩ := by unfold Addr.add; split <;> simp_all
    have key : ∀ W, (Instr.slice 48 (.slice (some ⟨g, off, none⟩) n c) (some (.int .i64 (lo : Int))) none none).run Tryz.prog W = .ok (.slice (some ⟨g, if c = lo then off else off + lo, none⟩) (n - lo) (c - lo)) W := fun W => by
      rw [run_slice_l W _ _ _ _ (by kernel_rfl) .i64 (lo : Int) (by omega) (by omega), hs]
      by_cases hcl : c = lo <;> simp [Result.andThen, sliced, hcl, hadd]
    exact ⟨_, fun hh => absurd hh hl, key, fun W => by rw [run_sliceAt_slice W _ _ _ _ _ (by kernel_rfl), key]⟩
theorem row_cells {w : World} {base g n cap : Nat} {e : TypeId} {xs : List Value} (h : w.ownsRow base e 1 (.slice (some ⟨g, 0, none⟩) n cap) n xs) : (∀ j, j < n → ∃ u, xs[j]? = some u ∧ w.cell? ⟨g, j, none⟩ = some u) ∧ (∀ j, w.frozen? ⟨g, j, none⟩ = false) ∧ g < w.heap.size ∧ n ≤ cap ∧ cap ≤ 9223372036854775807 ∧ xs.length = n := by
  have hr := Rd.own h
  obtain ⟨h0, h1 | ⟨g', cap', cur, he, hb, hg, h1, h2, h3, h4⟩⟩ := h
  · cases h1.1
  cases he
  have hlen : xs.length = n := by rw [h0, Nat.mul_one]
  refine ⟨fun j hj => ?_, fun j => by simp [World.frozen?, hg], (Array.getElem?_eq_some_iff.1 hg).1, h1, h2, hlen⟩
  obtain ⟨A, c, he, _, _, _, hcell⟩ := hr
  cases he
  obtain ⟨b, off, hA, _, hc⟩ := hcell (by omega)
  cases hA
  have hu := List.getElem?_eq_getElem (show j < xs.length by omega)
  exact ⟨_, hu, by simpa using hc j _ hu⟩
/-- what copy makes of an owned row: a place is laid free -/
theorem copy_row {w : World} {base g n cap o1 c1 c2 : Nat} {us : List Value} {z : Value} (h : w.ownsRow base 39 1 (.slice (some ⟨g, 0, none⟩) (n + 1) cap) (n + 1) (us ++ [z])) (i : Nat) (hi : i ≤ n) (ho : i < n → o1 = i + 1) (ho1 : ∀ u ∈ us ++ [z], u.oneCell' = true) (ty : TypeId) :
    (Builtin.copy_ #[48, 48] ty #[.slice (some ⟨g, o1, none⟩) (n - i) c1, .slice (some ⟨g, i, none⟩) (n + 1 - i) c2]).run Tryz.prog w = .ok (goInt ((n - i : Nat) : Int)) (w.setCells g (i + 1) (us.drop i)) ∧
    (w.setCells g (i + 1) (us.drop i)).ownsRow base 39 1 (.slice (some ⟨g, 0, none⟩) (n + 1) cap) (n + 1) ((us ++ [z]).take (i + 1) ++ us.drop i) := by
  obtain ⟨hc, hf, _, _, _, hlen⟩ := row_cells h
  have hul : us.length = n := by simpa using hlen
  have hdl : (us.drop i).length = n - i := by rw [List.length_drop, hul]
  constructor
  · have hrun := run_copy_cells (P := Tryz.prog) w 48 48 ty 39 g o1 (n - i) c1 ⟨g, i, none⟩ (n + 1 - i) c2 (us.drop i) Tryz.underlying48 ?_ ?_ ?_ ?_ ?_ ?_
    · rw [hrun, hdl]
      by_cases hlt : i < n
      · rw [ho hlt]
      · rw [List.drop_of_length_le (by omega)]
        rfl
    · obtain ⟨i0, hi0, _, hz1, _⟩ := info_parts infoAn
      rw [hi0]; simp [hz1]
    · rw [hdl]; exact (Nat.min_eq_right (by omega)).symm
    · intro j v hj
      have hjl := (List.getElem?_eq_some_iff.1 hj).1
      have hadd : (⟨g, i, none⟩ : Addr).add j = ⟨g, i + j, none⟩ := by unfold Addr.add; split <;> simp_all
      obtain ⟨u, hu, hcu⟩ := hc (i + j) (by omega)
      rw [List.getElem?_drop] at hj
      rw [List.getElem?_append_left (by omega)] at hu
      rw [hu] at hj
      cases hj
      rw [hadd, hcu]
    · intro j hj
      have hlt : i < n := by omega
      obtain ⟨u, _, hcu⟩ := hc (i + 1 + j) (by omega)
      rw [ho hlt, hcu]
      rfl
    · intro j hj
      exact hf _
    · intro v hv
      exact ho1 v (List.mem_append_left _ (List.mem_of_mem_drop hv))
  · have h2 := row_lay h (i + 1) (us.drop i) (by rw [hdl]; omega)
    rw [List.drop_of_length_le (l := us ++ [z]) (by rw [hdl, List.length_append, hul]; simp; omega), List.append_nil] at h2
    exact h2
/-- what storing makes of it then -/
theorem store_row {w : World} {base g n cap i : Nat} {us : List Value} {z : Value} (h : w.ownsRow base 39 1 (.slice (some ⟨g, 0, none⟩) (n + 1) cap) (n + 1) ((us ++ [z]).take (i + 1) ++ us.drop i)) (hul : us.length = n) (hi : i ≤ n) (u : Value) :
    (w.setCell ⟨g, i, none⟩ u).ownsRow base 39 1 (.slice (some ⟨g, 0, none⟩) (n + 1) cap) (n + 1) (us.take i ++ u :: us.drop i) := by
  have h2 := row_lay h i [u] (by simp; omega)
  have e1 : ((us ++ [z]).take (i + 1) ++ us.drop i).take i = us.take i := by
    rw [List.take_append, List.length_take, List.length_append, hul]
    simp only [List.length_cons, List.length_nil]
    rw [Nat.min_eq_left (by omega), show i - (i + 1) = 0 by omega, List.take_zero, List.append_nil, List.take_take, Nat.min_eq_left (by omega), List.take_append, show i - us.length = 0 by omega, List.take_zero, List.append_nil]
  have e2 : ((us ++ [z]).take (i + 1) ++ us.drop i).drop (i + [u].length) = us.drop i := by
    rw [List.drop_append, List.length_take, List.length_append, hul]
    simp only [List.length_cons, List.length_nil]
    rw [Nat.min_eq_left (by omega), show i + (0 + 1) - (i + 1) = 0 by omega, List.drop_zero, List.drop_of_length_le (by rw [List.length_take, List.length_append, hul]; simp; omega), List.nil_append]
  rw [e1, e2, List.append_assoc] at h2
  exact h2
theorem zip_ins {P : Value × List PPt → Prop} {us : List Value} {Ls : List (List PPt)} (hl : us.length = Ls.length) (h : ∀ x ∈ us.zip Ls, P x) (i : Nat) (u : Value) (a : List PPt) (hu : P (u, a)) : ∀ x ∈ (us.take i ++ u :: us.drop i).zip (Ls.take i ++ a :: Ls.drop i), P x := by
  intro x hx
  rw [List.zip_append (by rw [List.length_take, List.length_take, hl]), List.mem_append, List.zip_cons_cons, List.mem_cons] at hx
  have e : us.zip Ls = (us.take i).zip (Ls.take i) ++ (us.drop i).zip (Ls.drop i) := by
    rw [← List.zip_append (by rw [List.length_take, List.length_take, hl]), List.take_append_drop, List.take_append_drop]
  rcases hx with hx | hx | hx
  · exact h x (by rw [e]; exact List.mem_append_left _ hx)
  · rw [hx]; exact hu
  · exact h x (by rw [e]; exact List.mem_append_right _ hx)
end Go.Proofs.YtiopgbbggeimaaaGreat
