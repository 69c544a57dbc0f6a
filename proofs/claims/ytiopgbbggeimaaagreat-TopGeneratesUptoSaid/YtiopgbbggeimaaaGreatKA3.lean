import Derived.Test.YtiopgbbggeimaaaGreatK28
import Derived.JoinedCond
import Derived.Lib.SmallJoins
import Derived.ShutString
import Derived.ChangeOld
import Derived.ChangeSame
import Derived.Deep.Slices
import Derived.Deep.Fields
/-
  The arguments of the statement, opened: a language, an analysis, an orthography, and how long their parts can be.
-/
namespace Go.Proofs.YtiopgbbggeimaaaGreat
open Go.ChangeShapes Go.WideShapes Go.ChangeAt Go.RowKit Go.Deep Go.Joins
theorem ownK : ownKnob Tryz.prog.godebug = none := by kernel_rfl
theorem laidOut : laidOutB Tryz.prog = true := by kernel_rfl
theorem flatk_length {α : Type} (f : α → List Value) (k : Nat) (hf : ∀ a, (f a).length = k) (l : List α) : (l.flatMap f).length = l.length * k := by
  induction l with
  | nil => simp
  | cons a l ih => rw [List.flatMap_cons, List.length_append, ih, hf, List.length_cons, Nat.succ_mul, Nat.add_comm]
theorem flatk_at {α : Type} (f : α → List Value) (k : Nat) (hf : ∀ a, (f a).length = k) (l : List α) (i : Nat) (h : i < l.length) (j : Nat) (hj : j < k) : (l.flatMap f)[i * k + j]? = (f l[i])[j]? := by
  induction l generalizing i with
  | nil => simp at h
  | cons a l ih =>
    have ha := hf a
    cases i with
    | zero => rw [List.flatMap_cons, Nat.zero_mul, Nat.zero_add, List.getElem?_append_left (by omega)]; rfl
    | succ i =>
      rw [List.flatMap_cons, List.getElem?_append_right (by rw [ha, Nat.succ_mul]; omega), ha, show (i + 1) * k + j - k = i * k + j by rw [Nat.succ_mul]; omega]
      exact ih i (by simpa using h)
theorem list_of {α : Type} (n : Nat) (P : Nat → α → Prop) (h : ∀ i, i < n → ∃ x, P i x) : ∃ l : List α, l.length = n ∧ ∀ i x, l[i]? = some x → P i x := by
  induction n with
  | zero => exact ⟨[], rfl, fun i x hx => by simp at hx⟩
  | succ n ih =>
    obtain ⟨l, hl, hp⟩ := ih fun i hi => h i (by omega)
    obtain ⟨x, hx⟩ := h n (by omega)
    refine ⟨l ++ [x], by simp [hl], fun i y hy => ?_⟩
    by_cases hi : i < l.length
    · rw [List.getElem?_append_left hi] at hy; exact hp i y hy
    · rw [List.getElem?_append_right (by omega)] at hy
      by_cases h0 : i - l.length = 0
      · rw [h0] at hy
        simp at hy
        subst hy
        rw [show i = n by omega]; exact hx
      · rw [List.getElem?_eq_none (by simp; omega)] at hy; cases hy
section
variable {H : Type} {enc : TypeId × Value → H} {w : World} {base : Nat} {spare : Nat → Bool} {held : Bool}
/-- a slice opened, element by element: R cells datum element -/
theorem open_rows {α : Type} (R : List Value → DataW H → α → Prop) (f : α → List Value) (k : Nat) (hk : 0 < k) (hf : ∀ a, (f a).length = k) {t e : TypeId} (ht : Tryz.prog.underlying t = some (.slice e)) (hC : Tryz.prog.cellsOf e = k)
    (hR : ∀ cs d x, R cs d x → cs = f x) (ho : ∀ (n : Nat) (cs : List Value) (y : DataW H × List MemPlace), DataW.trod enc Tryz.prog w base spare held n e cs = some y → ∃ x, R cs y.1 x)
    {fuel : Nat} {v : Value} {y : DataW H × List MemPlace} (h : DataW.trod enc Tryz.prog w base spare held fuel t [v] = some y) :
    ∃ (A : Option Addr) (n c : Nat) (l : List α), v = .slice A n c ∧ l.length = n ∧ Rd w k v n (l.flatMap f) ∧
      ((n = 0 ∧ l = []) ∨ ∃ (ds sp : List (DataW H)), y.1 = .slice ds sp ∧ ds.length = n ∧ ∀ (i : Nat) (x : α), l[i]? = some x → ∃ (cs : List Value) (d : DataW H), ds[i]? = some d ∧ R cs d x) := by
  rcases open_slice ht h with ⟨h0, hx⟩ | ⟨a, len, cap, m, n, D, Pl, hcs, hb, hl, hm, hmm, hx, hi⟩
  · simp at h0
    subst h0
    exact ⟨none, 0, 0, [], rfl, rfl, rd_nil w k, .inl ⟨rfl, rfl⟩⟩
  · simp at hcs
    subst hcs
    have hlm : len ≤ m := by rw [hmm]; split <;> omega
    obtain ⟨l, hll, hlp⟩ := list_of len (fun i (x : α) => ∃ cs', w.cells? base (a.add (i * k)) k = some cs' ∧ R cs' (D i) x) (fun i hil => by
      obtain ⟨cs', hc, hx'⟩ := hi i (by omega)
      rw [hC] at hc
      obtain ⟨x, hxx⟩ := ho n cs' _ hx'
      exact ⟨x, cs', hc, hxx⟩)
    refine ⟨some a, len, cap, l, rfl, hll, ?_, .inr ⟨_, _, by rw [hx], by simp, fun i x hxl => ?_⟩⟩
    · refine ⟨some a, cap, rfl, hl, by unfold maxLen at hm; exact hm, by rw [flatk_length f k hf, hll], fun hn => ?_⟩
      have hcell : ∀ i, i < len → ∀ j, j < k → w.cell? (a.add (i * k + j)) = (l.flatMap f)[i * k + j]? := fun i hil j hj => by
        obtain ⟨cs', hc, hr⟩ := hlp i (l[i]'(by omega)) (List.getElem?_eq_getElem (by omega))
        obtain ⟨_, hcl, hat⟩ := World.cells?_some hc
        rw [flatk_at f k hf l i (by omega) j hj, ← hR _ _ _ hr, ← hat j hj, Go.Deep.add_add]
      obtain ⟨b, off, spot⟩ := a
      have hc0 := hcell 0 hn 0 hk
      have hfl := flatk_length f k hf l
      have hpos : 0 < (l.flatMap f).length := by rw [hfl, hll]; exact Nat.mul_pos hn hk
      rw [Nat.zero_mul, Nat.zero_add, List.getElem?_eq_getElem hpos] at hc0
      have hspot : spot = none := by simpa [Addr.add] using World.cell?_spot hc0
      subst hspot
      refine ⟨b, off, rfl, World.block_lt_of_cell? w _ hc0, fun j u hu => ?_⟩
      have hj := (List.getElem?_eq_some_iff.1 hu).1
      rw [hfl, hll] at hj
      have hdiv : j / k < len := (Nat.div_lt_iff_lt_mul hk).2 hj
      have hmod := Nat.mod_lt j hk
      have he : j / k * k + j % k = j := by rw [Nat.mul_comm]; exact Nat.div_add_mod j k
      have := hcell (j / k) hdiv (j % k) hmod
      rw [he, add_none] at this
      rw [this, hu]
    · obtain ⟨cs', hc, hr⟩ := hlp i x hxl
      have hil := (List.getElem?_eq_some_iff.1 hxl).1
      exact ⟨cs', D i, by simp [hll ▸ hil], hr⟩
theorem open_int1 {fuel : Nat} {cs : List Value} {x : DataW H × List MemPlace} (h : DataW.trod enc Tryz.prog w base spare held fuel 3 cs = some x) : ∃ n : Int, cs = [.int .i64 n] := by
  obtain ⟨n, h1, _⟩ := DataW.trod_int Tryz.underlying3 h
  exact ⟨n, h1⟩
theorem flat_one {α : Type} (f : α → Value) (l : List α) : l.flatMap (fun x => [f x]) = l.map f := by induction l with | nil => rfl | cons a l ih => rw [List.flatMap_cons, ih]; rfl
theorem open_fields {e : TypeId} {fs : Array Field} (he : Tryz.prog.underlying e = some (.struct fs)) (hone : oneCellFields Tryz.prog fs = true) (hC : Tryz.prog.cellsOf e = fs.size) {fuel : Nat} {cs : List Value} {y : DataW H × List MemPlace} (h : DataW.trod enc Tryz.prog w base spare held fuel e cs = some y) :
    cs.length = fs.size ∧ ∃ (ys : List (DataW H × List MemPlace)) (n : Nat), y.1 = .agg (ys.map (·.1)) ∧ ys.length = fs.size ∧ ∀ (j : Nat) (f : Field), fs[j]? = some f → ∃ (v : Value) (x : DataW H × List MemPlace), cs[j]? = some v ∧ ys[j]? = some x ∧ DataW.trod enc Tryz.prog w base spare held n f.type [v] = some x := by
  obtain ⟨ys, n', _, hy, hlen, hyl, hf⟩ := DataW.trod_struct he h
  rw [hC] at hlen
  refine ⟨hlen, ys, n', by rw [hy], hyl, fun j f hj => ?_⟩
  obtain ⟨ho, hk⟩ := hone_of hone j f hj
  have hjl : j < fs.size := (Array.getElem?_eq_some_iff.1 hj).1
  have h1 := hf j f hj
  rw [ho, hk, List.drop_eq_getElem_cons (by omega), List.getElem?_eq_getElem (by omega)] at h1
  exact ⟨cs[j]'(by omega), _, List.getElem?_eq_getElem (by omega), List.getElem?_eq_getElem (by omega), h1⟩
theorem two_cells {cs : List Value} {a b : Value} (h : cs.length = 2) (h0 : cs[0]? = some a) (h1 : cs[1]? = some b) : cs = [a, b] := by
  match cs, h with
  | [x, y], _ => simp at h0 h1; rw [h0, h1]
theorem one_le (d : DataW H) : 1 ≤ Rows.uptoBulk d := by
  cases d with
  | lit l => cases l <;> simp [Rows.uptoBulk]
  | nil => simp [Rows.uptoBulk]
  | ptr d => simp [Rows.uptoBulk]
  | slice elems spare => simp [Rows.uptoBulk]
  | agg parts => simp [Rows.uptoBulk]
  | iface t d => simp [Rows.uptoBulk]
  | map entries => simp [Rows.uptoBulk]
  | held h => simp [Rows.uptoBulk]
theorem part_le {d : DataW H} {l : List (DataW H)} (h : d ∈ l) : Rows.uptoBulk d ≤ Rows.uptoBulkAll l := by
  induction l with
  | nil => cases h
  | cons x r ih =>
    simp only [Rows.uptoBulkAll]
    cases List.mem_cons.1 h with
    | inl e => subst e; omega
    | inr e => have := ih e; omega
theorem length_le' (l : List (DataW H)) : l.length ≤ Rows.uptoBulkAll l := by
  induction l with
  | nil => simp [Rows.uptoBulkAll]
  | cons x r ih => have := one_le x; simp only [Rows.uptoBulkAll, List.length_cons]; omega
theorem slice_elems (elems spare : List (DataW H)) : Rows.uptoBulkAll elems + 1 ≤ Rows.uptoBulk (.slice elems spare) := by
  simp only [Rows.uptoBulk]
  omega
theorem open_str1 {fuel : Nat} {v : Value} {y : DataW H × List MemPlace} (h : DataW.trod enc Tryz.prog w base spare held fuel 9 [v] = some y) : ∃ s, v = .string s ∧ s.size ≤ Rows.uptoBulk y.1 := by
  obtain ⟨s, e, hy, _⟩ := DataW.trod_string Tryz.underlying9 h
  simp at e
  refine ⟨s, e, ?_⟩
  rw [hy]
  have : s.data.toList.length = s.size := by rw [Array.length_toList]; rfl
  simp only [Rows.uptoBulk]
  omega
/-- of a list: how long it is, and what its elements weigh -/
theorem rows_bulk {α : Type} {n : Nat} {l : List α} {y : DataW H × List MemPlace} {R : List Value → DataW H → α → Prop} (hl : l.length = n)
    (hw : (n = 0 ∧ l = []) ∨ ∃ (ds sp : List (DataW H)), y.1 = .slice ds sp ∧ ds.length = n ∧ ∀ (i : Nat) (x : α), l[i]? = some x → ∃ (cs : List Value) (d : DataW H), ds[i]? = some d ∧ R cs d x) :
    l.length ≤ Rows.uptoBulk y.1 ∧ ∀ x ∈ l, ∃ cs d, R cs d x ∧ Rows.uptoBulk d ≤ Rows.uptoBulk y.1 := by
  rcases hw with ⟨_, rfl⟩ | ⟨ds, sp, h1, h2, h3⟩
  · exact ⟨Nat.zero_le _, fun x hx => by cases hx⟩
  · have h4 := slice_elems ds sp
    rw [← h1] at h4
    refine ⟨by have := length_le' ds; omega, fun x hx => ?_⟩
    obtain ⟨i, hi⟩ := List.mem_iff_getElem?.1 hx
    obtain ⟨cs, d, hd, hR⟩ := h3 i x hi
    exact ⟨cs, d, hR, by have := part_le (List.mem_of_getElem? hd); omega⟩
theorem open_I {fuel : Nat} {v : Value} {y : DataW H × List MemPlace} (h : DataW.trod enc Tryz.prog w base spare held fuel 31 [v] = some y) : ∃ xs, RdI w v xs ∧ xs.length ≤ Rows.uptoBulk y.1 := by
  obtain ⟨A, n, c, l, rfl, hl, hr, hw⟩ := open_rows (α := Int) (fun cs _ x => cs = [.int .i64 x]) (fun x => [.int .i64 x]) 1 (by decide) (fun _ => rfl) Tryz.underlying31 (by kernel_rfl) (fun _ _ _ h => h) (fun n cs y h => open_int1 h) h
  refine ⟨l, ?_, (rows_bulk hl hw).1⟩
  rw [flat_one] at hr
  rw [RdI, hl]
  exact hr
theorem open_S {fuel : Nat} {v : Value} {y : DataW H × List MemPlace} (h : DataW.trod enc Tryz.prog w base spare held fuel 78 [v] = some y) : ∃ xs, RdS w v xs ∧ xs.length ≤ Rows.uptoBulk y.1 ∧ ∀ s ∈ xs, s.size ≤ Rows.uptoBulk y.1 := by
  obtain ⟨A, n, c, l, rfl, hl, hr, hw⟩ := open_rows (α := ByteArray) (fun cs d x => cs = [.string x] ∧ x.size ≤ Rows.uptoBulk d) (fun x => [.string x]) 1 (by decide) (fun _ => rfl) Tryz.underlying78 (by kernel_rfl) (fun _ _ _ h => h.1) (fun n cs y h => by
    obtain ⟨s, e, hy, _⟩ := DataW.trod_string Tryz.underlying9 h
    subst e
    obtain ⟨s', e', h'⟩ := open_str1 h
    cases e'
    exact ⟨s, rfl, h'⟩) h
  have hb := rows_bulk hl hw
  refine ⟨l, ?_, hb.1, fun s hs => ?_⟩
  · rw [flat_one] at hr
    rw [RdS, hl]
    exact hr
  · obtain ⟨cs, d, h1, h2⟩ := hb.2 s hs
    exact Nat.le_trans h1.2 h2
theorem one_cell {t e : TypeId} (ht : Tryz.prog.underlying t = some (.slice e)) {fuel : Nat} {cs : List Value} {y : DataW H × List MemPlace} (h : DataW.trod enc Tryz.prog w base spare held fuel t cs = some y) : ∃ u, cs = [u] := by
  rcases open_slice ht h with ⟨h0, _⟩ | ⟨a, len, cap, m, n, D, Pl, hcs, _⟩
  · exact ⟨_, h0⟩
  · exact ⟨_, hcs⟩
theorem open_SS {fuel : Nat} {v : Value} {y : DataW H × List MemPlace} (h : DataW.trod enc Tryz.prog w base spare held fuel 26 [v] = some y) : ∃ Ls, RdSS w v Ls ∧ Ls.length ≤ Rows.uptoBulk y.1 ∧ ∀ l ∈ Ls, l.length ≤ Rows.uptoBulk y.1 ∧ ∀ s ∈ l, s.size ≤ Rows.uptoBulk y.1 := by
  obtain ⟨A, n, c, l, rfl, hl, hr, hw⟩ := open_rows (α := Value × List ByteArray) (fun cs d x => cs = [x.1] ∧ RdS w x.1 x.2 ∧ x.2.length ≤ Rows.uptoBulk d ∧ ∀ s ∈ x.2, s.size ≤ Rows.uptoBulk d) (fun x => [x.1]) 1 (by decide) (fun _ => rfl) Tryz.underlying26 (by kernel_rfl) (fun _ _ _ h => h.1) (fun n cs y h => by
    obtain ⟨u, rfl⟩ := one_cell Tryz.underlying78 h
    obtain ⟨xs, h1, h2, h3⟩ := open_S h
    exact ⟨(u, xs), rfl, h1, h2, h3⟩) h
  have hb := rows_bulk hl hw
  refine ⟨l.map (·.2), ⟨l.map (·.1), by rw [List.length_map, hl, ← flat_one]; exact hr, by simp, fun i u x hu hx => ?_⟩, by rw [List.length_map]; exact hb.1, fun ls hls => ?_⟩
  · simp only [List.getElem?_map, Option.map_eq_some_iff] at hu hx
    obtain ⟨z, hz, rfl⟩ := hu
    obtain ⟨z', hz', rfl⟩ := hx
    rw [hz] at hz'
    cases hz'
    obtain ⟨cs, d, h1, _⟩ := hb.2 z (List.mem_of_getElem? hz)
    exact h1.2.1
  · obtain ⟨x, hx, rfl⟩ := List.mem_map.1 hls
    obtain ⟨cs, d, h1, h2⟩ := hb.2 x hx
    exact ⟨Nat.le_trans h1.2.2.1 h2, fun s hs => Nat.le_trans (h1.2.2.2 s hs) h2⟩
theorem open_Ph {fuel : Nat} {v : Value} {y : DataW H × List MemPlace} (h : DataW.trod enc Tryz.prog w base spare held fuel 22 [v] = some y) : ∃ L, RdPh w v L ∧ L.length ≤ Rows.uptoBulk y.1 ∧ ∀ p ∈ L, p.name.size ≤ Rows.uptoBulk y.1 := by
  obtain ⟨A, n, c, l, rfl, hl, hr, hw⟩ := open_rows (α := PPh) (fun cs d x => cs = phCells x ∧ x.name.size ≤ Rows.uptoBulk d) phCells 2 (by decide) (fun _ => rfl) Tryz.underlying22 (by kernel_rfl) (fun _ _ _ h => h.1) (fun n cs y h => by
    obtain ⟨hl, ys, n, hy, _, hf⟩ := open_fields Tryz.underlying91 (by kernel_rfl) (by kernel_rfl) h
    obtain ⟨v0, x0, c0, y0, t0⟩ := hf 0 _ rfl
    obtain ⟨v1, x1, c1, y1, t1⟩ := hf 1 _ rfl
    obtain ⟨s0, e0, b0⟩ := open_str1 t0
    obtain ⟨s1, e1⟩ := open_int1 t1
    simp at e1
    subst e0 e1
    refine ⟨⟨s0, s1⟩, two_cells hl c0 c1, ?_⟩
    rw [hy]
    have := part_le (l := ys.map (·.1)) (List.mem_map.2 ⟨x0, List.mem_of_getElem? y0, rfl⟩)
    simp only [Rows.uptoBulk]
    omega) h
  have hb := rows_bulk hl hw
  refine ⟨l, by rw [RdPh, hl]; exact hr, hb.1, fun p hp => ?_⟩
  obtain ⟨cs, d, h1, h2⟩ := hb.2 p hp
  exact Nat.le_trans h1.2 h2
theorem open_U {fuel : Nat} {v : Value} {y : DataW H × List MemPlace} (h : DataW.trod enc Tryz.prog w base spare held fuel 25 [v] = some y) : ∃ P, RdU w v P ∧ P.length ≤ Rows.uptoBulk y.1 ∧ ∀ p ∈ P, p.g.size ≤ Rows.uptoBulk y.1 ∧ p.s.length ≤ Rows.uptoBulk y.1 := by
  obtain ⟨A, n, c, l, rfl, hl, hr, hw⟩ := open_rows (α := PU × Value) (fun cs d x => cs = uCells x ∧ RdI w x.2 x.1.s ∧ x.1.g.size ≤ Rows.uptoBulk d ∧ x.1.s.length ≤ Rows.uptoBulk d) uCells 2 (by decide) (fun _ => rfl) Tryz.underlying25 (by kernel_rfl) (fun _ _ _ h => h.1) (fun n cs y h => by
    obtain ⟨hl, ys, n, hy, _, hf⟩ := open_fields Tryz.underlying93 (by kernel_rfl) (by kernel_rfl) h
    obtain ⟨v0, x0, c0, y0, t0⟩ := hf 0 _ rfl
    obtain ⟨v1, x1, c1, y1, t1⟩ := hf 1 _ rfl
    obtain ⟨s0, e0, b0⟩ := open_str1 t0
    obtain ⟨xs, h1, b1⟩ := open_I t1
    subst e0
    have p0 := part_le (l := ys.map (·.1)) (List.mem_map.2 ⟨x0, List.mem_of_getElem? y0, rfl⟩)
    have p1 := part_le (l := ys.map (·.1)) (List.mem_map.2 ⟨x1, List.mem_of_getElem? y1, rfl⟩)
    refine ⟨(⟨s0, xs⟩, v1), two_cells hl c0 c1, h1, ?_, ?_⟩ <;> (rw [hy]; simp only [Rows.uptoBulk]; omega)) h
  have hb := rows_bulk hl hw
  refine ⟨l.map (·.1), ⟨l.map (·.2), by simp, ?_, fun i u p hu hp => ?_⟩, by rw [List.length_map]; exact hb.1, fun p hp => ?_⟩
  · rw [List.length_map, hl, show (l.map (·.1)).zip (l.map (·.2)) = l by
      clear hr hl hw h hb
      induction l with
      | nil => rfl
      | cons x l ih => simp [ih]]
    exact hr
  · simp only [List.getElem?_map, Option.map_eq_some_iff] at hu hp
    obtain ⟨z, hz, rfl⟩ := hu
    obtain ⟨z', hz', rfl⟩ := hp
    rw [hz] at hz'
    cases hz'
    obtain ⟨cs, d, h1, _⟩ := hb.2 z (List.mem_of_getElem? hz)
    exact h1.2.1
  · obtain ⟨x, hx, rfl⟩ := List.mem_map.1 hp
    obtain ⟨cs, d, h1, h2⟩ := hb.2 x hx
    exact ⟨Nat.le_trans h1.2.2.1 h2, Nat.le_trans h1.2.2.2 h2⟩
theorem three_cells {cs : List Value} {a b c : Value} (h : cs.length = 3) (h0 : cs[0]? = some a) (h1 : cs[1]? = some b) (h2 : cs[2]? = some c) : cs = [a, b, c] := by
  match cs, h with
  | [x, y, z], _ => simp at h0 h1 h2; rw [h0, h1, h2]
theorem open_O {fuel : Nat} {cs : List Value} {y : DataW H × List MemPlace} (h : DataW.trod enc Tryz.prog w base spare held fuel 28 cs = some y) (hb : Rows.uptoBulk y.1 ≤ 1048576) : ∃ (o : PO) (vu vl : Value), cs = [.string o.name, vu, vl] ∧ RdO w (.agg #[.string o.name, vu, vl]) o ∧ SmO o := by
  obtain ⟨hl, ys, n, hy, _, hf⟩ := open_fields Tryz.underlying28 (by kernel_rfl) (by kernel_rfl) h
  obtain ⟨v0, x0, c0, y0, t0⟩ := hf 0 _ rfl
  obtain ⟨v1, x1, c1, y1, t1⟩ := hf 1 _ rfl
  obtain ⟨v2, x2, c2, y2, t2⟩ := hf 2 _ rfl
  obtain ⟨s0, e0, b0⟩ := open_str1 t0
  subst e0
  obtain ⟨P, h1, b1, b1'⟩ := open_U t1
  obtain ⟨Ls, h2, b2, b2'⟩ := open_SS t2
  have p0 := part_le (l := ys.map (·.1)) (List.mem_map.2 ⟨x0, List.mem_of_getElem? y0, rfl⟩)
  have p1 := part_le (l := ys.map (·.1)) (List.mem_map.2 ⟨x1, List.mem_of_getElem? y1, rfl⟩)
  have p2 := part_le (l := ys.map (·.1)) (List.mem_map.2 ⟨x2, List.mem_of_getElem? y2, rfl⟩)
  rw [hy] at hb
  simp only [Rows.uptoBulk] at hb
  have q0 := Nat.le_trans b0 p0
  have q1 : ∀ n, n ≤ Rows.uptoBulk x1.1 → n ≤ 1048576 := fun n hn => by omega
  have q2 : ∀ n, n ≤ Rows.uptoBulk x2.1 → n ≤ 1048576 := fun n hn => by omega
  refine ⟨⟨s0, P, Ls⟩, v1, v2, three_cells hl c0 c1 c2, ⟨v1, v2, rfl, h1, h2⟩, ⟨?_, q1 _ b1, fun u hu => q1 _ (b1' u hu).1, fun u hu => q1 _ (b1' u hu).2, q2 _ b2, fun l hl => ⟨q2 _ (b2' l hl).1, fun s hs => q2 _ ((b2' l hl).2 s hs)⟩⟩⟩
  show s0.size ≤ 1048576
  omega
theorem open_Iz {fuel : Nat} {v : Value} {y : DataW H × List MemPlace} (h : DataW.trod enc Tryz.prog w base spare held fuel 31 [v] = some y) : ∃ xs, RdI w v xs := by
  obtain ⟨xs, h1, _⟩ := open_I h
  exact ⟨xs, h1⟩
theorem o_Cls {fuel : Nat} {v : Value} {y : DataW H × List MemPlace} (h : DataW.trod enc Tryz.prog w base spare held fuel 59 [v] = some y) : ∃ L, RdC w v L := by
  obtain ⟨A, n, c, l, rfl, hl, hr, _⟩ := open_rows (α := PCls) (fun cs _ x => cs = clsCells x) clsCells 2 (by decide) (fun _ => rfl) Tryz.underlying59 (by kernel_rfl) (fun _ _ _ h => h) (fun n cs y h => by
    obtain ⟨hl, ys, n, hy, _, hf⟩ := open_fields Tryz.underlying95 (by kernel_rfl) (by kernel_rfl) h
    obtain ⟨v0, x0, c0, y0, t0⟩ := hf 0 _ rfl
    obtain ⟨v1, x1, c1, y1, t1⟩ := hf 1 _ rfl
    obtain ⟨s0, e0⟩ := open_int1 t0
    obtain ⟨s1, e1⟩ := open_int1 t1
    simp at e0 e1
    subst e0 e1
    exact ⟨⟨s0, s1⟩, two_cells hl c0 c1⟩) h
  exact ⟨l, by rw [RdC, hl]; exact hr⟩
def rlC (x : (Value × Value × Value × Value) × PRule) : List Value := [x.1.1, x.1.2.1, x.1.2.2.1, x.1.2.2.2, .bool x.2.beg, .bool x.2.fin]
theorem o_Rule {fuel : Nat} {cs : List Value} {y : DataW H × List MemPlace} (h : DataW.trod enc Tryz.prog w base spare held fuel 61 cs = some y) : ∃ x, cs = rlC x ∧ RdR w (.agg (rlC x).toArray) x.2 := by
  obtain ⟨hl, ys, n, hy, _, hf⟩ := open_fields Tryz.underlying61 (by kernel_rfl) (by kernel_rfl) h
  obtain ⟨v0, x0, c0, y0, t0⟩ := hf 0 _ rfl
  obtain ⟨v1, x1, c1, y1, t1⟩ := hf 1 _ rfl
  obtain ⟨v2, x2, c2, y2, t2⟩ := hf 2 _ rfl
  obtain ⟨v3, x3, c3, y3, t3⟩ := hf 3 _ rfl
  obtain ⟨v4, x4, c4, y4, t4⟩ := hf 4 _ rfl
  obtain ⟨v5, x5, c5, y5, t5⟩ := hf 5 _ rfl
  obtain ⟨fr, h0⟩ := open_Iz t0
  obtain ⟨tto, h1⟩ := open_Iz t1
  obtain ⟨lft, h2⟩ := o_Cls t2
  obtain ⟨rgt, h3⟩ := o_Cls t3
  obtain ⟨b4, e4, _⟩ := DataW.trod_bool Tryz.underlying4 t4
  obtain ⟨b5, e5, _⟩ := DataW.trod_bool Tryz.underlying4 t5
  simp at e4 e5
  subst e4 e5
  refine ⟨((v0, v1, v2, v3), ⟨fr, tto, lft, rgt, b4, b5⟩), ?_, v0, v1, v2, v3, rfl, h0, h1, h2, h3⟩
  match cs, hl with
  | [a0, a1, a2, a3, a4, a5], _ =>
    simp at c0 c1 c2 c3 c4 c5
    rw [c0, c1, c2, c3, c4, c5]
    rfl
theorem o_Rules {fuel : Nat} {v : Value} {y : DataW H × List MemPlace} (h : DataW.trod enc Tryz.prog w base spare held fuel 29 [v] = some y) : ∃ Rs, RdRs w v Rs := by
  obtain ⟨A, n, c, l, rfl, hl, hr, hw⟩ := open_rows (α := (Value × Value × Value × Value) × PRule) (fun cs _ x => cs = rlC x ∧ RdR w (.agg (rlC x).toArray) x.2) rlC 6 (by decide) (fun _ => rfl) Tryz.underlying29 (by kernel_rfl) (fun _ _ _ h => h.1) (fun n cs y h => o_Rule h) h
  have hmem : ∀ x, x ∈ l → RdR w (.agg (rlC x).toArray) x.2 := by
    intro x hx
    rcases hw with ⟨_, rfl⟩ | ⟨ds, sp, _, _, h3⟩
    · cases hx
    · obtain ⟨i, hi⟩ := List.mem_iff_getElem?.1 hx
      obtain ⟨cs, d, _, _, h5⟩ := h3 i x hi
      exact h5
  obtain ⟨A', c', he, h1, h2, h3, h4⟩ := hr
  cases he
  refine ⟨l.map (·.2), A, n, c, rfl, h1, h2, by rw [Hid, List.length_map, hl], fun k hk => ?_⟩
  obtain ⟨b, off, rfl, hb, hc⟩ := h4 (by omega)
  have hkl : k < l.length := by omega
  have hj : ∀ j u, j < 6 → (rlC l[k])[j]? = some u → w.cell? ⟨b, off + k * 6 + j, none⟩ = some u := fun j u hj hu => by
    rw [Nat.add_assoc]
    exact hc (k * 6 + j) u ((flatk_at rlC 6 (fun _ => rfl) l k hkl j hj).trans hu)
  refine ⟨b, off, _, _, _, _, l[k].2, rfl, hb, ?_, ⟨hj 0 _ (by omega) rfl, hj 1 _ (by omega) rfl, hj 2 _ (by omega) rfl, hj 3 _ (by omega) rfl, hj 4 _ (by omega) rfl, hj 5 _ (by omega) rfl⟩, hmem _ (List.getElem_mem hkl)⟩
  rw [Hid, ← List.map_drop, ← List.map_drop, List.drop_eq_getElem_cons hkl]
  rfl
theorem open_SN {fuel : Nat} {v : Value} {y : DataW H × List MemPlace} (h : DataW.trod enc Tryz.prog w base spare held fuel 30 [v] = some y) : ∃ L, RdSN w v L := by
  obtain ⟨A, n, c, l, rfl, hl, hr, _⟩ := open_rows (α := PStep) (fun cs _ x => cs = stepCells x) stepCells 3 (by decide) (fun _ => rfl) Tryz.underlying30 (by kernel_rfl) (fun _ _ _ h => h) (fun n cs y h => by
    obtain ⟨hl, ys, n, hy, _, hf⟩ := open_fields Tryz.underlying97 (by kernel_rfl) (by kernel_rfl) h
    obtain ⟨v0, x0, c0, y0, t0⟩ := hf 0 _ rfl
    obtain ⟨v1, x1, c1, y1, t1⟩ := hf 1 _ rfl
    obtain ⟨v2, x2, c2, y2, t2⟩ := hf 2 _ rfl
    obtain ⟨s0, e0⟩ := open_int1 t0
    obtain ⟨s1, e1⟩ := open_int1 t1
    obtain ⟨s2, e2⟩ := open_int1 t2
    simp at e0 e1 e2
    subst e0 e1 e2
    exact ⟨⟨s0, s1, s2⟩, three_cells hl c0 c1 c2⟩) h
  exact ⟨l, by rw [RdSN, hl]; exact hr⟩
theorem open_Pts {fuel : Nat} {v : Value} {y : DataW H × List MemPlace} (h : DataW.trod enc Tryz.prog w base spare held fuel 37 [v] = some y) : ∃ L, RdPt w v L := by
  obtain ⟨A, n, c, l, rfl, hl, hr, _⟩ := open_rows (α := PPt) (fun cs _ x => cs = ptCells x) ptCells 3 (by decide) (fun _ => rfl) Tryz.underlying37 (by kernel_rfl) (fun _ _ _ h => h) (fun n cs y h => by
    obtain ⟨hl, ys, n, hy, _, hf⟩ := open_fields Tryz.underlying65 (by kernel_rfl) (by kernel_rfl) h
    obtain ⟨v0, x0, c0, y0, t0⟩ := hf 0 _ rfl
    obtain ⟨v1, x1, c1, y1, t1⟩ := hf 1 _ rfl
    obtain ⟨v2, x2, c2, y2, t2⟩ := hf 2 _ rfl
    obtain ⟨s0, e0⟩ := open_int1 t0
    obtain ⟨s1, e1⟩ := open_int1 t1
    obtain ⟨s2, e2⟩ := open_int1 t2
    simp at e0 e1 e2
    subst e0 e1 e2
    exact ⟨⟨s0, s1, s2⟩, three_cells hl c0 c1 c2⟩) h
  exact ⟨l, by rw [RdPt, hl]; exact hr⟩
theorem open_Sz {fuel : Nat} {v : Value} {y : DataW H × List MemPlace} (h : DataW.trod enc Tryz.prog w base spare held fuel 81 [v] = some y) : ∃ L, RdSe w v L ∧ ∀ s ∈ L, s.g.size ≤ Rows.uptoBulk y.1 ∧ s.d.size ≤ Rows.uptoBulk y.1 := by
  obtain ⟨A, n, c, l, rfl, hl, hr, hw⟩ := open_rows (α := PSe) (fun cs d x => cs = seCells x ∧ x.g.size ≤ Rows.uptoBulk d ∧ x.d.size ≤ Rows.uptoBulk d) seCells 2 (by decide) (fun _ => rfl) Tryz.underlying81 (by kernel_rfl) (fun _ _ _ h => h.1) (fun n cs y h => by
    obtain ⟨hl, ys, n, hy, _, hf⟩ := open_fields Tryz.underlying99 (by kernel_rfl) (by kernel_rfl) h
    obtain ⟨v0, x0, c0, y0, t0⟩ := hf 0 _ rfl
    obtain ⟨v1, x1, c1, y1, t1⟩ := hf 1 _ rfl
    obtain ⟨s0, e0, b0⟩ := open_str1 t0
    obtain ⟨s1, e1, b1⟩ := open_str1 t1
    subst e0 e1
    have p0 := part_le (l := ys.map (·.1)) (List.mem_map.2 ⟨x0, List.mem_of_getElem? y0, rfl⟩)
    have p1 := part_le (l := ys.map (·.1)) (List.mem_map.2 ⟨x1, List.mem_of_getElem? y1, rfl⟩)
    refine ⟨⟨s0, s1⟩, two_cells hl c0 c1, ?_, ?_⟩ <;> (rw [hy]; simp only [Rows.uptoBulk]; omega)) h
  have hb := rows_bulk hl hw
  refine ⟨l, by rw [RdSe, hl]; exact hr, fun p hp => ?_⟩
  obtain ⟨cs, d, h1, h2⟩ := hb.2 p hp
  exact ⟨Nat.le_trans h1.2.1 h2, Nat.le_trans h1.2.2 h2⟩
theorem open_Lz {fuel : Nat} {v : Value} {y : DataW H × List MemPlace} (h : DataW.trod enc Tryz.prog w base spare held fuel 82 [v] = some y) : ∃ L, RdP2 w v L := by
  obtain ⟨A, n, c, l, rfl, hl, hr, _⟩ := open_rows (α := P2) (fun cs _ x => cs = p2Cells x) p2Cells 2 (by decide) (fun _ => rfl) Tryz.underlying82 (by kernel_rfl) (fun _ _ _ h => h) (fun n cs y h => by
    obtain ⟨hl, ys, n, hy, _, hf⟩ := open_fields Tryz.underlying134 (by kernel_rfl) (by kernel_rfl) h
    obtain ⟨v0, x0, c0, y0, t0⟩ := hf 0 _ rfl
    obtain ⟨v1, x1, c1, y1, t1⟩ := hf 1 _ rfl
    obtain ⟨s0, e0⟩ := open_int1 t0
    obtain ⟨s1, e1⟩ := open_int1 t1
    simp at e0 e1
    subst e0 e1
    exact ⟨⟨s0, s1⟩, two_cells hl c0 c1⟩) h
  exact ⟨l, by rw [RdP2, hl]; exact hr⟩
theorem open_Rz {fuel : Nat} {v : Value} {y : DataW H × List MemPlace} (h : DataW.trod enc Tryz.prog w base spare held fuel 83 [v] = some y) : ∃ L, RdP2 w v L := by
  obtain ⟨A, n, c, l, rfl, hl, hr, _⟩ := open_rows (α := P2) (fun cs _ x => cs = p2Cells x) p2Cells 2 (by decide) (fun _ => rfl) Tryz.underlying83 (by kernel_rfl) (fun _ _ _ h => h) (fun n cs y h => by
    obtain ⟨hl, ys, n, hy, _, hf⟩ := open_fields Tryz.underlying193 (by kernel_rfl) (by kernel_rfl) h
    obtain ⟨v0, x0, c0, y0, t0⟩ := hf 0 _ rfl
    obtain ⟨v1, x1, c1, y1, t1⟩ := hf 1 _ rfl
    obtain ⟨s0, e0⟩ := open_int1 t0
    obtain ⟨s1, e1⟩ := open_int1 t1
    simp at e0 e1
    subst e0 e1
    exact ⟨⟨s0, s1⟩, two_cells hl c0 c1⟩) h
  exact ⟨l, by rw [RdP2, hl]; exact hr⟩
theorem open_LL {fuel : Nat} {v : Value} {y : DataW H × List MemPlace} (h : DataW.trod enc Tryz.prog w base spare held fuel 80 [v] = some y) : ∃ L, RdL w v L := by
  obtain ⟨A, n, c, l, rfl, hl, hr, hw⟩ := open_rows (α := Value × List Int) (fun cs _ x => cs = [x.1] ∧ RdI w x.1 x.2) (fun x => [x.1]) 1 (by decide) (fun _ => rfl) Tryz.underlying80 (by kernel_rfl) (fun _ _ _ h => h.1) (fun n cs y h => by
    obtain ⟨u, rfl⟩ := one_cell Tryz.underlying31 h
    obtain ⟨xs, h1⟩ := open_Iz h
    exact ⟨(u, xs), rfl, h1⟩) h
  have hb := rows_bulk hl hw
  refine ⟨l.map (·.2), ⟨l.map (·.1), by rw [List.length_map, hl, ← flat_one]; exact hr, by simp, fun i u x hu hx => ?_⟩⟩
  simp only [List.getElem?_map, Option.map_eq_some_iff] at hu hx
  obtain ⟨z, hz, rfl⟩ := hu
  obtain ⟨z', hz', rfl⟩ := hx
  rw [hz] at hz'
  cases hz'
  obtain ⟨cs, d, h1, _⟩ := hb.2 z (List.mem_of_getElem? hz)
  exact h1.2
end
end Go.Proofs.YtiopgbbggeimaaaGreat

/-
  The arguments of the statement, opened: entries, the language.
-/
namespace Go.Proofs.YtiopgbbggeimaaaGreat
open Go.ChangeShapes Go.WideShapes Go.ChangeAt Go.RowKit Go.Deep Go.Joins
theorem sl_of {w : World} {k n : Nat} {v : Value} {xs : List Value} (h : Rd w k v n xs) : ∃ s : Sl, v = .slice s.A s.n s.c := by
  obtain ⟨A, c, rfl, _⟩ := h
  exact ⟨⟨A, n, c⟩, rfl⟩
section
variable {H : Type} {enc : TypeId × Value → H} {w : World} {base : Nat} {spare : Nat → Bool} {held : Bool}
theorem open_En {fuel : Nat} {cs : List Value} {y : DataW H × List MemPlace} (h : DataW.trod enc Tryz.prog w base spare held fuel 85 cs = some y) : ∃ x : EV × PE, cs = x.1.cells ∧ DpE w x.1 x.2 ∧ ∀ s ∈ x.2.senses, s.g.size ≤ Rows.uptoBulk y.1 ∧ s.d.size ≤ Rows.uptoBulk y.1 := by
  obtain ⟨hl, ys, n, hy, _, hf⟩ := open_fields Tryz.underlying85 (by kernel_rfl) (by kernel_rfl) h
  obtain ⟨v0, x0, c0, y0, t0⟩ := hf 0 _ rfl
  obtain ⟨v1, x1, c1, y1, t1⟩ := hf 1 _ rfl
  obtain ⟨v2, x2, c2, y2, t2⟩ := hf 2 _ rfl
  obtain ⟨v3, x3, c3, y3, t3⟩ := hf 3 _ rfl
  obtain ⟨v4, x4, c4, y4, t4⟩ := hf 4 _ rfl
  obtain ⟨v5, x5, c5, y5, t5⟩ := hf 5 _ rfl
  obtain ⟨v6, x6, c6, y6, t6⟩ := hf 6 _ rfl
  obtain ⟨v7, x7, c7, y7, t7⟩ := hf 7 _ rfl
  obtain ⟨i0, e0⟩ := open_int1 t0
  obtain ⟨l1, h1⟩ := open_Iz t1
  obtain ⟨i2, e2⟩ := open_int1 t2
  obtain ⟨l3, h3⟩ := open_LL t3
  obtain ⟨i4, e4⟩ := open_int1 t4
  obtain ⟨l5, h5, b5⟩ := open_Sz t5
  obtain ⟨l6, h6⟩ := open_Lz t6
  obtain ⟨l7, h7⟩ := open_Rz t7
  simp at e0 e2 e4
  subst e0 e2 e4
  obtain ⟨s1, rfl⟩ := sl_of h1
  obtain ⟨s3, rfl⟩ := sl_of h3.choose_spec.1
  obtain ⟨s5, rfl⟩ := sl_of h5
  obtain ⟨s6, rfl⟩ := sl_of h6
  obtain ⟨s7, rfl⟩ := sl_of h7
  have p5 := part_le (l := ys.map (·.1)) (List.mem_map.2 ⟨x5, List.mem_of_getElem? y5, rfl⟩)
  refine ⟨(⟨i0, s1, i2, s3, i4, s5, s6, s7⟩, ⟨i0, l1, i2, l3, i4, l5, l6, l7⟩), ?_, ⟨rfl, rfl, rfl, h1, h3, h5, h6, h7⟩, fun s hs => ?_⟩
  · match cs, hl with
    | [a0, a1, a2, a3, a4, a5, a6, a7], _ =>
      simp at c0 c1 c2 c3 c4 c5 c6 c7
      rw [c0, c1, c2, c3, c4, c5, c6, c7]
      rfl
  · have h := b5 s hs
    rw [hy]
    simp only [Rows.uptoBulk]
    omega
theorem all2_of : ∀ (l : List (EV × PE)), (∀ x ∈ l, DpE w x.1 x.2) → All2 (DpE w) (l.map (·.1)) (l.map (·.2))
  | [], _ => All2.nil
  | x :: l, h => All2.cons (h x (by simp)) (all2_of l (fun y hy => h y (by simp [hy])))
theorem open_P {fuel : Nat} {v : Value} {y : DataW H × List MemPlace} (h : DataW.trod enc Tryz.prog w base spare held fuel 34 [v] = some y) : ∃ L, RdP w v L ∧ ∀ p ∈ L, ∀ s ∈ p.senses, s.g.size ≤ Rows.uptoBulk y.1 ∧ s.d.size ≤ Rows.uptoBulk y.1 := by
  obtain ⟨A, n, c, l, rfl, hl, hr, hw⟩ := open_rows (α := EV × PE) (fun cs d x => cs = x.1.cells ∧ DpE w x.1 x.2 ∧ ∀ s ∈ x.2.senses, s.g.size ≤ Rows.uptoBulk d ∧ s.d.size ≤ Rows.uptoBulk d) (fun x => x.1.cells) 8 (by decide) (fun _ => rfl) Tryz.underlying34 (by kernel_rfl) (fun _ _ _ h => h.1) (fun n cs y h => open_En h) h
  have hb := rows_bulk hl hw
  refine ⟨l.map (·.2), ⟨l.map (·.1), ?_, all2_of l fun x hx => ?_⟩, fun p hp s hs => ?_⟩
  · rw [RdV, List.length_map, hl, evs, List.flatMap_map]
    exact hr
  · obtain ⟨cs, d, h1, _⟩ := hb.2 x hx
    exact h1.2.1
  · obtain ⟨x, hx, rfl⟩ := List.mem_map.1 hp
    obtain ⟨cs, d, h1, h2⟩ := hb.2 x hx
    have h3 := h1.2.2 s hs
    exact ⟨Nat.le_trans h3.1 h2, Nat.le_trans h3.2 h2⟩
theorem two_le {ds : List (DataW H)} (h : ∀ d ∈ ds, 2 ≤ Rows.uptoBulk d) : 2 * ds.length ≤ Rows.uptoBulkAll ds := by
  induction ds with
  | nil => simp [Rows.uptoBulkAll]
  | cons d r ih =>
    have h1 := h d (by simp)
    have h2 := ih (fun x hx => h x (by simp [hx]))
    simp only [Rows.uptoBulkAll, List.length_cons]
    omega
theorem open_Ph2 {fuel : Nat} {v : Value} {y : DataW H × List MemPlace} (h : DataW.trod enc Tryz.prog w base spare held fuel 22 [v] = some y) (hb : Rows.uptoBulk y.1 ≤ 1048576) : ∃ L, RdPh w v L ∧ L.length ≤ 1000000 ∧ ∀ p ∈ L, SmS p.name := by
  obtain ⟨A, n, c, l, rfl, hl, hr, hw⟩ := open_rows (α := PPh) (fun cs d x => cs = phCells x ∧ x.name.size ≤ Rows.uptoBulk d ∧ 2 ≤ Rows.uptoBulk d) phCells 2 (by decide) (fun _ => rfl) Tryz.underlying22 (by kernel_rfl) (fun _ _ _ h => h.1) (fun n cs y h => by
    obtain ⟨hl, ys, n, hy, _, hf⟩ := open_fields Tryz.underlying91 (by kernel_rfl) (by kernel_rfl) h
    obtain ⟨v0, x0, c0, y0, t0⟩ := hf 0 _ rfl
    obtain ⟨v1, x1, c1, y1, t1⟩ := hf 1 _ rfl
    obtain ⟨s0, e0, b0⟩ := open_str1 t0
    obtain ⟨s1, e1⟩ := open_int1 t1
    simp at e1
    subst e0 e1
    have p0 := part_le (l := ys.map (·.1)) (List.mem_map.2 ⟨x0, List.mem_of_getElem? y0, rfl⟩)
    have q0 := one_le x0.1
    refine ⟨⟨s0, s1⟩, two_cells hl c0 c1, ?_, ?_⟩ <;> (rw [hy]; simp only [Rows.uptoBulk]; omega)) h
  have hbb := rows_bulk hl hw
  refine ⟨l, by rw [RdPh, hl]; exact hr, ?_, fun p hp => ?_⟩
  · rcases hw with ⟨_, rfl⟩ | ⟨ds, sp, h1, h2, h3⟩
    · simp
    · have h4 := slice_elems ds sp
      rw [← h1] at h4
      have h5 : 2 * ds.length ≤ Rows.uptoBulkAll ds := two_le fun d hd => by
        obtain ⟨i, hi⟩ := List.mem_iff_getElem?.1 hd
        have hil : i < l.length := by have := (List.getElem?_eq_some_iff.1 hi).1; omega
        obtain ⟨cs, d', hd', hR⟩ := h3 i _ (List.getElem?_eq_getElem hil)
        rw [hi] at hd'
        cases hd'
        exact hR.2.2
      omega
  · obtain ⟨cs, d, h1, h2⟩ := hbb.2 p hp
    have := h1.2.1
    show p.name.size ≤ 1048576
    omega
theorem open_Inv {fuel : Nat} {cs : List Value} {y : DataW H × List MemPlace} (h : DataW.trod enc Tryz.prog w base spare held fuel 24 cs = some y) (hb : Rows.uptoBulk y.1 ≤ 1048576) : ∃ (v : Value) (L : List PPh), cs = [v] ∧ RdPh w v L ∧ L.length ≤ 1000000 ∧ ∀ p ∈ L, SmS p.name := by
  obtain ⟨hl, ys, n, hy, _, hf⟩ := open_fields Tryz.underlying24 (by kernel_rfl) (by kernel_rfl) h
  obtain ⟨v0, x0, c0, y0, t0⟩ := hf 0 _ rfl
  have p0 := part_le (l := ys.map (·.1)) (List.mem_map.2 ⟨x0, List.mem_of_getElem? y0, rfl⟩)
  rw [hy] at hb
  simp only [Rows.uptoBulk] at hb
  obtain ⟨L, h1, b1, b1'⟩ := open_Ph2 t0 (by omega)
  refine ⟨v0, L, ?_, h1, b1, b1'⟩
  match cs, hl with
  | [x], _ => simp at c0; rw [c0]
theorem open_Net {fuel : Nat} {cs : List Value} {y : DataW H × List MemPlace} (h : DataW.trod enc Tryz.prog w base spare held fuel 33 cs = some y) : ∃ (N : PNet) (vs vf : Value), cs = [.int .i64 N.states, vs, vf] ∧ RdSN w vs N.steps ∧ RdI w vf N.final := by
  obtain ⟨hl, ys, n, hy, _, hf⟩ := open_fields Tryz.underlying33 (by kernel_rfl) (by kernel_rfl) h
  obtain ⟨v0, x0, c0, y0, t0⟩ := hf 0 _ rfl
  obtain ⟨v1, x1, c1, y1, t1⟩ := hf 1 _ rfl
  obtain ⟨v2, x2, c2, y2, t2⟩ := hf 2 _ rfl
  obtain ⟨s0, e0⟩ := open_int1 t0
  obtain ⟨L, h1⟩ := open_SN t1
  obtain ⟨F, h2⟩ := open_Iz t2
  simp at e0
  subst e0
  exact ⟨⟨s0, L, F⟩, v1, v2, three_cells hl c0 c1 c2, h1, h2⟩
end
end Go.Proofs.YtiopgbbggeimaaaGreat

/-
  The arguments of the statement, opened: the language, the analysis, the orthography.
-/
namespace Go.Proofs.YtiopgbbggeimaaaGreat
open Go.ChangeShapes Go.WideShapes Go.ChangeAt Go.RowKit Go.Deep Go.Joins
theorem rdRs_sl {w : World} {v : Value} {Rs : List PRule} (h : RdRs w v Rs) : ∃ s : Sl, v = .slice s.A s.n s.c := by
  obtain ⟨A, n, c, rfl, _⟩ := h
  exact ⟨⟨A, n, c⟩, rfl⟩
section
variable {H : Type} {enc : TypeId × Value → H} {w : World} {base : Nat} {spare : Nat → Bool} {held : Bool}
set_option maxRecDepth 100000 in
theorem open_G {r : Go.Reach} {b0 : Nat} {v : Value} {d : DataW H} {p : List MemPlace} (hv : Value.okWide Tryz.prog w r b0 36 v) (h : DataW.Trod enc Tryz.prog w base spare held 36 v d p) (hb : Rows.uptoBulk d ≤ 1048576) : ∃ (g : GV) (G : PLang), v = .agg #[.slice g.i.A g.i.n g.i.c, .string g.on, .slice g.u.A g.u.n g.u.c, .slice g.l.A g.l.n g.l.c, .slice g.r.A g.r.n g.r.c, .int .i64 g.q, .slice g.s.A g.s.n g.s.c, .slice g.f.A g.f.n g.f.c, .slice g.x.A g.x.n g.x.c] ∧ DpG w g G ∧ SmG G := by
  obtain ⟨cs, rfl, _⟩ := okWide_struct Tryz.underlying36 hv
  obtain ⟨fuel, h⟩ := h
  obtain ⟨ys, n, _, hy, hl, hyl, hf⟩ := DataW.trod_struct Tryz.underlying36 h
  rw [show Tryz.prog.cellsOf 36 = 9 by kernel_rfl] at hl
  have hf' : ∀ (i : Nat) (f : Field) (e : TypeId) (k o : Nat), (#[{ name := "Inv", type := 24, offset := 0, embedded := false, tag := "", pkgPath := "", byteOffset := 0 }, { name := "Ortho", type := 28, offset := 1, embedded := false, tag := "", pkgPath := "", byteOffset := 24 }, { name := "Rules", type := 29, offset := 4, embedded := false, tag := "", pkgPath := "", byteOffset := 88 }, { name := "Net", type := 33, offset := 5, embedded := false, tag := "", pkgPath := "", byteOffset := 112 }, { name := "Lex", type := 34, offset := 8, embedded := false, tag := "", pkgPath := "", byteOffset := 168 }] : Array Field)[i]? = some f → f.type = e → f.offset = o → Tryz.prog.cellsOf e = k → DataW.trod enc Tryz.prog w base spare held n e (List.take k (List.drop o cs.toList)) = ys[i]? := by
    rintro i f e k o h1 rfl rfl rfl
    exact hf i f h1
  have hys : ys.length = 5 := hyl
  clear hf hyl
  obtain ⟨l, hcl⟩ : ∃ l, cs.toList = l := ⟨_, rfl⟩
  have hl : l.length = 9 := by rw [← hcl]; exact hl
  obtain rfl : cs = l.toArray := by rw [← hcl]
  match l, hl with
  | [x0, x1, x2, x3, x4, x5, x6, x7, x8], _ =>
    match ys, hys with
    | [y0, y1, y2, y3, y4], _ =>
      have f0 : DataW.trod enc Tryz.prog w base spare held n 24 [x0] = some y0 := hf' 0 _ _ 1 0 rfl rfl rfl (by kernel_rfl)
      have f1 : DataW.trod enc Tryz.prog w base spare held n 28 [x1, x2, x3] = some y1 := hf' 1 _ _ 3 1 rfl rfl rfl (by kernel_rfl)
      have f2 : DataW.trod enc Tryz.prog w base spare held n 29 [x4] = some y2 := hf' 2 _ _ 1 4 rfl rfl rfl (by kernel_rfl)
      have f3 : DataW.trod enc Tryz.prog w base spare held n 33 [x5, x6, x7] = some y3 := hf' 3 _ _ 3 5 rfl rfl rfl (by kernel_rfl)
      have f4 : DataW.trod enc Tryz.prog w base spare held n 34 [x8] = some y4 := hf' 4 _ _ 1 8 rfl rfl rfl (by kernel_rfl)
      have hd : d = .agg [y0.1, y1.1, y2.1, y3.1, y4.1] := (Prod.mk.inj hy).1
      rw [hd] at hb
      simp only [Rows.uptoBulk, Rows.uptoBulkAll] at hb
      obtain ⟨v0, L, e0, g0, n0, m0⟩ := open_Inv f0 (by omega)
      obtain ⟨o1, u1, l1, e1, ⟨_, _, he1, g1, g1'⟩, s1⟩ := open_O f1 (by omega)
      obtain ⟨Rs, g2⟩ := o_Rules f2
      obtain ⟨N, vs, vf, e3, g3, g3'⟩ := open_Net f3
      obtain ⟨P, g4, s4⟩ := open_P f4
      simp only [List.cons.injEq, and_true] at e0 e1 e3
      obtain rfl := e0
      obtain ⟨rfl, rfl, rfl⟩ := e1
      obtain ⟨rfl, rfl, rfl⟩ := e3
      cases he1
      obtain ⟨a0, rfl⟩ := sl_of g0
      obtain ⟨a2, rfl⟩ := sl_of g1.choose_spec.2.1
      obtain ⟨a3, rfl⟩ := sl_of g1'.choose_spec.1
      obtain ⟨a4, rfl⟩ := rdRs_sl g2
      obtain ⟨a6, rfl⟩ := sl_of g3
      obtain ⟨a7, rfl⟩ := sl_of g3'
      obtain ⟨a8, rfl⟩ := sl_of g4.choose_spec.1
      exact ⟨⟨a0, o1.name, a2, a3, a4, N.states, a6, a7, a8⟩, ⟨L, o1, Rs, N, P⟩, rfl, ⟨rfl, rfl, g0, g1, g1', g2, g3, g3', g4⟩, ⟨n0, m0, s1, fun p hp s hs => by have := s4 p hp s hs; omega⟩⟩
set_option maxRecDepth 100000 in
theorem open_An {r : Go.Reach} {b0 : Nat} {v : Value} {d : DataW H} {p : List MemPlace} (hv : Value.okWide Tryz.prog w r b0 39 v) (h : DataW.Trod enc Tryz.prog w base spare held 39 v d p) : ∃ (A : Option Addr) (n c : Nat) (a : List PPt), v = .agg #[.slice A n c] ∧ RdPt w (.slice A n c) a := by
  obtain ⟨cs, rfl, _⟩ := okWide_struct Tryz.underlying39 hv
  obtain ⟨fuel, h⟩ := h
  obtain ⟨hl, ys, n, hy, _, hf⟩ := open_fields Tryz.underlying39 (by kernel_rfl) (by kernel_rfl) h
  obtain ⟨v0, x0, c0, y0, t0⟩ := hf 0 _ rfl
  obtain ⟨L, h1⟩ := open_Pts t0
  obtain ⟨A, m, c, rfl, _⟩ := h1.op
  refine ⟨A, m, c, L, ?_, h1⟩
  have hl' : cs.toList.length = 1 := hl
  have c0' : cs.toList[0]? = some (.slice A m c) := c0
  have h3 : cs = #[.slice A m c] := by
    rw [← Array.toList_inj]
    generalize cs.toList = l at hl' c0' ⊢
    match l, hl' with
    | [x], _ => simp at c0'; rw [c0']
  rw [h3]
set_option maxRecDepth 100000 in
theorem open_Or {r : Go.Reach} {b0 : Nat} {v : Value} {d : DataW H} {p : List MemPlace} (hv : Value.okWide Tryz.prog w r b0 28 v) (h : DataW.Trod enc Tryz.prog w base spare held 28 v d p) (hb : Rows.uptoBulk d ≤ 1048576) : ∃ (o : PO) (u l : Sl), v = .agg #[.string o.name, .slice u.A u.n u.c, .slice l.A l.n l.c] ∧ RdU w (.slice u.A u.n u.c) o.units ∧ RdSS w (.slice l.A l.n l.c) o.letters ∧ SmO o := by
  obtain ⟨cs, rfl, _⟩ := okWide_struct Tryz.underlying28 hv
  obtain ⟨fuel, h⟩ := h
  obtain ⟨o, vu, vl, hcs, ⟨_, _, he, h1, h2⟩, hs⟩ := open_O h hb
  cases he
  obtain ⟨u, rfl⟩ := sl_of h1.choose_spec.2.1
  obtain ⟨l, rfl⟩ := sl_of h2.choose_spec.1
  refine ⟨o, u, l, ?_, h1, h2, hs⟩
  have h3 : cs = #[.string o.name, .slice u.A u.n u.c, .slice l.A l.n l.c] := by rw [← Array.toList_inj]; exact hcs
  rw [h3]
end
end Go.Proofs.YtiopgbbggeimaaaGreat
