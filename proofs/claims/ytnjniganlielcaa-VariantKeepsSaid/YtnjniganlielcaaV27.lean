/-
  The arguments of the statements, opened: lists of entries, and how long their slices can be.
-/
import Derived.Test.YtnjniganlielcaaV26
import Derived.Lib.SmallJoins
import Derived.ShutString
import Derived.ChangeOld
import Derived.ChangeSame
import Derived.Deep.Slices
import Derived.Deep.Fields
namespace Go.Proofs.Ytnjniganlielcaa
open Go.ChangeShapes Go.WideShapes Go.ChangeAt Go.RowKit Go.Deep Go.Joins
theorem ownK : ownKnob Try.prog.godebug = none := by kernel_rfl
theorem laidOut : laidOutB Try.prog = true := by kernel_rfl
theorem add_none {b off j : Nat} : (⟨b, off, none⟩ : Addr).add j = ⟨b, off + j, none⟩ := by unfold Addr.add; split <;> simp_all
theorem flatk_length {α : Type} (f : α → List Value) (k : Nat) (hf : ∀ a, (f a).length = k) (l : List α) : (l.flatMap f).length = l.length * k := by
  induction l with
  | nil => simp
  | cons a l ih => rw [List.flatMap_cons, List.length_append, ih, hf, List.length_cons, Nat.succ_mul, Nat.add_comm]
theorem flatk_at {α : Type} (f : α → List Value) (k : Nat) (hf : ∀ a, (f a).length = k) (l : List α) (i : Nat) (h : i < l.length) (j : Nat) (hj : j < k) : (l.flatMap f)[i * k + j]? = (f l[i])[j]? := by
  induction l generalizing i with
  | nil => simp at h
  | cons a l ih =>
    have ha := hf a
    cases i with
    | zero => rw [List.flatMap_cons, Nat.zero_mul, Nat.zero_add, List.getElem?_append_left (by omega)]; rfl
    | succ i =>
      rw [List.flatMap_cons, List.getElem?_append_right (by rw [ha, Nat.succ_mul]; omega), ha, show (i + 1) * k + j - k = i * k + j by rw [Nat.succ_mul]; omega]
      exact ih i (by simpa using h)
theorem list_of {α : Type} (n : Nat) (P : Nat → α → Prop) (h : ∀ i, i < n → ∃ x, P i x) : ∃ l : List α, l.length = n ∧ ∀ i x, l[i]? = some x → P i x := by
  induction n with
  | zero => exact ⟨[], rfl, fun i x hx => by simp at hx⟩
  | succ n ih =>
    obtain ⟨l, hl, hp⟩ := ih fun i hi => h i (by omega)
    obtain ⟨x, hx⟩ := h n (by omega)
    refine ⟨l ++ [x], by simp [hl], fun i y hy => ?_⟩
    by_cases hi : i < l.length
    · rw [List.getElem?_append_left hi] at hy; exact hp i y hy
    · rw [List.getElem?_append_right (by omega)] at hy
      by_cases h0 : i - l.length = 0
      · rw [h0] at hy
        simp at hy
        subst hy
        rw [show i = n by omega]; exact hx
      · rw [List.getElem?_eq_none (by simp; omega)] at hy; cases hy
section
variable {H : Type} {enc : TypeId × Value → H} {w : World} {base : Nat} {spare : Nat → Bool} {held : Bool}
/-- a slice opened, element by element: R cells datum element -/
theorem open_rows {α : Type} (R : List Value → DataW H → α → Prop) (f : α → List Value) (k : Nat) (hk : 0 < k) (hf : ∀ a, (f a).length = k) {t e : TypeId} (ht : Try.prog.underlying t = some (.slice e)) (hC : Try.prog.cellsOf e = k)
    (hR : ∀ cs d x, R cs d x → cs = f x) (ho : ∀ (n : Nat) (cs : List Value) (y : DataW H × List MemPlace), DataW.trod enc Try.prog w base spare held n e cs = some y → ∃ x, R cs y.1 x)
    {fuel : Nat} {v : Value} {y : DataW H × List MemPlace} (h : DataW.trod enc Try.prog w base spare held fuel t [v] = some y) :
    ∃ (A : Option Addr) (n c : Nat) (l : List α), v = .slice A n c ∧ l.length = n ∧ Rd w k v n (l.flatMap f) ∧
      ((n = 0 ∧ l = []) ∨ ∃ (ds sp : List (DataW H)), y.1 = .slice ds sp ∧ ds.length = n ∧ ∀ (i : Nat) (x : α), l[i]? = some x → ∃ (cs : List Value) (d : DataW H), ds[i]? = some d ∧ R cs d x) := by
  rcases open_slice ht h with ⟨h0, hx⟩ | ⟨a, len, cap, m, n, D, Pl, hcs, hb, hl, hm, hmm, hx, hi⟩
  · simp at h0
    subst h0
    exact ⟨none, 0, 0, [], rfl, rfl, rd_nil w k, .inl ⟨rfl, rfl⟩⟩
  · simp at hcs
    subst hcs
    have hlm : len ≤ m := by rw [hmm]; split <;> omega
    obtain ⟨l, hll, hlp⟩ := list_of len (fun i (x : α) => ∃ cs', w.cells? base (a.add (i * k)) k = some cs' ∧ R cs' (D i) x) (fun i hil => by
      obtain ⟨cs', hc, hx'⟩ := hi i (by omega)
      rw [hC] at hc
      obtain ⟨x, hxx⟩ := ho n cs' _ hx'
      exact ⟨x, cs', hc, hxx⟩)
    refine ⟨some a, len, cap, l, rfl, hll, ?_, .inr ⟨_, _, by rw [hx], by simp, fun i x hxl => ?_⟩⟩
    · refine ⟨some a, cap, rfl, hl, by unfold maxLen at hm; exact hm, by rw [flatk_length f k hf, hll], fun hn => ?_⟩
      have hcell : ∀ i, i < len → ∀ j, j < k → w.cell? (a.add (i * k + j)) = (l.flatMap f)[i * k + j]? := fun i hil j hj => by
        obtain ⟨cs', hc, hr⟩ := hlp i (l[i]'(by omega)) (List.getElem?_eq_getElem (by omega))
        obtain ⟨_, hcl, hat⟩ := World.cells?_some hc
        rw [flatk_at f k hf l i (by omega) j hj, ← hR _ _ _ hr, ← hat j hj, Go.Deep.add_add]
      obtain ⟨b, off, spot⟩ := a
      have hc0 := hcell 0 hn 0 hk
      have hfl := flatk_length f k hf l
      have hpos : 0 < (l.flatMap f).length := by rw [hfl, hll]; exact Nat.mul_pos hn hk
      rw [Nat.zero_mul, Nat.zero_add, List.getElem?_eq_getElem hpos] at hc0
      have hspot : spot = none := by simpa [Addr.add] using World.cell?_spot hc0
      subst hspot
      refine ⟨b, off, rfl, World.block_lt_of_cell? w _ hc0, fun j u hu => ?_⟩
      have hj := (List.getElem?_eq_some_iff.1 hu).1
      rw [hfl, hll] at hj
      have hdiv : j / k < len := (Nat.div_lt_iff_lt_mul hk).2 hj
      have hmod := Nat.mod_lt j hk
      have he : j / k * k + j % k = j := by rw [Nat.mul_comm]; exact Nat.div_add_mod j k
      have := hcell (j / k) hdiv (j % k) hmod
      rw [he, add_none] at this
      rw [this, hu]
    · obtain ⟨cs', hc, hr⟩ := hlp i x hxl
      have hil := (List.getElem?_eq_some_iff.1 hxl).1
      exact ⟨cs', D i, by simp [hll ▸ hil], hr⟩
theorem open_int1 {fuel : Nat} {cs : List Value} {x : DataW H × List MemPlace} (h : DataW.trod enc Try.prog w base spare held fuel 3 cs = some x) : ∃ n : Int, cs = [.int .i64 n] := by
  obtain ⟨n, h1, _⟩ := DataW.trod_int Try.underlying3 h
  exact ⟨n, h1⟩
theorem flat_one {α : Type} (f : α → Value) (l : List α) : l.flatMap (fun x => [f x]) = l.map f := by induction l with | nil => rfl | cons a l ih => rw [List.flatMap_cons, ih]; rfl
/-- what a list of n elements weighs -/
def Wt (t e : TypeId) (y : DataW H) (n : Nat) : Prop := n = 0 ∨ ∃ z ∈ y.weights Try.prog t, n * Try.prog.bytesOf e ≤ z
theorem wt_of {t e : TypeId} (ht : Try.prog.underlying t = some (.slice e)) {y : DataW H} {n : Nat} (h : n = 0 ∨ ∃ ds sp, y = .slice ds sp ∧ ds.length = n) : Wt t e y n := by
  rcases h with h | ⟨ds, sp, rfl, hl⟩
  · exact .inl h
  · refine .inr ⟨(ds.length + sp.length) * Try.prog.bytesOf e, ?_, by rw [hl]; exact Nat.mul_le_mul_right _ (by omega)⟩
    rw [DataW.weights, ht]
    simp
theorem open_I {fuel : Nat} {v : Value} {y : DataW H × List MemPlace} (h : DataW.trod enc Try.prog w base spare held fuel 28 [v] = some y) : ∃ A n c xs, v = .slice A n c ∧ RdI w v xs ∧ Wt 28 3 y.1 xs.length := by
  obtain ⟨A, n, c, l, rfl, hl, hr, hw⟩ := open_rows (α := Int) (fun cs _ x => cs = [.int .i64 x]) (fun x => [.int .i64 x]) 1 (by decide) (fun _ => rfl) Try.underlying28 (by kernel_rfl) (fun _ _ _ h => h) (fun n cs y h => open_int1 h) h
  refine ⟨A, n, c, l, rfl, ?_, wt_of Try.underlying28 ?_⟩
  · rw [flat_one] at hr
    rw [RdI, hl]
    exact hr
  · rcases hw with ⟨h1, h2⟩ | ⟨ds, sp, h1, h2, _⟩
    · subst h2; exact .inl rfl
    · exact .inr ⟨ds, sp, h1, by rw [h2, hl]⟩
theorem open_fields {e : TypeId} {fs : Array Field} (he : Try.prog.underlying e = some (.struct fs)) (hone : oneCellFields Try.prog fs = true) (hC : Try.prog.cellsOf e = fs.size) {fuel : Nat} {cs : List Value} {y : DataW H × List MemPlace} (h : DataW.trod enc Try.prog w base spare held fuel e cs = some y) :
    cs.length = fs.size ∧ ∃ (ys : List (DataW H × List MemPlace)) (n : Nat), y.1 = .agg (ys.map (·.1)) ∧ ys.length = fs.size ∧ ∀ (j : Nat) (f : Field), fs[j]? = some f → ∃ (v : Value) (x : DataW H × List MemPlace), cs[j]? = some v ∧ ys[j]? = some x ∧ DataW.trod enc Try.prog w base spare held n f.type [v] = some x := by
  obtain ⟨ys, n', _, hy, hlen, hyl, hf⟩ := DataW.trod_struct he h
  rw [hC] at hlen
  refine ⟨hlen, ys, n', by rw [hy], hyl, fun j f hj => ?_⟩
  obtain ⟨ho, hk⟩ := hone_of hone j f hj
  have hjl : j < fs.size := (Array.getElem?_eq_some_iff.1 hj).1
  have h1 := hf j f hj
  rw [ho, hk, List.drop_eq_getElem_cons (by omega), List.getElem?_eq_getElem (by omega)] at h1
  exact ⟨cs[j]'(by omega), _, List.getElem?_eq_getElem (by omega), List.getElem?_eq_getElem (by omega), h1⟩
theorem two_cells {cs : List Value} {a b : Value} (h : cs.length = 2) (h0 : cs[0]? = some a) (h1 : cs[1]? = some b) : cs = [a, b] := by
  match cs, h with
  | [x, y], _ => simp at h0 h1; rw [h0, h1]
theorem open_se {fuel : Nat} {cs : List Value} {y : DataW H × List MemPlace} (h : DataW.trod enc Try.prog w base spare held fuel 41 cs = some y) : ∃ p, cs = seCells p := by
  obtain ⟨hl, ys, n, _, _, hf⟩ := open_fields Try.underlying41 (by kernel_rfl) (by kernel_rfl) h
  obtain ⟨v0, x0, c0, _, t0⟩ := hf 0 _ rfl
  obtain ⟨v1, x1, c1, _, t1⟩ := hf 1 _ rfl
  obtain ⟨s0, e0, _⟩ := DataW.trod_string Try.underlying9 t0
  obtain ⟨s1, e1, _⟩ := DataW.trod_string Try.underlying9 t1
  simp at e0 e1
  subst e0 e1
  exact ⟨⟨s0, s1⟩, two_cells hl c0 c1⟩
theorem open_lk {fuel : Nat} {cs : List Value} {y : DataW H × List MemPlace} (h : DataW.trod enc Try.prog w base spare held fuel 69 cs = some y) : ∃ p, cs = p2Cells p := by
  obtain ⟨hl, ys, n, _, _, hf⟩ := open_fields Try.underlying69 (by kernel_rfl) (by kernel_rfl) h
  obtain ⟨v0, x0, c0, _, t0⟩ := hf 0 _ rfl
  obtain ⟨v1, x1, c1, _, t1⟩ := hf 1 _ rfl
  obtain ⟨s0, e0⟩ := open_int1 t0
  obtain ⟨s1, e1⟩ := open_int1 t1
  simp at e0 e1
  subst e0 e1
  exact ⟨⟨s0, s1⟩, two_cells hl c0 c1⟩
theorem open_rf {fuel : Nat} {cs : List Value} {y : DataW H × List MemPlace} (h : DataW.trod enc Try.prog w base spare held fuel 71 cs = some y) : ∃ p, cs = p2Cells p := by
  obtain ⟨hl, ys, n, _, _, hf⟩ := open_fields Try.underlying71 (by kernel_rfl) (by kernel_rfl) h
  obtain ⟨v0, x0, c0, _, t0⟩ := hf 0 _ rfl
  obtain ⟨v1, x1, c1, _, t1⟩ := hf 1 _ rfl
  obtain ⟨s0, e0⟩ := open_int1 t0
  obtain ⟨s1, e1⟩ := open_int1 t1
  simp at e0 e1
  subst e0 e1
  exact ⟨⟨s0, s1⟩, two_cells hl c0 c1⟩
theorem open_Se {fuel : Nat} {v : Value} {y : DataW H × List MemPlace} (h : DataW.trod enc Try.prog w base spare held fuel 30 [v] = some y) : ∃ A n c xs, v = .slice A n c ∧ RdSe w v xs ∧ Wt 30 41 y.1 xs.length := by
  obtain ⟨A, n, c, l, rfl, hl, hr, hw⟩ := open_rows (α := PSe) (fun cs _ x => cs = seCells x) seCells 2 (by decide) (fun _ => rfl) Try.underlying30 (by kernel_rfl) (fun _ _ _ h => h) (fun n cs y h => open_se h) h
  refine ⟨A, n, c, l, rfl, by rw [RdSe, hl]; exact hr, wt_of Try.underlying30 ?_⟩
  rcases hw with ⟨h1, h2⟩ | ⟨ds, sp, h1, h2, _⟩
  · subst h2; exact .inl rfl
  · exact .inr ⟨ds, sp, h1, by rw [h2, hl]⟩
theorem open_Lk {fuel : Nat} {v : Value} {y : DataW H × List MemPlace} (h : DataW.trod enc Try.prog w base spare held fuel 31 [v] = some y) : ∃ A n c xs, v = .slice A n c ∧ RdP2 w v xs ∧ Wt 31 69 y.1 xs.length := by
  obtain ⟨A, n, c, l, rfl, hl, hr, hw⟩ := open_rows (α := P2) (fun cs _ x => cs = p2Cells x) p2Cells 2 (by decide) (fun _ => rfl) Try.underlying31 (by kernel_rfl) (fun _ _ _ h => h) (fun n cs y h => open_lk h) h
  refine ⟨A, n, c, l, rfl, by rw [RdP2, hl]; exact hr, wt_of Try.underlying31 ?_⟩
  rcases hw with ⟨h1, h2⟩ | ⟨ds, sp, h1, h2, _⟩
  · subst h2; exact .inl rfl
  · exact .inr ⟨ds, sp, h1, by rw [h2, hl]⟩
theorem open_Rf {fuel : Nat} {v : Value} {y : DataW H × List MemPlace} (h : DataW.trod enc Try.prog w base spare held fuel 32 [v] = some y) : ∃ A n c xs, v = .slice A n c ∧ RdP2 w v xs ∧ Wt 32 71 y.1 xs.length := by
  obtain ⟨A, n, c, l, rfl, hl, hr, hw⟩ := open_rows (α := P2) (fun cs _ x => cs = p2Cells x) p2Cells 2 (by decide) (fun _ => rfl) Try.underlying32 (by kernel_rfl) (fun _ _ _ h => h) (fun n cs y h => open_rf h) h
  refine ⟨A, n, c, l, rfl, by rw [RdP2, hl]; exact hr, wt_of Try.underlying32 ?_⟩
  rcases hw with ⟨h1, h2⟩ | ⟨ds, sp, h1, h2, _⟩
  · subst h2; exact .inl rfl
  · exact .inr ⟨ds, sp, h1, by rw [h2, hl]⟩
theorem open_L {fuel : Nat} {v : Value} {y : DataW H × List MemPlace} (h : DataW.trod enc Try.prog w base spare held fuel 29 [v] = some y) : ∃ A n c xs, v = .slice A n c ∧ RdL w v xs ∧ Wt 29 28 y.1 xs.length := by
  obtain ⟨A, n, c, l, rfl, hl, hr, hw⟩ := open_rows (α := Value × List Int) (fun cs _ x => cs = [x.1] ∧ RdI w x.1 x.2) (fun x => [x.1]) 1 (by decide) (fun _ => rfl) Try.underlying29 (by kernel_rfl) (fun _ _ _ h => h.1) (fun n cs y h => by
    have hlen : ∃ u, cs = [u] := by
      rcases open_slice Try.underlying28 h with ⟨h0, _⟩ | ⟨a, len, cap, m, n, D, Pl, hcs, _⟩
      · exact ⟨_, h0⟩
      · exact ⟨_, hcs⟩
    obtain ⟨u, rfl⟩ := hlen
    obtain ⟨_, _, _, xs, _, hrd, _⟩ := open_I h
    exact ⟨(u, xs), rfl, hrd⟩) h
  refine ⟨A, n, c, l.map (·.2), rfl, ⟨l.map (·.1), by rw [List.length_map, hl, ← flat_one]; exact hr, by simp, fun i u x hu hx => ?_⟩, wt_of Try.underlying29 ?_⟩
  · rcases hw with ⟨h1, h2⟩ | ⟨ds, sp, h1, h2, h3⟩
    · subst h2; simp at hu
    · simp only [List.getElem?_map, Option.map_eq_some_iff] at hu hx
      obtain ⟨z, hz, rfl⟩ := hu
      obtain ⟨z', hz', rfl⟩ := hx
      rw [hz] at hz'
      cases hz'
      obtain ⟨cs, d, _, _, hrd⟩ := h3 i z hz
      exact hrd
  · rcases hw with ⟨h1, h2⟩ | ⟨ds, sp, h1, h2, _⟩
    · subst h2; exact .inl rfl
    · exact .inr ⟨ds, sp, h1, by rw [h2, List.length_map, hl]⟩
theorem mem_each {ts : List TypeId} {ds : List (DataW H)} {j : Nat} {t : TypeId} {d : DataW H} {z : Nat} (ht : ts[j]? = some t) (hd : ds[j]? = some d) (hz : z ∈ d.weights Try.prog t) : z ∈ DataW.weightsEach Try.prog ts ds := by
  induction ts generalizing ds j with
  | nil => simp at ht
  | cons t0 ts ih =>
    cases ds with
    | nil => simp at hd
    | cons d0 ds =>
      rw [DataW.weightsEach, List.mem_append]
      cases j with
      | zero => simp at ht hd; subst ht hd; exact .inl hz
      | succ j => exact .inr (ih (by simpa using ht) (by simpa using hd))
theorem mem_all {e : TypeId} {ds : List (DataW H)} {d : DataW H} {z : Nat} (hd : d ∈ ds) (hz : z ∈ d.weights Try.prog e) : z ∈ DataW.weightsAll Try.prog e ds := by
  induction ds with
  | nil => simp at hd
  | cons d0 ds ih =>
    rw [DataW.weightsAll, List.mem_append]
    rcases List.mem_cons.1 hd with rfl | hd
    · exact .inl hz
    · exact .inr (ih hd)
def Light1 (t : TypeId) (d : DataW H) : Prop := ∀ z ∈ d.weights Try.prog t, z ≤ reachBytes
theorem wt_le {t e : TypeId} {y : DataW H} {n b : Nat} (hw : Wt t e y n) (hl : Light1 t y) (hb : Try.prog.bytesOf e = b) (h8 : 8 ≤ b) : n ≤ 17592186044416 := by
  rcases hw with h | ⟨z, hz, hnz⟩
  · omega
  · have := hl z hz
    rw [hb] at hnz
    have h1 : n * 8 ≤ n * b := Nat.mul_le_mul_left _ h8
    unfold reachBytes at this
    omega
theorem eight_cells {cs : List Value} {a b c d e f g h : Value} (hl : cs.length = 8) (h0 : cs[0]? = some a) (h1 : cs[1]? = some b) (h2 : cs[2]? = some c) (h3 : cs[3]? = some d) (h4 : cs[4]? = some e) (h5 : cs[5]? = some f) (h6 : cs[6]? = some g) (h7 : cs[7]? = some h) : cs = [a, b, c, d, e, f, g, h] := by
  match cs, hl with
  | [x0, x1, x2, x3, x4, x5, x6, x7], _ => simp at h0 h1 h2 h3 h4 h5 h6 h7; rw [h0, h1, h2, h3, h4, h5, h6, h7]
def ROK (w : World) (cs : List Value) (d : DataW H) (x : EV × PE) : Prop := cs = EV.cells x.1 ∧ DpE w x.1 x.2 ∧ (Light1 34 d → RbP x.2)
theorem open_ent {fuel : Nat} {cs : List Value} {y : DataW H × List MemPlace} (h : DataW.trod enc Try.prog w base spare held fuel 34 cs = some y) : ∃ x, ROK w cs y.1 x := by
  obtain ⟨hl, ys, n, hy, hyl, hf⟩ := open_fields Try.underlying34 (by kernel_rfl) (by kernel_rfl) h
  obtain ⟨v0, x0, c0, y0, t0⟩ := hf 0 _ rfl
  obtain ⟨v1, x1, c1, y1, t1⟩ := hf 1 _ rfl
  obtain ⟨v2, x2, c2, y2, t2⟩ := hf 2 _ rfl
  obtain ⟨v3, x3, c3, y3, t3⟩ := hf 3 _ rfl
  obtain ⟨v4, x4, c4, y4, t4⟩ := hf 4 _ rfl
  obtain ⟨v5, x5, c5, y5, t5⟩ := hf 5 _ rfl
  obtain ⟨v6, x6, c6, y6, t6⟩ := hf 6 _ rfl
  obtain ⟨v7, x7, c7, y7, t7⟩ := hf 7 _ rfl
  obtain ⟨z0, e0⟩ := open_int1 t0
  obtain ⟨z2, e2⟩ := open_int1 t2
  obtain ⟨z4, e4⟩ := open_int1 t4
  simp at e0 e2 e4
  subst e0 e2 e4
  obtain ⟨A1, n1, k1, p1, rfl, r1, w1⟩ := open_I t1
  obtain ⟨A3, n3, k3, p3, rfl, r3, w3⟩ := open_L t3
  obtain ⟨A5, n5, k5, p5, rfl, r5, w5⟩ := open_Se t5
  obtain ⟨A6, n6, k6, p6, rfl, r6, w6⟩ := open_Lk t6
  obtain ⟨A7, n7, k7, p7, rfl, r7, w7⟩ := open_Rf t7
  refine ⟨(⟨z0, ⟨A1, n1, k1⟩, z2, ⟨A3, n3, k3⟩, z4, ⟨A5, n5, k5⟩, ⟨A6, n6, k6⟩, ⟨A7, n7, k7⟩⟩, ⟨z0, p1, z2, p3, z4, p5, p6, p7⟩), eight_cells hl c0 c1 c2 c3 c4 c5 c6 c7, ⟨rfl, rfl, rfl, r1, r3, r5, r6, r7⟩, fun hL => ?_⟩
  have hlf : ∀ (j : Nat) (t : TypeId) (x : DataW H × List MemPlace), ([3, 28, 3, 29, 3, 30, 31, 32] : List TypeId)[j]? = some t → ys[j]? = some x → Light1 t x.1 := fun j t x ht hx z hz => by
    refine hL z ?_
    rw [hy, DataW.weights, Try.underlying34]
    exact mem_each (ts := [3, 28, 3, 29, 3, 30, 31, 32]) ht (by rw [List.getElem?_map, hx]; rfl) hz
  exact ⟨wt_le w1 (hlf 1 _ _ rfl y1) (by kernel_rfl : Try.prog.bytesOf 3 = 8) (by decide), wt_le w3 (hlf 3 _ _ rfl y3) (by kernel_rfl : Try.prog.bytesOf 28 = 24) (by decide), wt_le w5 (hlf 5 _ _ rfl y5) (by kernel_rfl : Try.prog.bytesOf 41 = 32) (by decide),
    wt_le w6 (hlf 6 _ _ rfl y6) (by kernel_rfl : Try.prog.bytesOf 69 = 16) (by decide), wt_le w7 (hlf 7 _ _ rfl y7) (by kernel_rfl : Try.prog.bytesOf 71 = 16) (by decide)⟩
theorem open_P {fuel : Nat} {v : Value} {y : DataW H × List MemPlace} (h : DataW.trod enc Try.prog w base spare held fuel 22 [v] = some y) (hL : Light1 22 y.1) : ∃ P, RdP w v P ∧ ∀ p ∈ P, RbP p := by
  obtain ⟨A, n, c, l, rfl, hl, hr, hw⟩ := open_rows (α := EV × PE) (ROK w) (fun x => EV.cells x.1) 8 (by decide) (fun _ => rfl) Try.underlying22 (by kernel_rfl) (fun _ _ _ h => h.1) (fun n cs y h => open_ent h) h
  have hall : ∀ x ∈ l, DpE w x.1 x.2 ∧ RbP x.2 := by
    rcases hw with ⟨h1, h2⟩ | ⟨ds, sp, h1, h2, h3⟩
    · subst h2; simp
    · intro x hx
      obtain ⟨i, hi⟩ := List.mem_iff_getElem?.1 hx
      obtain ⟨cs, d, hd, _, hdp, hb⟩ := h3 i x hi
      refine ⟨hdp, hb fun z hz => hL z ?_⟩
      rw [h1, DataW.weights, Try.underlying22]
      simp only [List.mem_cons, List.mem_append]
      exact .inr (.inl (mem_all (List.mem_of_getElem? hd) hz))
  refine ⟨l.map (·.2), ⟨l.map (·.1), ?_, ?_⟩, fun p hp => ?_⟩
  · rw [RdV, List.length_map, hl, evs, List.flatMap_map]
    exact hr
  · clear hr hl hw h hL
    induction l with
    | nil => exact .nil
    | cons x l ih => exact .cons (hall x (by simp)).1 (ih fun y hy => hall y (by simp [hy]))
  · obtain ⟨x, hx, rfl⟩ := List.mem_map.1 hp
    exact (hall x hx).2
end
theorem light_arg {H : Type} {ts ts' : List TypeId} {ds ds' : List (DataW H)} {j : Nat} {t : TypeId} {d : DataW H} (ht : (ts ++ ts')[j]? = some t) (hd : (ds ++ ds')[j]? = some d) (h : (DataW.weightsEach Try.prog (ts ++ ts') (ds ++ ds')).all (· ≤ reachBytes) = true) : Light1 t d := fun z hz => by
  have := List.all_eq_true.1 h z (mem_each ht hd hz)
  simpa using this
end Go.Proofs.Ytnjniganlielcaa
