/-
  The arguments of the statements, opened: inventories, rules, lists of rules.
-/
import Derived.Test.YtdijlakeonionaaQ35
import Derived.Lib.SmallJoins
import Derived.ShutString
import Derived.ChangeOld
import Derived.ChangeSame
import Derived.Deep.Slices
import Derived.Deep.Fields
namespace Go.Proofs.Ytdijlakeonionaa
open Go.ChangeShapes Go.WideShapes Go.ChangeAt Go.RowKit Go.Deep Go.Joins
theorem o_nil (w : World) (k : Nat) : Rd w k (.slice none 0 0) 0 [] := ⟨none, 0, rfl, Nat.le_refl _, by decide, by simp, fun h => absurd h (by decide)⟩
section
variable {H : Type} {enc : TypeId × Value → H} {w : World} {base : Nat} {spare : Nat → Bool} {held : Bool}
/-- a slice opened, element by element: R cells datum element -/
theorem o_rows {α : Type} (R : List Value → DataW H → α → Prop) (f : α → List Value) (k : Nat) (hk : 0 < k) (hf : ∀ a, (f a).length = k) {t e : TypeId} (ht : Try.prog.underlying t = some (.slice e)) (hC : Try.prog.cellsOf e = k)
    (hR : ∀ cs d x, R cs d x → cs = f x) (ho : ∀ (n : Nat) (cs : List Value) (y : DataW H × List MemPlace), DataW.trod enc Try.prog w base spare held n e cs = some y → ∃ x, R cs y.1 x)
    {fuel : Nat} {v : Value} {y : DataW H × List MemPlace} (h : DataW.trod enc Try.prog w base spare held fuel t [v] = some y) :
    ∃ (A : Option Addr) (n c : Nat) (l : List α), v = .slice A n c ∧ l.length = n ∧ Rd w k v n (l.flatMap f) ∧
      ((n = 0 ∧ l = []) ∨ ∃ (ds sp : List (DataW H)), y.1 = .slice ds sp ∧ ds.length = n ∧ ∀ (i : Nat) (x : α), l[i]? = some x → ∃ (cs : List Value) (d : DataW H), ds[i]? = some d ∧ R cs d x) := by
  rcases open_slice ht h with ⟨h0, hx⟩ | ⟨a, len, cap, m, n, D, Pl, hcs, hb, hl, hm, hmm, hx, hi⟩
  · simp at h0
    subst h0
    exact ⟨none, 0, 0, [], rfl, rfl, o_nil w k, .inl ⟨rfl, rfl⟩⟩
  · simp at hcs
    subst hcs
    have hlm : len ≤ m := by rw [hmm]; split <;> omega
    obtain ⟨l, hll, hlp⟩ := list_of len (fun i (x : α) => ∃ cs', w.cells? base (a.add (i * k)) k = some cs' ∧ R cs' (D i) x) (fun i hil => by
      obtain ⟨cs', hc, hx'⟩ := hi i (by omega)
      rw [hC] at hc
      obtain ⟨x, hxx⟩ := ho n cs' _ hx'
      exact ⟨x, cs', hc, hxx⟩)
    refine ⟨some a, len, cap, l, rfl, hll, ?_, .inr ⟨_, _, by rw [hx], by simp, fun i x hxl => ?_⟩⟩
    · refine ⟨some a, cap, rfl, hl, by unfold maxLen at hm; exact hm, by rw [flatN_len f k hf, hll], fun hn => ?_⟩
      have hcell : ∀ i, i < len → ∀ j, j < k → w.cell? (a.add (i * k + j)) = (l.flatMap f)[i * k + j]? := fun i hil j hj => by
        obtain ⟨cs', hc, hr⟩ := hlp i (l[i]'(by omega)) (List.getElem?_eq_getElem (by omega))
        obtain ⟨_, hcl, hat⟩ := World.cells?_some hc
        rw [flatN_at f k hf l i (by omega) j hj, ← hR _ _ _ hr, ← hat j hj, Go.Deep.add_add]
      obtain ⟨b, off, spot⟩ := a
      have hc0 := hcell 0 hn 0 hk
      have hfl := flatN_len f k hf l
      have hpos : 0 < (l.flatMap f).length := by rw [hfl, hll]; exact Nat.mul_pos hn hk
      rw [Nat.zero_mul, Nat.zero_add, List.getElem?_eq_getElem hpos] at hc0
      have hspot : spot = none := by simpa [Addr.add] using World.cell?_spot hc0
      subst hspot
      refine ⟨b, off, rfl, World.block_lt_of_cell? w _ hc0, fun j u hu => ?_⟩
      have hj := (List.getElem?_eq_some_iff.1 hu).1
      rw [hfl, hll] at hj
      have hdiv : j / k < len := (Nat.div_lt_iff_lt_mul hk).2 hj
      have hmod := Nat.mod_lt j hk
      have he : j / k * k + j % k = j := by rw [Nat.mul_comm]; exact Nat.div_add_mod j k
      have := hcell (j / k) hdiv (j % k) hmod
      rw [he, add_none] at this
      rw [this, hu]
    · obtain ⟨cs', hc, hr⟩ := hlp i x hxl
      have hil := (List.getElem?_eq_some_iff.1 hxl).1
      exact ⟨cs', D i, by simp [hll ▸ hil], hr⟩
theorem o_fields {e : TypeId} {fs : Array Field} (he : Try.prog.underlying e = some (.struct fs)) (hone : oneCellFields Try.prog fs = true) (hC : Try.prog.cellsOf e = fs.size) {fuel : Nat} {cs : List Value} {y : DataW H × List MemPlace} (h : DataW.trod enc Try.prog w base spare held fuel e cs = some y) :
    cs.length = fs.size ∧ ∃ (ys : List (DataW H × List MemPlace)) (n : Nat), y.1 = .agg (ys.map (·.1)) ∧ ys.length = fs.size ∧ ∀ (j : Nat) (f : Field), fs[j]? = some f → ∃ (v : Value) (x : DataW H × List MemPlace), cs[j]? = some v ∧ ys[j]? = some x ∧ DataW.trod enc Try.prog w base spare held n f.type [v] = some x := by
  obtain ⟨ys, n', _, hy, hlen, hyl, hf⟩ := DataW.trod_struct he h
  rw [hC] at hlen
  refine ⟨hlen, ys, n', by rw [hy], hyl, fun j f hj => ?_⟩
  obtain ⟨ho, hk⟩ := hone_of hone j f hj
  have hjl : j < fs.size := (Array.getElem?_eq_some_iff.1 hj).1
  have h1 := hf j f hj
  rw [ho, hk, List.drop_eq_getElem_cons (by omega), List.getElem?_eq_getElem (by omega)] at h1
  exact ⟨cs[j]'(by omega), _, List.getElem?_eq_getElem (by omega), List.getElem?_eq_getElem (by omega), h1⟩
theorem o_one {t e : TypeId} (ht : Try.prog.underlying t = some (.slice e)) {fuel : Nat} {cs : List Value} {y : DataW H × List MemPlace} (h : DataW.trod enc Try.prog w base spare held fuel t cs = some y) : ∃ u, cs = [u] := by
  rcases open_slice ht h with ⟨h0, _⟩ | ⟨a, len, cap, m, n, D, Pl, hcs, _⟩
  · exact ⟨_, h0⟩
  · exact ⟨_, hcs⟩
theorem o_int1 {fuel : Nat} {cs : List Value} {x : DataW H × List MemPlace} (h : DataW.trod enc Try.prog w base spare held fuel 3 cs = some x) : ∃ n : Int, cs = [.int .i64 n] := by
  obtain ⟨n, h1, _⟩ := DataW.trod_int Try.underlying3 h
  exact ⟨n, h1⟩
theorem o_two {cs : List Value} {a b : Value} (h : cs.length = 2) (h0 : cs[0]? = some a) (h1 : cs[1]? = some b) : cs = [a, b] := by
  match cs, h with
  | [x, y], _ => simp at h0 h1; rw [h0, h1]
theorem o_Ph {fuel : Nat} {v : Value} {y : DataW H × List MemPlace} (h : DataW.trod enc Try.prog w base spare held fuel 22 [v] = some y) : ∃ L, RdPh w v L := by
  obtain ⟨A, n, c, l, rfl, hl, hr, _⟩ := o_rows (α := PPh) (fun cs _ x => cs = phCells x) phCells 2 (by decide) (fun _ => rfl) Try.underlying22 (by kernel_rfl) (fun _ _ _ h => h) (fun n cs y h => by
    obtain ⟨hl, ys, n, hy, _, hf⟩ := o_fields Try.underlying62 (by kernel_rfl) (by kernel_rfl) h
    obtain ⟨v0, x0, c0, y0, t0⟩ := hf 0 _ rfl
    obtain ⟨v1, x1, c1, y1, t1⟩ := hf 1 _ rfl
    obtain ⟨s0, e0, _⟩ := DataW.trod_string Try.underlying9 t0
    obtain ⟨s1, e1⟩ := o_int1 t1
    simp at e0 e1
    subst e0 e1
    exact ⟨⟨s0, s1⟩, o_two hl c0 c1⟩) h
  exact ⟨l, by rw [RdPh, hl]; exact hr⟩
theorem o_Cls {fuel : Nat} {v : Value} {y : DataW H × List MemPlace} (h : DataW.trod enc Try.prog w base spare held fuel 26 [v] = some y) : ∃ L, RdC w v L := by
  obtain ⟨A, n, c, l, rfl, hl, hr, _⟩ := o_rows (α := PCls) (fun cs _ x => cs = clsCells x) clsCells 2 (by decide) (fun _ => rfl) Try.underlying26 (by kernel_rfl) (fun _ _ _ h => h) (fun n cs y h => by
    obtain ⟨hl, ys, n, hy, _, hf⟩ := o_fields Try.underlying66 (by kernel_rfl) (by kernel_rfl) h
    obtain ⟨v0, x0, c0, y0, t0⟩ := hf 0 _ rfl
    obtain ⟨v1, x1, c1, y1, t1⟩ := hf 1 _ rfl
    obtain ⟨s0, e0⟩ := o_int1 t0
    obtain ⟨s1, e1⟩ := o_int1 t1
    simp at e0 e1
    subst e0 e1
    exact ⟨⟨s0, s1⟩, o_two hl c0 c1⟩) h
  exact ⟨l, by rw [RdC, hl]; exact hr⟩
theorem o_Inv {fuel : Nat} {cs : List Value} {y : DataW H × List MemPlace} (h : DataW.trod enc Try.prog w base spare held fuel 24 cs = some y) : ∃ (v : Value) (L : List PPh), cs = [v] ∧ RdPh w v L := by
  obtain ⟨hl, ys, n, hy, _, hf⟩ := o_fields Try.underlying24 (by kernel_rfl) (by kernel_rfl) h
  obtain ⟨v0, x0, c0, y0, t0⟩ := hf 0 _ rfl
  obtain ⟨L, h1⟩ := o_Ph t0
  refine ⟨v0, L, ?_, h1⟩
  match cs, hl with
  | [x], _ => simp at c0; rw [c0]
def rlC (x : (Value × Value × Value × Value) × PRule) : List Value := [x.1.1, x.1.2.1, x.1.2.2.1, x.1.2.2.2, .bool x.2.beg, .bool x.2.fin]
theorem o_Rule {fuel : Nat} {cs : List Value} {y : DataW H × List MemPlace} (h : DataW.trod enc Try.prog w base spare held fuel 28 cs = some y) : ∃ x, cs = rlC x ∧ RdR w (.agg (rlC x).toArray) x.2 := by
  obtain ⟨hl, ys, n, hy, _, hf⟩ := o_fields Try.underlying28 (by kernel_rfl) (by kernel_rfl) h
  obtain ⟨v0, x0, c0, y0, t0⟩ := hf 0 _ rfl
  obtain ⟨v1, x1, c1, y1, t1⟩ := hf 1 _ rfl
  obtain ⟨v2, x2, c2, y2, t2⟩ := hf 2 _ rfl
  obtain ⟨v3, x3, c3, y3, t3⟩ := hf 3 _ rfl
  obtain ⟨v4, x4, c4, y4, t4⟩ := hf 4 _ rfl
  obtain ⟨v5, x5, c5, y5, t5⟩ := hf 5 _ rfl
  obtain ⟨fr, h0⟩ := open_I t0
  obtain ⟨tto, h1⟩ := open_I t1
  obtain ⟨lft, h2⟩ := o_Cls t2
  obtain ⟨rgt, h3⟩ := o_Cls t3
  obtain ⟨b4, e4, _⟩ := DataW.trod_bool Try.underlying4 t4
  obtain ⟨b5, e5, _⟩ := DataW.trod_bool Try.underlying4 t5
  simp at e4 e5
  subst e4 e5
  refine ⟨((v0, v1, v2, v3), ⟨fr, tto, lft, rgt, b4, b5⟩), ?_, v0, v1, v2, v3, rfl, h0, h1, h2, h3⟩
  match cs, hl with
  | [a0, a1, a2, a3, a4, a5], _ =>
    simp at c0 c1 c2 c3 c4 c5
    rw [c0, c1, c2, c3, c4, c5]
    rfl
theorem o_Rules {fuel : Nat} {v : Value} {y : DataW H × List MemPlace} (h : DataW.trod enc Try.prog w base spare held fuel 57 [v] = some y) : ∃ Rs, RdRs w v Rs := by
  obtain ⟨A, n, c, l, rfl, hl, hr, hw⟩ := o_rows (α := (Value × Value × Value × Value) × PRule) (fun cs _ x => cs = rlC x ∧ RdR w (.agg (rlC x).toArray) x.2) rlC 6 (by decide) (fun _ => rfl) Try.underlying57 (by kernel_rfl) (fun _ _ _ h => h.1) (fun n cs y h => o_Rule h) h
  have hmem : ∀ x, x ∈ l → RdR w (.agg (rlC x).toArray) x.2 := by
    intro x hx
    rcases hw with ⟨_, rfl⟩ | ⟨ds, sp, _, _, h3⟩
    · cases hx
    · obtain ⟨i, hi⟩ := List.mem_iff_getElem?.1 hx
      obtain ⟨cs, d, _, _, h5⟩ := h3 i x hi
      exact h5
  obtain ⟨A', c', he, h1, h2, h3, h4⟩ := hr
  cases he
  refine ⟨l.map (·.2), A, n, c, rfl, h1, h2, by rw [Hid, List.length_map, hl], fun k hk => ?_⟩
  obtain ⟨b, off, rfl, hb, hc⟩ := h4 (by omega)
  have hkl : k < l.length := by omega
  have hj : ∀ j u, j < 6 → (rlC l[k])[j]? = some u → w.cell? ⟨b, off + k * 6 + j, none⟩ = some u := fun j u hj hu => by
    rw [Nat.add_assoc]
    exact hc (k * 6 + j) u ((flatN_at rlC 6 (fun _ => rfl) l k hkl j hj).trans hu)
  refine ⟨b, off, _, _, _, _, l[k].2, rfl, hb, ?_, ⟨hj 0 _ (by omega) rfl, hj 1 _ (by omega) rfl, hj 2 _ (by omega) rfl, hj 3 _ (by omega) rfl, hj 4 _ (by omega) rfl, hj 5 _ (by omega) rfl⟩, hmem _ (List.getElem_mem hkl)⟩
  rw [Hid, ← List.map_drop, ← List.map_drop, List.drop_eq_getElem_cons hkl]
  rfl
set_option maxRecDepth 100000 in
theorem open_V {r : Go.Reach} {b0 : Nat} {v : Value} {d : DataW H} {p : List MemPlace} (hv : Value.okWide Try.prog w r b0 24 v) (h : DataW.Trod enc Try.prog w base spare held 24 v d p) : ∃ I, RdV w v I := by
  obtain ⟨cs, rfl, _⟩ := okWide_struct Try.underlying24 hv
  obtain ⟨fuel, h⟩ := h
  obtain ⟨u, L, hcs, hL⟩ := o_Inv h
  obtain rfl : cs = #[u] := by
    have : cs.toList = [u] := hcs
    rw [← Array.toList_inj]; exact this
  exact ⟨L, u, rfl, hL⟩
set_option maxRecDepth 100000 in
theorem open_R {r : Go.Reach} {b0 : Nat} {v : Value} {d : DataW H} {p : List MemPlace} (hv : Value.okWide Try.prog w r b0 28 v) (h : DataW.Trod enc Try.prog w base spare held 28 v d p) : ∃ R, RdR w v R := by
  obtain ⟨cs, rfl, _⟩ := okWide_struct Try.underlying28 hv
  obtain ⟨fuel, h⟩ := h
  obtain ⟨x, hcs, hx⟩ := o_Rule h
  obtain rfl : cs = (rlC x).toArray := by
    have : cs.toList = rlC x := hcs
    rw [← this]
  exact ⟨x.2, hx⟩
set_option maxRecDepth 100000 in
theorem open_Bh {r : Go.Reach} {b0 : Nat} {v : Value} {d : DataW H} {p : List MemPlace} (hv : Value.okWide Try.prog w r b0 38 v) (h : DataW.Trod enc Try.prog w base spare held 38 v d p) : ∃ (u : Value) (l : List Int) (len : Int), v = .agg #[u, .int .i64 len] ∧ RdI w u l := by
  obtain ⟨cs, rfl, _⟩ := okWide_struct Try.underlying38 hv
  obtain ⟨fuel, h⟩ := h
  obtain ⟨hl, ys, n, hy, _, hf⟩ := o_fields Try.underlying38 (by kernel_rfl) (by kernel_rfl) h
  obtain ⟨v0, x0, c0, y0, t0⟩ := hf 0 _ rfl
  obtain ⟨v1, x1, c1, y1, t1⟩ := hf 1 _ rfl
  obtain ⟨l, h0⟩ := open_I t0
  obtain ⟨s1, e1⟩ := o_int1 t1
  simp at e1
  subst e1
  obtain rfl : cs = #[v0, .int .i64 s1] := by
    have : cs.toList = [v0, .int .i64 s1] := o_two hl c0 c1
    rw [← Array.toList_inj]; exact this
  exact ⟨v0, l, s1, rfl, h0⟩
set_option maxRecDepth 100000 in
theorem open_Pr {r : Go.Reach} {b0 : Nat} {v : Value} {d : DataW H} {p : List MemPlace} (hv : Value.okWide Try.prog w r b0 45 v) (h : DataW.Trod enc Try.prog w base spare held 45 v d p) : ∃ (u x : Value) (xs ys : List Int), v = .agg #[u, x] ∧ RdI w u xs ∧ RdI w x ys := by
  obtain ⟨cs, rfl, _⟩ := okWide_struct Try.underlying45 hv
  obtain ⟨fuel, h⟩ := h
  obtain ⟨hl, ys, n, hy, _, hf⟩ := o_fields Try.underlying45 (by kernel_rfl) (by kernel_rfl) h
  obtain ⟨v0, x0, c0, y0, t0⟩ := hf 0 _ rfl
  obtain ⟨v1, x1, c1, y1, t1⟩ := hf 1 _ rfl
  obtain ⟨l, h0⟩ := open_I t0
  obtain ⟨l', h1⟩ := open_I t1
  obtain rfl : cs = #[v0, v1] := by
    have : cs.toList = [v0, v1] := o_two hl c0 c1
    rw [← Array.toList_inj]; exact this
  exact ⟨v0, v1, l, l', rfl, h0, h1⟩
end
end Go.Proofs.Ytdijlakeonionaa
