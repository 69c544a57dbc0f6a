/-
  Plain laws of transducers: Star, Compose. No program in sight.
-/
import Derived.Test.YtmeppkkoepmlnaaPl1
namespace Go.Proofs.Ytmeppkkoepmlnaa

/-! Star -/
def starF (a : PFst) : PFst := ⟨1 + a.states, a.arcs.map (shArc 1) ++ [jumpArc 0 1] ++ a.final.map (fun s => jumpArc (1 + s) 0), [0]⟩
/-- a pair that consists of any number of pairs -/
def Rep (a : PFst) (xs ys : List Int) : Prop := ∃ L : List (List Int × List Int), (∀ p, p ∈ L → Acc a p.1 p.2) ∧ L.flatMap Prod.fst = xs ∧ L.flatMap Prod.snd = ys
theorem Rep.nil (a : PFst) : Rep a [] [] := ⟨[], by simp, rfl, rfl⟩
theorem Rep.cons {a : PFst} {x1 y1 x2 y2 : List Int} (h : Acc a x1 y1) (h' : Rep a x2 y2) : Rep a (x1 ++ x2) (y1 ++ y2) := by
  obtain ⟨L, h1, rfl, rfl⟩ := h'
  refine ⟨(x1, y1) :: L, ?_, rfl, rfl⟩
  intro p hp
  rcases List.mem_cons.1 hp with rfl | hp
  · exact h
  · exact h1 p hp
theorem star_good {a : PFst} (ha : Good a) (hs : a.states ≤ 1000) (hl : a.arcs.length ≤ 10000) (hf : a.final.length ≤ 1100) : Good (starF a) := by
  have a1 := ha.s1
  refine ⟨by simp only [starF]; omega, by simp only [starF]; omega, by simp [starF]; omega, ?_, by simp [starF], by simp [starF]; omega⟩
  intro x hx
  simp only [starF, List.mem_append, List.mem_singleton] at hx
  rcases hx with (hx | rfl) | hx
  · exact sh_ok ha.arc (by omega) (by simp only [starF]; omega) x hx
  · simp only [ArcOk, jumpArc, starF]; omega
  · obtain ⟨f, hf, rfl⟩ := List.mem_map.1 hx
    have := ha.fin f hf
    simp only [ArcOk, jumpArc, starF]; omega
theorem star_acc {a : PFst} (ha : Good a) (hs : a.states ≤ 1000) (hl : a.arcs.length ≤ 10000) (hf : a.final.length ≤ 1100) (xs ys : List Int) : Acc (starF a) xs ys ↔ Rep a xs ys := by
  have a1 := ha.s1
  rw [acc_iff (star_good ha hs hl hf)]
  constructor
  · rintro ⟨q, hq, hp⟩
    simp only [starF, List.mem_singleton] at hq
    subst hq
    have key := Path.induct (P := fun s xs ys => (s = 0 → Rep a xs ys) ∧ (1 ≤ s → ∃ f x1 y1 x2 y2, f ∈ a.final ∧ xs = x1 ++ x2 ∧ ys = y1 ++ y2 ∧ Path a.arcs (s - 1) f x1 y1 ∧ Rep a x2 y2)) ⟨fun _ => Rep.nil a, fun h => by omega⟩ ?_ hp
    · exact key.1 rfl
    · intro x hx us vs hpx ih
      simp only [starF, List.mem_append, List.mem_singleton] at hx
      rcases hx with (hx | rfl) | hx
      · obtain ⟨y, hy, rfl⟩ := List.mem_map.1 hx
        have hy1 := (ha.arc y hy).1
        have hy2 := (ha.arc y hy).2.1
        refine ⟨fun h => by simp only [shArc] at h; omega, fun _ => ?_⟩
        obtain ⟨f, x1, y1, x2, y2, h1, rfl, rfl, h4, h5⟩ := ih.2 (by simp only [shArc]; omega)
        refine ⟨f, _, _, x2, y2, h1, (List.append_assoc _ _ _).symm, (List.append_assoc _ _ _).symm, ?_, h5⟩
        simp only [shArc, Int.add_sub_cancel] at h4 ⊢
        exact Path.cons hy h4
      · refine ⟨fun _ => ?_, fun h => by simp only [jumpArc] at h; omega⟩
        obtain ⟨f, x1, y1, x2, y2, h1, rfl, rfl, h4, h5⟩ := ih.2 (by simp [jumpArc])
        simp only [jumpArc, sym, if_true, List.nil_append] at h4 ⊢
        exact Rep.cons ((acc_iff ha _ _).2 ⟨f, h1, by simpa using h4⟩) h5
      · obtain ⟨f, hf, rfl⟩ := List.mem_map.1 hx
        have := ha.fin f hf
        refine ⟨fun h => by simp only [jumpArc] at h; omega, fun _ => ?_⟩
        refine ⟨f, [], [], us, vs, hf, by simp [jumpArc, sym], by simp [jumpArc, sym], ?_, ih.1 rfl⟩
        have e : (jumpArc (1 + f) 0).fr - 1 = f := by simp only [jumpArc]; omega
        rw [e]
        exact Path.nil _ _
  · rintro ⟨L, hL, rfl, rfl⟩
    refine ⟨0, by simp [starF], ?_⟩
    induction L with
    | nil => exact Path.nil _ _
    | cons p L ih =>
      have ih := ih fun r hr => hL r (by simp [hr])
      obtain ⟨f, hf, hp⟩ := (acc_iff ha _ _).1 (hL p (by simp))
      have h1 := sh_path _ 1 hp
      rw [Int.zero_add] at h1
      have h2 : Path (starF a).arcs 1 (f + 1) p.1 p.2 := h1.sub (fun x hx => by simp only [starF, List.mem_append]; exact .inl (.inl hx))
      have h3 := h2.trans (jump_path (p := f + 1) (q := 0) (by simp only [starF, List.mem_append]; refine .inr (List.mem_map.2 ⟨f, hf, ?_⟩); rw [Int.add_comm]) ih)
      exact jump_path (p := 0) (q := 1) (by simp [starF]) h3
/-- the statement's own search -/
theorem rep_iff (a : PFst) (xs ys : List Int) : Rep a xs ys ↔ (xs = [] ∧ ys = []) ∨ ∃ i k, i ≤ xs.length ∧ k ≤ ys.length ∧ 0 < i + k ∧ Acc a (xs.take i) (ys.take k) ∧ Rep a (xs.drop i) (ys.drop k) := by
  constructor
  · rintro ⟨L, hL, rfl, rfl⟩
    induction L with
    | nil => exact .inl ⟨rfl, rfl⟩
    | cons p L ih =>
      have hL' : ∀ r, r ∈ L → Acc a r.1 r.2 := fun r hr => hL r (by simp [hr])
      by_cases h : p.1.length + p.2.length = 0
      · have e1 : p.1 = [] := List.length_eq_zero_iff.1 (by omega)
        have e2 : p.2 = [] := List.length_eq_zero_iff.1 (by omega)
        have := ih hL'
        simpa [e1, e2] using this
      · refine .inr ⟨p.1.length, p.2.length, by simp, by simp, by omega, ?_, ?_⟩
        · simpa using hL p (by simp)
        · have hr : Rep a (L.flatMap Prod.fst) (L.flatMap Prod.snd) := ⟨L, hL', rfl, rfl⟩
          simpa using hr
  · rintro (⟨rfl, rfl⟩ | ⟨i, k, _, _, _, h1, h2⟩)
    · exact Rep.nil a
    · have := Rep.cons h1 h2
      rwa [List.take_append_drop, List.take_append_drop] at this

/-! Compose -/
section
variable (a b : PFst)
def put (m : Int) (p q i o p2 q2 : Int) : PArc := ⟨p * m + q, i, o, p2 * m + q2⟩
/-- an arc is one of a composition -/
def InComp (z : PArc) : Prop :=
  (∃ x, x ∈ a.arcs ∧ ∃ y, y ∈ b.arcs ∧ x.out ≠ 0 ∧ x.out = y.inp ∧ z = put b.states x.fr y.fr x.inp y.out x.tgt y.tgt) ∨
  (∃ x, x ∈ a.arcs ∧ x.out = 0 ∧ ∃ q, 0 ≤ q ∧ q < b.states ∧ z = put b.states x.fr q x.inp 0 x.tgt q) ∨
  (∃ y, y ∈ b.arcs ∧ y.inp = 0 ∧ ∃ p, 0 ≤ p ∧ p < a.states ∧ z = put b.states p y.fr 0 y.out p y.tgt)
/-- a transducer whose arcs and final states are those of a composition, in whatever order -/
structure IsComp (F : PFst) : Prop where
  states : F.states = a.states * b.states
  arcs : ∀ z, z ∈ F.arcs ↔ InComp a b z
  final : ∀ z, z ∈ F.final ↔ ∃ p, p ∈ a.final ∧ ∃ q, q ∈ b.final ∧ z = p * b.states + q
end
theorem pq_inj {m p q p' q' : Int} (h0 : 0 ≤ q) (h1 : q < m) (h0' : 0 ≤ q') (h1' : q' < m) (h : p * m + q = p' * m + q') : p = p' ∧ q = q' := by
  have e1 : (p * m + q) / m = p := by rw [Int.add_comm, Int.add_mul_ediv_right _ _ (by omega), Int.ediv_eq_zero_of_lt h0 h1]; omega
  have e2 : (p' * m + q') / m = p' := by rw [Int.add_comm, Int.add_mul_ediv_right _ _ (by omega), Int.ediv_eq_zero_of_lt h0' h1']; omega
  have e3 : p = p' := by rw [← e1, ← e2, h]
  subst e3
  exact ⟨rfl, by omega⟩
theorem pq_lt {n m p q : Int} (h0 : 0 ≤ q) (h1 : q < m) (hp : 0 ≤ p) (hp1 : p < n) : 0 ≤ p * m + q ∧ p * m + q < n * m := by
  have h2 : 0 ≤ p * m := Int.mul_nonneg hp (by omega)
  have h3 : (p + 1) * m ≤ n * m := Int.mul_le_mul_of_nonneg_right (by omega) (by omega)
  rw [Int.add_mul] at h3
  omega
theorem comp_arc_ok {a b : PFst} (ha : Good a) (hb : Good b) {z : PArc} (h : InComp a b z) : ArcOk (a.states * b.states) z := by
  rcases h with ⟨x, hx, y, hy, _, _, rfl⟩ | ⟨x, hx, _, q, h0, h1, rfl⟩ | ⟨y, hy, _, p, h0, h1, rfl⟩
  · obtain ⟨a1, a2, a3, a4⟩ := ha.arc x hx
    obtain ⟨b1, b2, b3, b4⟩ := hb.arc y hy
    exact ⟨pq_lt b1.1 b1.2 a1.1 a1.2, pq_lt b2.1 b2.2 a2.1 a2.2, a3, b4⟩
  · obtain ⟨a1, a2, a3, a4⟩ := ha.arc x hx
    exact ⟨pq_lt h0 h1 a1.1 a1.2, pq_lt h0 h1 a2.1 a2.2, a3, by simp only [put]; omega⟩
  · obtain ⟨b1, b2, b3, b4⟩ := hb.arc y hy
    exact ⟨pq_lt b1.1 b1.2 h0 h1, pq_lt b2.1 b2.2 h0 h1, by simp only [put]; omega, b4⟩
theorem sym_zero : sym 0 = [] := rfl
theorem sym_cancel {x y : Int} {l m : List Int} (hx : x ≠ 0) (hy : y ≠ 0) (h : sym x ++ l = sym y ++ m) : x = y ∧ l = m := by
  simp only [sym, hx, hy, if_false, List.cons_append, List.nil_append, List.cons.injEq] at h
  exact h
/-- what a composition accepts -/
theorem comp_path_to {a b F : PFst} (hb : Good b) (hF : IsComp a b F) {pf qf s : Int} (hq0 : 0 ≤ qf) (hq1 : qf < b.states) {xs zs : List Int} (h : Path F.arcs s (pf * b.states + qf) xs zs) :
    ∀ p q, s = p * b.states + q → 0 ≤ q → q < b.states → ∃ ys, Path a.arcs p pf xs ys ∧ Path b.arcs q qf ys zs := by
  refine Path.induct (P := fun s xs zs => ∀ p q, s = p * b.states + q → 0 ≤ q → q < b.states → ∃ ys, Path a.arcs p pf xs ys ∧ Path b.arcs q qf ys zs) ?_ ?_ h
  · intro p q he h0 h1
    obtain ⟨rfl, rfl⟩ := pq_inj h0 h1 hq0 hq1 he.symm
    exact ⟨[], Path.nil _ _, Path.nil _ _⟩
  · intro z hz us vs _ ih p q he h0 h1
    rcases (hF.arcs z).1 hz with ⟨x, hx, y, hy, hne, heq, rfl⟩ | ⟨x, hx, hx0, q', g0, g1, rfl⟩ | ⟨y, hy, hy0, p', g0, g1, rfl⟩
    · obtain ⟨b1, b2, b3, b4⟩ := hb.arc y hy
      obtain ⟨rfl, rfl⟩ := pq_inj h0 h1 b1.1 b1.2 he.symm
      obtain ⟨ys, h1, h2⟩ := ih x.tgt y.tgt rfl b2.1 b2.2
      refine ⟨sym x.out ++ ys, Path.cons hx h1, ?_⟩
      rw [heq]
      exact Path.cons hy h2
    · obtain ⟨rfl, rfl⟩ := pq_inj h0 h1 g0 g1 he.symm
      obtain ⟨ys, h1, h2⟩ := ih x.tgt q rfl g0 g1
      refine ⟨ys, ?_, ?_⟩
      · have := Path.cons hx h1
        rw [hx0] at this
        exact this
      · simpa [put, sym] using h2
    · obtain ⟨b1, b2, b3, b4⟩ := hb.arc y hy
      obtain ⟨rfl, rfl⟩ := pq_inj h0 h1 b1.1 b1.2 he.symm
      obtain ⟨ys, h1, h2⟩ := ih p y.tgt rfl b2.1 b2.2
      refine ⟨ys, ?_, ?_⟩
      · simpa [put, sym] using h1
      · have := Path.cons hy h2
        rw [hy0] at this
        exact this
theorem comp_path_of {a b F : PFst} (ha : Good a) (hb : Good b) (hF : IsComp a b F) {pf qf : Int} : ∀ (n : Nat) (pa pb : List PArc) (p q : Int), pa.length + pb.length ≤ n → (∀ x, x ∈ pa → x ∈ a.arcs) → (∀ x, x ∈ pb → x ∈ b.arcs) → chain p pa pf → chain q pb qf → outs pa = ins pb →
    0 ≤ p → p < a.states → 0 ≤ q → q < b.states → Path F.arcs (p * b.states + q) (pf * b.states + qf) (ins pa) (outs pb) := by
  intro n
  induction n with
  | zero =>
    intro pa pb p q hn _ _ h1 h2 _ _ _ _ _
    have e1 : pa = [] := List.length_eq_zero_iff.1 (by omega)
    have e2 : pb = [] := List.length_eq_zero_iff.1 (by omega)
    subst e1 e2
    cases h1; cases h2
    exact Path.nil _ _
  | succ n ih =>
    intro pa pb p q hn ma mb h1 h2 he p0 p1 q0 q1
    have takeA : ∀ x pa', pa = x :: pa' → x.out = 0 → Path F.arcs (p * b.states + q) (pf * b.states + qf) (ins pa) (outs pb) := by
      rintro x pa' rfl hx0
      obtain ⟨rfl, h1⟩ := h1
      have hx := ma x (by simp)
      obtain ⟨a1, a2, a3, a4⟩ := ha.arc x hx
      have := ih pa' pb x.tgt q (by simp at hn; omega) (fun y hy => ma y (by simp [hy])) mb h1 h2 (by simpa [outs, hx0, sym] using he) a2.1 a2.2 q0 q1
      have hz : put b.states x.fr q x.inp 0 x.tgt q ∈ F.arcs := (hF.arcs _).2 (.inr (.inl ⟨x, hx, hx0, q, q0, q1, rfl⟩))
      have := Path.cons hz this
      simpa [put, sym_zero, ins, outs] using this
    have takeB : ∀ y pb', pb = y :: pb' → y.inp = 0 → Path F.arcs (p * b.states + q) (pf * b.states + qf) (ins pa) (outs pb) := by
      rintro y pb' rfl hy0
      obtain ⟨rfl, h2⟩ := h2
      have hy := mb y (by simp)
      obtain ⟨a1, a2, a3, a4⟩ := hb.arc y hy
      have := ih pa pb' p y.tgt (by simp at hn; omega) ma (fun x hx => mb x (by simp [hx])) h1 h2 (by simpa [ins, hy0, sym] using he) p0 p1 a2.1 a2.2
      have hz : put b.states p y.fr 0 y.out p y.tgt ∈ F.arcs := (hF.arcs _).2 (.inr (.inr ⟨y, hy, hy0, p, p0, p1, rfl⟩))
      have := Path.cons hz this
      simpa [put, sym_zero, ins, outs] using this
    match pa, pb with
    | [], [] => cases h1; cases h2; exact Path.nil _ _
    | [], y :: pb' =>
      refine takeB y pb' rfl ?_
      apply Classical.byContradiction
      intro hy0
      simp [outs, ins, sym, hy0] at he
    | x :: pa', [] =>
      refine takeA x pa' rfl ?_
      apply Classical.byContradiction
      intro hy0
      simp [outs, ins, sym, hy0] at he
    | x :: pa', y :: pb' =>
      by_cases hx0 : x.out = 0
      · exact takeA x pa' rfl hx0
      by_cases hy0 : y.inp = 0
      · exact takeB y pb' rfl hy0
      obtain ⟨rfl, h1⟩ := h1
      obtain ⟨rfl, h2⟩ := h2
      have hx := ma x (by simp)
      have hy := mb y (by simp)
      obtain ⟨a1, a2, a3, a4⟩ := ha.arc x hx
      obtain ⟨b1, b2, b3, b4⟩ := hb.arc y hy
      obtain ⟨e1, e2⟩ := sym_cancel (l := outs pa') (m := ins pb') hx0 hy0 (by simpa [outs, ins] using he)
      have hz : put b.states x.fr y.fr x.inp y.out x.tgt y.tgt ∈ F.arcs := (hF.arcs _).2 (.inl ⟨x, hx, y, hy, hx0, e1, rfl⟩)
      have := ih pa' pb' x.tgt y.tgt (by simp at hn; omega) (fun z hz => ma z (by simp [hz])) (fun z hz => mb z (by simp [hz])) h1 h2 e2 a2.1 a2.2 b2.1 b2.2
      have := Path.cons hz this
      simpa [put, ins, outs] using this
theorem comp_path {a b F : PFst} (ha : Good a) (hb : Good b) (hF : IsComp a b F) {p q pf qf : Int} (p0 : 0 ≤ p) (p1 : p < a.states) (q0 : 0 ≤ q) (q1 : q < b.states) (r0 : 0 ≤ qf) (r1 : qf < b.states) (xs zs : List Int) :
    Path F.arcs (p * b.states + q) (pf * b.states + qf) xs zs ↔ ∃ ys, Path a.arcs p pf xs ys ∧ Path b.arcs q qf ys zs := by
  refine ⟨fun h => comp_path_to hb hF r0 r1 h p q rfl q0 q1, ?_⟩
  rintro ⟨ys, ⟨pa, m1, c1, e1, e2⟩, pb, m2, c2, e3, e4⟩
  have := comp_path_of ha hb hF _ pa pb p q (Nat.le_refl _) m1 m2 c1 c2 (by rw [e2, e3]) p0 p1 q0 q1
  rwa [e1, e4] at this
theorem comp_acc {a b F : PFst} (ha : Good a) (hb : Good b) (hF : IsComp a b F) (hG : Good F) (xs zs : List Int) : Acc F xs zs ↔ ∃ ys, Acc a xs ys ∧ Acc b ys zs := by
  have a1 := ha.s1
  have b1 := hb.s1
  rw [acc_iff hG]
  constructor
  · rintro ⟨f, hf, hp⟩
    obtain ⟨pf, h1, qf, h2, rfl⟩ := (hF.final f).1 hf
    have hq := hb.fin qf h2
    have h3 : Path F.arcs (0 * b.states + 0) (pf * b.states + qf) xs zs := by simpa using hp
    obtain ⟨ys, h4, h5⟩ := (comp_path ha hb hF (by omega) (by omega) (by omega) (by omega) hq.1 hq.2 xs zs).1 h3
    exact ⟨ys, (acc_iff ha _ _).2 ⟨pf, h1, h4⟩, (acc_iff hb _ _).2 ⟨qf, h2, h5⟩⟩
  · rintro ⟨ys, h1, h2⟩
    obtain ⟨pf, h1, h4⟩ := (acc_iff ha _ _).1 h1
    obtain ⟨qf, h2, h5⟩ := (acc_iff hb _ _).1 h2
    have hq := hb.fin qf h2
    have := (comp_path ha hb hF (p := 0) (q := 0) (by omega) (by omega) (by omega) (by omega) hq.1 hq.2 xs zs).2 ⟨ys, h4, h5⟩
    exact ⟨pf * b.states + qf, (hF.final _).2 ⟨pf, h1, qf, h2, rfl⟩, by simpa using this⟩
/-- two transducers with the same arcs and final states accept the same -/
theorem acc_same {F G : PFst} (h1 : ∀ z, z ∈ F.arcs ↔ z ∈ G.arcs) (h2 : ∀ z, z ∈ F.final ↔ z ∈ G.final) (xs ys : List Int) : Acc F xs ys ↔ Acc G xs ys := by
  constructor
  · rintro ⟨h3, h4, q, hq, hp⟩
    exact ⟨h3, h4, q, (h2 q).1 hq, hp.sub fun a ha => (h1 a).1 ha⟩
  · rintro ⟨h3, h4, q, hq, hp⟩
    exact ⟨h3, h4, q, (h2 q).2 hq, hp.sub fun a ha => (h1 a).2 ha⟩
end Go.Proofs.Ytmeppkkoepmlnaa
