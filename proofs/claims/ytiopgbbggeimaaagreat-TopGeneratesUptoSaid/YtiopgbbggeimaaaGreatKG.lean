/-
  A language in memory, its slices as values; what Light grants.
-/
import Derived.Test.YtiopgbbggeimaaaGreatKC
import Derived.Test.YtiopgbbggeimaaaGreatKP1
namespace Go.Proofs.YtiopgbbggeimaaaGreat
open Go.ChangeShapes Go.WideShapes Go.ChangeAt Go.RowKit
structure GV where
  i : Sl
  on : ByteArray
  u : Sl
  l : Sl
  r : Sl
  q : Int
  s : Sl
  f : Sl
  x : Sl
structure DpG (w : World) (g : GV) (G : PLang) : Prop where
  on : g.on = G.ort.name
  q : g.q = G.net.states
  i : RdPh w (.slice g.i.A g.i.n g.i.c) G.inv
  u : RdU w (.slice g.u.A g.u.n g.u.c) G.ort.units
  l : RdSS w (.slice g.l.A g.l.n g.l.c) G.ort.letters
  r : RdRs w (.slice g.r.A g.r.n g.r.c) G.rules
  s : RdSN w (.slice g.s.A g.s.n g.s.c) G.net.steps
  f : RdI w (.slice g.f.A g.f.n g.f.c) G.net.final
  x : RdP w (.slice g.x.A g.x.n g.x.c) G.lex
section
variable {w w' : World} {g : GV} {G : PLang}
theorem DpG.below (h : DpG w g G) (hb : Below w.heap.size w w') : DpG w' g G := ⟨h.on, h.q, h.i.below hb, h.u.below hb, h.l.below hb, h.r.below hb, h.s.below hb, h.f.below hb, h.x.below hb⟩
theorem DpG.inv (h : DpG w g G) : RdVQ w (.agg #[.slice g.i.A g.i.n g.i.c]) G.inv := ⟨_, rfl, h.i⟩
theorem DpG.ort (h : DpG w g G) : RdO w (.agg #[.string g.on, .slice g.u.A g.u.n g.u.c, .slice g.l.A g.l.n g.l.c]) G.ort := ⟨_, _, by rw [h.on], h.u, h.l⟩
theorem DpG.net (h : DpG w g G) : RdN w (.agg #[.int .i64 g.q, .slice g.s.A g.s.n g.s.c, .slice g.f.A g.f.n g.f.c]) G.net := ⟨_, _, by rw [h.q], h.s, h.f⟩
theorem DpG.ni (h : DpG w g G) : g.i.n = G.inv.length := rd_len h.i
theorem DpG.nu (h : DpG w g G) : g.u.n = G.ort.units.length := by
  obtain ⟨us, _, h1, _⟩ := h.u
  exact rd_len h1
theorem DpG.nr (h : DpG w g G) : g.r.n = G.rules.length := by
  obtain ⟨_, _, _, he, _, _, h1, _⟩ := h.r
  cases he
  exact h1.out.symm
theorem DpG.nx (h : DpG w g G) : g.x.n = G.lex.length := by
  obtain ⟨A, n, c, he, h1⟩ := h.x.opn
  cases he
  exact h1.symm
end
theorem RdG.gv {w : World} {v : Value} {G : PLang} (h : RdG w v G) : ∃ g : GV, v = .agg #[.slice g.i.A g.i.n g.i.c, .string g.on, .slice g.u.A g.u.n g.u.c, .slice g.l.A g.l.n g.l.c, .slice g.r.A g.r.n g.r.c, .int .i64 g.q, .slice g.s.A g.s.n g.s.c, .slice g.f.A g.f.n g.f.c, .slice g.x.A g.x.n g.x.c] ∧ DpG w g G := by
  obtain ⟨A0, A2, A3, A4, A6, A7, A8, n0, c0, n2, c2, n3, c3, n4, c4, n6, c6, n7, c7, n8, c8, s, q, rfl⟩ := id h.form
  obtain ⟨v0, v2, v3, v4, v6, v7, v8, he, h0, h2, h3, h4, h6, h7, h8⟩ := h
  cases he
  exact ⟨⟨⟨A0, n0, c0⟩, _, ⟨A2, n2, c2⟩, ⟨A3, n3, c3⟩, ⟨A4, n4, c4⟩, _, ⟨A6, n6, c6⟩, ⟨A7, n7, c7⟩, ⟨A8, n8, c8⟩⟩, rfl, rfl, rfl, h0, h2, h3, h4, h6, h7, h8⟩
/-- a block is a language -/
def LgBlk (w : World) (B : Nat) (g : GV) : Prop := w.heap[B]? = some (.cells #[.slice g.i.A g.i.n g.i.c, .string g.on, .slice g.u.A g.u.n g.u.c, .slice g.l.A g.l.n g.l.c, .slice g.r.A g.r.n g.r.c, .int .i64 g.q, .slice g.s.A g.s.n g.s.c, .slice g.f.A g.f.n g.f.c, .slice g.x.A g.x.n g.x.c] 36 (0, 0))
section
variable {w w' : World} {B : Nat} {g : GV}
theorem LgBlk.lt (h : LgBlk w B g) : B < w.heap.size := (Array.getElem?_eq_some_iff.1 h).1
theorem LgBlk.below (h : LgBlk w B g) (hb : Below w.heap.size w w') : LgBlk w' B g := (hb.block B h.lt).trans h
theorem LgBlk.facts (h : LgBlk w B g) : w.cell? ⟨B, 0, none⟩ = some (.slice g.i.A g.i.n g.i.c) ∧ w.cell? ⟨B, 1, none⟩ = some (.string g.on) ∧ w.cell? ⟨B, 2, none⟩ = some (.slice g.u.A g.u.n g.u.c) ∧ w.cell? ⟨B, 3, none⟩ = some (.slice g.l.A g.l.n g.l.c) ∧ w.cell? ⟨B, 4, none⟩ = some (.slice g.r.A g.r.n g.r.c) ∧
    w.cell? ⟨B, 5, none⟩ = some (.int .i64 g.q) ∧ w.cell? ⟨B, 6, none⟩ = some (.slice g.s.A g.s.n g.s.c) ∧ w.cell? ⟨B, 7, none⟩ = some (.slice g.f.A g.f.n g.f.c) ∧ w.cell? ⟨B, 8, none⟩ = some (.slice g.x.A g.x.n g.x.c) ∧ B < w.heap.size := by
  refine ⟨?_, ?_, ?_, ?_, ?_, ?_, ?_, ?_, ?_, h.lt⟩ <;> rw [cell_of_row w B _ _ _ (0, 0) h] <;> rfl
end
/-! what Check of a net grants -/
theorem stB_of {n q : Int} (h : stB n q = true) : 0 ≤ q ∧ q < n := by
  simpa [stB] using h
theorem steps_good {n : Int} : ∀ (l b : List PStep), stepsErr n b l = 0 → (∀ s, s ∈ l → StepOk n s ∧ s ∉ b) ∧ l.Pairwise (· ≠ ·)
  | [], _, _ => ⟨fun _ h => (by cases h), List.Pairwise.nil⟩
  | s :: l, b, h => by
    unfold stepsErr at h
    split at h
    · rename_i h1
      rw [Bool.and_eq_true] at h1
      split at h
      · cases h
      · rename_i h2
        split at h
        · cases h
        · rename_i h3
          obtain ⟨h4, h5⟩ := steps_good l _ h
          refine ⟨fun x hx => ?_, List.Pairwise.cons (fun x hx => ?_) h5⟩
          · rcases List.mem_cons.1 hx with rfl | hx
            · have h6 := stB_of h1.1
              have h7 := stB_of h1.2
              exact ⟨⟨h6.1, h6.2, h7.1, h7.2, by omega, by omega⟩, h3⟩
            · obtain ⟨h8, h9⟩ := h4 x hx
              exact ⟨h8, fun hb => h9 (List.mem_append_left _ hb)⟩
          · rintro rfl
            exact (h4 _ hx).2 (by simp)
    · cases h
theorem ord_good : ∀ (l : List Int), ordE l = 0 → l.Pairwise (· < ·)
  | [], _ => List.Pairwise.nil
  | [_], _ => by simp
  | x :: y :: l, h => by
    unfold ordE at h
    split at h
    · cases h
    · have h1 := ord_good (y :: l) h
      refine List.Pairwise.cons (fun z hz => ?_) h1
      rcases List.mem_cons.1 hz with rfl | hz
      · omega
      · have := (List.pairwise_cons.1 h1).1 z hz
        omega
theorem fin_good {n : Int} : ∀ (l : List Int), finE n l = 0 → ∀ q, q ∈ l → 0 ≤ q ∧ q < n
  | [], _, _, h => by cases h
  | a :: l, h, q, hq => by
    unfold finE at h
    split at h
    · rename_i h1
      rcases List.mem_cons.1 hq with rfl | hq
      · exact stB_of h1
      · exact fin_good l h q hq
    · cases h
theorem chk_good {N : PNet} (h : (chkN N == 0) = true) : GoodN N := by
  rw [beq_iff_eq] at h
  unfold chkN at h
  split at h
  · cases h
  · split at h
    · cases h
    · split at h
      · rename_i h3; exact absurd h h3
      · rename_i h3
        split at h
        · cases h
        · rename_i h4
          have h5 := steps_good N.steps [] (by simpa using h3)
          exact ⟨by omega, by omega, by omega, fun s hs => (h5.1 s hs).1, h5.2, ord_good _ (by simpa using h4), fin_good _ h⟩
def exN : PNet := ⟨3, [⟨0, 1, 1⟩, ⟨1, 2, 1⟩], [1]⟩
theorem ex_chk : chkN exN = 0 := by kernel_rfl
/-- what Light grants -/
structure LightOk (G : PLang) : Prop where
  segs : G.inv.length ≤ 8
  units : GoodO G.ort.units
  rules : ∀ R ∈ G.rules, RGood G.inv R
  rlen : G.rules.length ≤ 2
  net : GoodN G.net
  lex : LexOk G.inv G.lex
  five : G.lex.length ≤ 5
  alts : ∀ p ∈ G.lex, p.alts.length ≤ 1
/-- no text and no list of a language is large -/
structure SmG (G : PLang) : Prop where
  inv : G.inv.length ≤ 1000000
  name : ∀ p ∈ G.inv, SmS p.name
  ort : SmO G.ort
  lex : ∀ p ∈ G.lex, SmPE p
theorem LightOk.rs {G : PLang} (h : LightOk G) : RsOk G.rules := ⟨fun R hR => (h.rules R hR).ok, fun R hR => (h.rules R hR).nd, by have := h.rlen; omega⟩
theorem LightOk.st {G : PLang} (h : LightOk G) : ∃ S : Nat, G.net.states = (S : Int) := ⟨G.net.states.toNat, by have := h.net.s1; omega⟩
end Go.Proofs.YtiopgbbggeimaaaGreat
