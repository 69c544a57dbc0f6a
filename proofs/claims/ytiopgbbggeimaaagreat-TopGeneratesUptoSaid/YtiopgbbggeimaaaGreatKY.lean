/-
  analyze: the closure that run calls; what the walk keeps.
-/
import Derived.Test.YtiopgbbggeimaaaGreatKK
namespace Go.Proofs.YtiopgbbggeimaaaGreat
open Go.ChangeShapes Go.WideShapes Go.ChangeAt Go.RowKit
def addV (bo bf : Nat) : Value := .func (.func 53) #[] #[.pointer (some ⟨bo, 0, none⟩), .pointer (some ⟨bf, 0, none⟩)]
/-- the blocks that the search reads and that stay -/
structure WE (w : World) (s : Sch) (B bo bf : Nat) : Prop where
  sr : SrBlk w B s
  lg : LgBlk w s.bg s.g
  ad : Boxed w s.ba 120 (addV bo bf)
theorem WE.gw {n0 : Nat} {w w' : World} {s : Sch} {B bo bf : Nat} (h : WE w s B bo bf) (g : Gw n0 w w') : WE w' s B bo bf := ⟨g.sr h.sr, g.lg h.lg, g.fb h.ad⟩
theorem WE.below {w w' : World} {s : Sch} {B bo bf : Nat} (h : WE w s B bo bf) (hb : Below w.heap.size w w') : WE w' s B bo bf := ⟨h.sr.below hb, h.lg.below hb, boxed_below h.ad hb⟩
/-- what changes on the way: what was found, what was tried -/
structure WS (w0 : World) (G : PLang) (wl : List Int) (bm bo bf : Nat) (st : Fnd) (w : World) : Prop where
  b : Below w0.heap.size w0 w
  st : StA w0.heap.size bo bf st w
  tr : TrM G wl bm w
theorem WS.below {w0 : World} {G : PLang} {wl : List Int} {bm bo bf : Nat} {st : Fnd} {w w' : World} (h : WS w0 G wl bm bo bf st w) (hb : Below w.heap.size w w') : WS w0 G wl bm bo bf st w' := ⟨h.b.trans (hb.mono h.b.size), h.st.below hb, h.tr.below hb⟩
theorem FJ.gw {G : PLang} {wl : List Int} {bm : Nat} {w w' : World} {n0 : Nat} (h : FJ G wl bm w w') (ht : TrM G wl bm w) (hn : n0 ≤ bm) (hs : n0 ≤ w.heap.size) : Gw n0 w w' := by
  obtain ⟨f, h1, _⟩ := ht
  obtain ⟨es, cl, h2⟩ := h1.block
  exact Gw.of_map h2 hn hs h.2
theorem FJ.ws {w0 : World} {G : PLang} {wl : List Int} {bm bo bf : Nat} {st : Fnd} {w w' : World} (h : FJ G wl bm w w') (hs : WS w0 G wl bm bo bf st w) (hn : w0.heap.size ≤ bm) : WS w0 G wl bm bo bf st w' := by
  obtain ⟨f, h1, _⟩ := hs.tr
  have hk : ∀ {k : Nat} {cs : Array Value} {t : TypeId} {m : Nat × Nat}, w.heap[k]? = some (.cells cs t m) → w'.heap[k]? = w.heap[k]? := fun {k cs t m} hc => h.2.block k (Array.getElem?_eq_some_iff.1 hc).1 (fun e => by cases e; exact h1.ne hc rfl)
  obtain ⟨v, g1, ⟨us, a1, a2, a3⟩, g3, g4, g5, g6⟩ := hs.st
  refine ⟨(h.gw hs.tr hn hs.b.size).b |> fun hb => hs.b.trans hb, ⟨v, (hk g1).trans g1, ⟨us, own_keepQ a1 fun _ _ _ _ hc _ => hk hc, a2, fun x hx => own_keepQ (a3 x hx) fun _ _ _ _ hc _ => hk hc⟩, (hk g3).trans g3, g4, g5, g6⟩, h.1⟩
theorem Gs.ws {w0 : World} {G : PLang} {wl : List Int} {bm bo bf : Nat} {st st' : Fnd} {w w' : World} (g : Gs w0.heap.size w w') (hs : WS w0 G wl bm bo bf st w) (h : StA w0.heap.size bo bf st' w') : WS w0 G wl bm bo bf st' w' := ⟨hs.b.trans g.toGw.b, h, g.trm hs.tr⟩
set_option maxHeartbeats 4000000 in
set_option maxRecDepth 100000 in
theorem found_any (w0 : World) (s : Sch) (G : PLang) (wl : List Int) (bo bf : Nat) (v vb : Value) (p : List PPt) (st : Fnd) (w : World) (hE : SE w0 s G wl) (h0 : Below w0.heap.size w0 w) (hlg : LgBlk w s.bg s.g) (had : Boxed w s.ba 120 (addV bo bf)) (hS : StA w0.heap.size bo bf st w) (hp : OwnPt w w0.heap.size v p) (hp4 : p.length ≤ 4) :
    Calls Tryz.prog 56 #[v, vb, .pointer (some ⟨s.bg, 0, none⟩), .pointer (some ⟨s.ba, 0, none⟩)] w fun e w' =>
      e = .returned (.bool (foldE addF st (spreadL G.lex p.length 0 p)).2) ∧ StA w0.heap.size bo bf (foldE addF st (spreadL G.lex p.length 0 p)).1 w' ∧ Gs w0.heap.size w w' := by
  have HC := Lib.hid (spread_any w0 s.g G bo bf hE.g hE.ok.lx p.length 0 v p st w (by omega) hp4 h0 hS hp)
  obtain ⟨r, hr⟩ : ∃ r, foldE addF st (spreadL G.lex p.length 0 p) = r := ⟨_, rfl⟩
  rw [hr] at HC ⊢
  obtain ⟨s3, b3⟩ := r
  simp only at HC ⊢
  obtain ⟨z0, z1, z2, z3, z4, z5, z6, z7, z8, zl⟩ := hlg.facts
  unfold addV at had
  have ac := had.cell
  clear hr hE h0 hlg had hS hp hp4
  go_enter Tryz.func56, Tryz.ntmps56
  go_wp2_with fail
  refine HC.out.mono ?_
  rintro e w1 ⟨rfl, h1, h2⟩
  have H1 := Lib.hid h1
  have H2 := Lib.hid h2
  clear h1 h2
  go_wp2_with fail
  go_ret
  exact ⟨rfl, H1.out, H2.out⟩
end Go.Proofs.YtiopgbbggeimaaaGreat
