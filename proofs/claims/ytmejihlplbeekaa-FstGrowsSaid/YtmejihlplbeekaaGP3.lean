/-
  The search over silent arcs, as a plain law.
-/
import Derived.Test.YtmejihlplbeekaaG2
namespace Go.Proofs.Ytmejihlplbeekaa
def DoneP (F : PFst) (xs : List Int) (V : Plc → Bool) (Sy : Int → Bool) (c : Plc) : Prop := ∀ a, Lv F xs a c → (0 < a.out → Sy a.out = true) ∧ (a.out = 0 → V (nxP a c) = true)
structure DfsP (F : PFst) (xs : List Int) (N V : Plc → Bool) (Qs : List Plc) (Sy : Int → Bool) (E : Plc → Prop) : Prop where
  sub : ∀ c, c ∈ Qs → V c = true
  nsub : ∀ c, N c = true → V c = true
  box : BoxP F xs V
  acc : ∀ c, V c = true → ∀ w, AccP F xs c w → AccS F xs N w
  done : ∀ c, V c = true → c ∈ Qs ∨ E c ∨ DoneP F xs V Sy c
  sy : ∀ x, Sy x = true → SymsP F xs V x
section
variable {F : PFst} {xs : List Int} {N V : Plc → Bool} {Qs : List Plc} {Sy : Int → Bool} {E : Plc → Prop}
theorem DfsP.start (hB : BoxP F xs N) (hQ : ∀ c, c ∈ Qs ↔ N c = true) : DfsP F xs N N Qs (fun _ => false) (fun _ => False) :=
  ⟨fun c h => (hQ c).1 h, fun _ h => h, hB, fun c hc _ hw => ⟨c, hc, hw⟩, fun c hc => .inl ((hQ c).2 hc), fun _ h => by cases h⟩
theorem DfsP.pop {c : Plc} (h : DfsP F xs N V (Qs ++ [c]) Sy (fun _ => False)) : DfsP F xs N V Qs Sy (fun d => d = c) := by
  refine ⟨fun d hd => h.sub d (by simp [hd]), h.nsub, h.box, h.acc, fun d hd => ?_, h.sy⟩
  rcases h.done d hd with h1 | h1 | h1
  · rcases List.mem_append.1 h1 with h2 | h2
    · exact .inl h2
    · exact .inr (.inl (by simpa using h2))
  · exact h1.elim
  · exact .inr (.inr h1)
theorem DfsP.addSy (h : DfsP F xs N V Qs Sy E) {c : Plc} (hc : V c = true) {a : PArc} (hl : Lv F xs a c) (ho : 0 < a.out) : DfsP F xs N V Qs (addS Sy a.out) E := by
  refine ⟨h.sub, h.nsub, h.box, h.acc, fun d hd => ?_, fun x hx => ?_⟩
  · rcases h.done d hd with h1 | h1 | h1
    · exact .inl h1
    · exact .inr (.inl h1)
    · exact .inr (.inr fun b hb => ⟨fun hb0 => addS_sub ((h1 b hb).1 hb0), (h1 b hb).2⟩)
  · rcases addS_iff.1 hx with rfl | hx
    · exact ⟨ho, c, a, hc, hl, rfl⟩
    · exact h.sy x hx
theorem DfsP.push (hF : GoodA F) (h : DfsP F xs N V Qs Sy E) {c : Plc} (hc : V c = true) {a : PArc} (hl : Lv F xs a c) (ho : a.out = 0) : DfsP F xs N (addS V (nxP a c)) (Qs ++ [nxP a c]) Sy E := by
  have hb := h.box c hc
  refine ⟨fun d hd => ?_, fun d hd => addS_sub (h.nsub d hd), fun d hd => ?_, fun d hd w hw => ?_, fun d hd => ?_, fun x hx => ?_⟩
  · rcases List.mem_append.1 hd with h1 | h1
    · exact addS_sub (h.sub d h1)
    · have : d = nxP a c := by simpa using h1
      rw [this]
      exact addS_self _ _
  · rcases addS_iff.1 hd with rfl | hd
    · exact hb.step hF hl
    · exact h.box d hd
  · rcases addS_iff.1 hd with rfl | hd
    · have := AccP.cons hb.i0 hl hw
      rw [show sym a.out = [] by simp [sym, ho]] at this
      exact h.acc c hc _ this
    · exact h.acc d hd w hw
  · rcases addS_iff.1 hd with rfl | hd
    · exact .inl (by simp)
    · rcases h.done d hd with h1 | h1 | h1
      · exact .inl (by simp [h1])
      · exact .inr (.inl h1)
      · exact .inr (.inr fun b hb => ⟨(h1 b hb).1, fun hb0 => addS_sub ((h1 b hb).2 hb0)⟩)
  · obtain ⟨h0, d, b, h1, h2⟩ := h.sy x hx
    exact ⟨h0, d, b, addS_sub h1, h2⟩
theorem DfsP.finish {c : Plc} (h : DfsP F xs N V Qs Sy (fun d => d = c)) (hd : DoneP F xs V Sy c) : DfsP F xs N V Qs Sy (fun _ => False) := by
  refine ⟨h.sub, h.nsub, h.box, h.acc, fun d hdv => ?_, h.sy⟩
  rcases h.done d hdv with h1 | rfl | h1
  · exact .inl h1
  · exact .inr (.inr hd)
  · exact .inr (.inr h1)
theorem DfsP.whole (h : DfsP F xs N V [] Sy (fun _ => False)) : SpreadP F xs N V ∧ ∀ x, Sy x = true ↔ SymsP F xs V x := by
  have hd : ∀ c, V c = true → DoneP F xs V Sy c := fun c hc => by
    rcases h.done c hc with h1 | h1 | h1
    · cases h1
    · exact h1.elim
    · exact h1
  refine ⟨⟨h.nsub, h.box, fun c hc a hl ho => (hd c hc a hl).2 ho, h.acc⟩, fun x => ⟨h.sy x, ?_⟩⟩
  rintro ⟨h0, c, a, hc, hl, rfl⟩
  exact (hd c hc a hl).1 h0
end
end Go.Proofs.Ytmejihlplbeekaa
