/-
  The analyses of a word, in plain words: the search, the choice of senses, the ordered list. No function of the program in sight.
-/
import Derived.Test.YtiopgbbggeimaaaGreatK2
namespace Go.Proofs.YtiopgbbggeimaaaGreat
/-- does a part precede another one? -/
def ltP (a b : PPt) : Bool := if a.e = b.e then (if a.a = b.a then decide (a.s < b.s) else decide (a.a < b.a)) else decide (a.e < b.e)
def lessA : List PPt → List PPt → Bool
  | _, [] => false
  | [], _ :: _ => true
  | a :: l, b :: m => if a = b then lessA l m else ltP a b
/-- where an analysis is put into a list of which i elements are left -/
def posA (a : List PPt) (Ls : List (List PPt)) : Nat → Nat
  | 0 => 0
  | i + 1 => if lessA a (Ls.getD i []) then posA a Ls i else i + 1
theorem posA_le (a : List PPt) (Ls : List (List PPt)) : ∀ i, posA a Ls i ≤ i
  | 0 => Nat.le_refl 0
  | i + 1 => by
    rw [posA]
    split
    · exact Nat.le_succ_of_le (posA_le a Ls i)
    · exact Nat.le_refl _
def insA (a : List PPt) (Ls : List (List PPt)) : List (List PPt) := Ls.take (posA a Ls Ls.length) ++ a :: Ls.drop (posA a Ls Ls.length)
theorem insA_mem (a x : List PPt) (Ls : List (List PPt)) : x ∈ insA a Ls ↔ x = a ∨ x ∈ Ls := by
  rw [insA]
  generalize posA a Ls Ls.length = i
  conv => rhs; rw [← List.take_append_drop i Ls]
  simp only [List.mem_append, List.mem_cons]
  constructor
  · rintro (h | h | h)
    · exact .inr (.inl h)
    · exact .inl h
    · exact .inr (.inr h)
  · rintro (h | h | h)
    · exact .inr (.inl h)
    · exact .inl h
    · exact .inr (.inr h)
theorem insA_len (a : List PPt) (Ls : List (List PPt)) : (insA a Ls).length = Ls.length + 1 := by
  have := posA_le a Ls Ls.length
  rw [insA, List.length_append, List.length_cons, List.length_take, List.length_drop]
  omega
abbrev Fnd := List (List PPt) × Bool
/-- one more analysis; false if there are 200 already -/
def addF (s : Fnd) (a : List PPt) : Fnd × Bool := if s.1.length = 200 then ((s.1, true), false) else ((insA a s.1, s.2), true)
/-- one after the other, until one says false -/
def foldE {σ α : Type} (f : σ → α → σ × Bool) (s : σ) : List α → σ × Bool
  | [] => (s, true)
  | a :: l => if (f s a).2 then foldE f (f s a).1 l else ((f s a).1, false)
theorem foldE_append {σ α : Type} (f : σ → α → σ × Bool) : ∀ (l m : List α) (s : σ), foldE f s (l ++ m) = if (foldE f s l).2 then foldE f (foldE f s l).1 m else ((foldE f s l).1, false)
  | [], m, s => by simp [foldE]
  | a :: l, m, s => by
    rw [List.cons_append, foldE, foldE]
    split
    · exact foldE_append f l m _
    · simp
theorem foldE_few : ∀ (L : List (List PPt)) (Ls : List (List PPt)) (fl : Bool), Ls.length + L.length ≤ 200 →
    ∃ Ls', foldE addF (Ls, fl) L = ((Ls', fl), true) ∧ Ls'.length = Ls.length + L.length ∧ ∀ x, x ∈ Ls' ↔ x ∈ Ls ∨ x ∈ L
  | [], Ls, fl, _ => ⟨Ls, rfl, rfl, fun x => by simp⟩
  | a :: L, Ls, fl, h => by
    rw [List.length_cons] at h
    have h1 : addF (Ls, fl) a = ((insA a Ls, fl), true) := by rw [addF, if_neg (by simp only; omega)]
    obtain ⟨Ls', h2, h3, h4⟩ := foldE_few L (insA a Ls) fl (by rw [insA_len]; omega)
    refine ⟨Ls', by rw [foldE, h1]; exact h2, by rw [h3, insA_len, List.length_cons]; omega, fun x => ?_⟩
    rw [h4, insA_mem, List.mem_cons]
    constructor
    · rintro ((h | h) | h)
      · exact .inr (.inl h)
      · exact .inl h
      · exact .inr (.inr h)
    · rintro (h | h | h)
      · exact .inl (.inr h)
      · exact .inl (.inl h)
      · exact .inr h
theorem foldE_many : ∀ (L : List (List PPt)) (Ls : List (List PPt)) (fl : Bool), Ls.length ≤ 200 → 200 < Ls.length + L.length → ∃ Ls', foldE addF (Ls, fl) L = ((Ls', true), false)
  | [], Ls, fl, h, h' => by rw [List.length_nil] at h'; omega
  | a :: L, Ls, fl, h, h' => by
    by_cases h0 : Ls.length = 200
    · have h1 : addF (Ls, fl) a = ((Ls, true), false) := by rw [addF, if_pos h0]
      exact ⟨Ls, by rw [foldE, h1]; rfl⟩
    · have h1 : addF (Ls, fl) a = ((insA a Ls, fl), true) := by rw [addF, if_neg h0]
      rw [List.length_cons] at h'
      obtain ⟨Ls', h2⟩ := foldE_many L (insA a Ls) fl (by rw [insA_len]; omega) (by rw [insA_len]; omega)
      exact ⟨Ls', by rw [foldE, h1]; exact h2⟩
def pt0 : PPt := ⟨0, 0, 0⟩
/-- every choice of senses from a part on -/
def spreadL (lex : List PE) : Nat → Nat → List PPt → List (List PPt)
  | 0, _, p => [p]
  | k + 1, i, p => (List.range (sensesP lex (p.getD i pt0).e).length).flatMap fun (s : Nat) => spreadL lex k (i + 1) (p.set i ⟨(p.getD i pt0).e, (p.getD i pt0).a, (s : Int)⟩)
def formsP (p : PE) : List (List Int) := p.form :: p.alts
/-- does a rule delete segments? -/
def shrB (Rs : List PRule) : Bool := Rs.any fun R => hasBQ R.tto 0
def fitsF (G : PLang) (ws base : List Int) : Bool := decide (0 < (lastF G.inv G.rules base).length) && sameB (lastF G.inv G.rules base) ws
def tooB (G : PLang) (ws : List Int) (n : Nat) : Bool := decide (24 < n) || (!shrB G.rules && decide (ws.length < n))
abbrev Rec := List PPt → Nat → List Int → List (List PPt)
def formL (rec : Rec) (G : PLang) (ws : List Int) (id : Int) (parts : List PPt) (nx : Nat) (base : List Int) : Nat → List (List Int) → List (List PPt)
  | _, [] => []
  | i, f :: l => (if tooB G ws (base.length + f.length) then [] else rec (parts ++ [⟨id, (i : Int), 0⟩]) nx (base ++ f)) ++ formL rec G ws id parts nx base (i + 1) l
def stepF (rec : Rec) (G : PLang) (ws : List Int) (p : PE) (parts : List PPt) (nx : Nat) (base : List Int) : List (List PPt) :=
  if (sensesP G.lex p.id).length = 0 then [] else formL rec G ws p.id parts nx base 0 (formsP p)
def lexL (rec : Rec) (G : PLang) (ws : List Int) (parts : List PPt) (now : Nat) (base : List Int) : List PE → List (List PPt)
  | [] => []
  | p :: l => (if afterF G.net.steps now p.cls = 0 then [] else stepF rec G ws p parts (afterF G.net.steps now p.cls) base) ++ lexL rec G ws parts now base l
def hereB (G : PLang) (ws : List Int) (parts : List PPt) (now : Nat) (base : List Int) : Bool :=
  decide (0 < parts.length) && ((now &&& finalF G.net.final) != 0) && decide (ws.length ≤ base.length) && fitsF G ws base
def hereL (G : PLang) (ws : List Int) (parts : List PPt) (now : Nat) (base : List Int) : List (List PPt) := if hereB G ws parts now base then spreadL G.lex parts.length 0 parts else []
def moreL (G : PLang) (ws : List Int) (rec : Nat → Rec) (k : Nat) : Rec := fun parts now base => match k with
  | 0 => []
  | k + 1 => lexL (rec k) G ws parts now base G.lex
/-- all analyses that begin with some parts, of at most k parts more -/
def hits (G : PLang) (ws : List Int) : Nat → Rec
  | 0 => fun parts now base => hereL G ws parts now base
  | k + 1 => fun parts now base => hereL G ws parts now base ++ lexL (hits G ws k) G ws parts now base G.lex
/-- All -/
def allF (G : PLang) (ws : List Int) : List (List PPt) × Int :=
  if wordC G.inv ws ≠ 0 then ([], wordC G.inv ws) else if (foldE addF ([], false) (hits G ws 4 [] 1 [])).1.2 then ([], 11) else ((foldE addF ([], false) (hits G ws 4 [] 1 [])).1.1, 0)
/-! the error of an analysis -/
def formAt (lex : List PE) (p : PPt) : Option (PE × List Int) := match getP lex p.e with
  | none => none
  | some e => if 0 ≤ p.a ∧ p.a < ((formsP e).length : Int) then some (e, (formsP e).getD p.a.toNat []) else none
def clsA (lex : List PE) (a : List PPt) : List Int := a.filterMap fun p => (formAt lex p).map fun x => x.1.cls
def baseA (lex : List PE) (a : List PPt) : List Int := a.flatMap fun p => match formAt lex p with | some x => x.2 | none => []
def partC (lex : List PE) (p : PPt) : Int := match getP lex p.e with
  | none => 9
  | some e => if 0 ≤ p.a ∧ p.a < ((formsP e).length : Int) then (if 0 ≤ p.s ∧ p.s < ((sensesP lex p.e).length : Int) then 0 else 22) else 2
def partsC (lex : List PE) : List PPt → Int
  | [] => 0
  | p :: l => if partC lex p ≠ 0 then partC lex p else partsC lex l
def rightC (G : PLang) (a : List PPt) : Int :=
  if a.length = 0 then 4 else if 4 < a.length then 11 else if partsC G.lex a ≠ 0 then partsC G.lex a else if accF G.net (clsA G.lex a) = false then 21 else if 24 < (baseA G.lex a).length then 5 else 0
/-- Form: the surface form, and the error -/
def formF (G : PLang) (a : List PPt) : List Int × Int :=
  if rightC G a ≠ 0 then ([], rightC G a) else if (lastF G.inv G.rules (baseA G.lex a)).length = 0 then ([], 23) else (lastF G.inv G.rules (baseA G.lex a), 0)
end Go.Proofs.YtiopgbbggeimaaaGreat
