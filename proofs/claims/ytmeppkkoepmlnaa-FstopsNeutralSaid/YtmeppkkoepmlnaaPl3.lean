/-
  Plain: the arcs of a composition, as the program and as the reference list them.
-/
import Derived.Test.YtmeppkkoepmlnaaPl2
namespace Go.Proofs.Ytmeppkkoepmlnaa
def cxy (m : Int) (x y : PArc) : List PArc := if x.out ≠ 0 ∧ x.out = y.inp then [put m x.fr y.fr x.inp y.out x.tgt y.tgt] else []
def cxq (m : Int) (x : PArc) (q : Nat) : List PArc := if x.out = 0 then [put m x.fr q x.inp 0 x.tgt q] else []
def cyp (m : Int) (y : PArc) (p : Nat) : List PArc := if y.inp = 0 then [put m p y.fr 0 y.out p y.tgt] else []
def cxs (m : Int) (bs : List PArc) (x : PArc) : List PArc := bs.flatMap (cxy m x)
def cxr (m : Int) (K : Nat) (x : PArc) : List PArc := (List.range K).flatMap (cxq m x)
def cx (b : PFst) (x : PArc) : List PArc := cxs b.states b.arcs x ++ cxr b.states b.states.toNat x
def cy (m : Int) (K : Nat) (y : PArc) : List PArc := (List.range K).flatMap (cyp m y)
def compFin (m : Int) (P Q : List Int) : List Int := P.flatMap fun p => Q.map fun q => p * m + q
def compF (a b : PFst) : PFst := ⟨a.states * b.states, a.arcs.flatMap (cx b) ++ b.arcs.flatMap (cy b.states a.states.toNat), compFin b.states a.final b.final⟩
/-- the reference's -/
def rx (b : PFst) (x : PArc) : List PArc := cxr b.states b.states.toNat x ++ cxs b.states b.arcs x
def refF (a b : PFst) : PFst := ⟨a.states * b.states, a.arcs.flatMap (rx b) ++ b.arcs.flatMap (cy b.states a.states.toNat), compFin b.states a.final b.final⟩
theorem mem_cxs {m : Int} {bs : List PArc} {x z : PArc} : z ∈ cxs m bs x ↔ ∃ y, y ∈ bs ∧ x.out ≠ 0 ∧ x.out = y.inp ∧ z = put m x.fr y.fr x.inp y.out x.tgt y.tgt := by
  simp only [cxs, cxy, List.mem_flatMap]
  constructor
  · rintro ⟨y, hy, hz⟩
    split at hz
    · rename_i h; simp at hz; exact ⟨y, hy, h.1, h.2, hz⟩
    · cases hz
  · rintro ⟨y, hy, h1, h2, rfl⟩
    exact ⟨y, hy, by rw [if_pos ⟨h1, h2⟩]; simp⟩
theorem mem_cxr {m : Int} {K : Nat} {x z : PArc} : z ∈ cxr m K x ↔ ∃ q : Nat, q < K ∧ x.out = 0 ∧ z = put m x.fr q x.inp 0 x.tgt q := by
  simp only [cxr, cxq, List.mem_flatMap, List.mem_range]
  constructor
  · rintro ⟨y, hy, hz⟩
    split at hz
    · rename_i h; simp at hz; exact ⟨y, hy, h, hz⟩
    · cases hz
  · rintro ⟨y, hy, h1, rfl⟩
    exact ⟨y, hy, by rw [if_pos h1]; simp⟩
theorem mem_cy {m : Int} {K : Nat} {y z : PArc} : z ∈ cy m K y ↔ ∃ p : Nat, p < K ∧ y.inp = 0 ∧ z = put m p y.fr 0 y.out p y.tgt := by
  simp only [cy, cyp, List.mem_flatMap, List.mem_range]
  constructor
  · rintro ⟨p, hy, hz⟩
    split at hz
    · rename_i h; simp at hz; exact ⟨p, hy, h, hz⟩
    · cases hz
  · rintro ⟨p, hy, h1, rfl⟩
    exact ⟨p, hy, by rw [if_pos h1]; simp⟩
theorem isComp_arcs {a b : PFst} (ha : 0 ≤ a.states) (hb : 0 ≤ b.states) (z : PArc) : ((∃ x, x ∈ a.arcs ∧ (z ∈ cxs b.states b.arcs x ∨ z ∈ cxr b.states b.states.toNat x)) ∨ ∃ y, y ∈ b.arcs ∧ z ∈ cy b.states a.states.toNat y) ↔ InComp a b z := by
  simp only [mem_cxs, mem_cxr, mem_cy, InComp]
  constructor
  · rintro (⟨x, hx, ⟨y, hy, h1, h2, h3⟩ | ⟨q, hq, h1, h2⟩⟩ | ⟨y, hy, p, hp, h1, h2⟩)
    · exact .inl ⟨x, hx, y, hy, h1, h2, h3⟩
    · exact .inr (.inl ⟨x, hx, h1, q, by omega, by omega, h2⟩)
    · exact .inr (.inr ⟨y, hy, h1, p, by omega, by omega, h2⟩)
  · rintro (⟨x, hx, y, hy, h1, h2, h3⟩ | ⟨x, hx, h1, q, h2, h3, h4⟩ | ⟨y, hy, h1, p, h2, h3, h4⟩)
    · exact .inl ⟨x, hx, .inl ⟨y, hy, h1, h2, h3⟩⟩
    · refine .inl ⟨x, hx, .inr ⟨q.toNat, by omega, h1, ?_⟩⟩
      rw [show ((q.toNat : Nat) : Int) = q by omega]; exact h4
    · refine .inr ⟨y, hy, p.toNat, by omega, h1, ?_⟩
      rw [show ((p.toNat : Nat) : Int) = p by omega]; exact h4
theorem mem_compFin {m : Int} {P Q : List Int} (z : Int) : z ∈ compFin m P Q ↔ ∃ p, p ∈ P ∧ ∃ q, q ∈ Q ∧ z = p * m + q := by
  simp only [compFin, List.mem_flatMap, List.mem_map]
  constructor
  · rintro ⟨p, hp, q, hq, rfl⟩; exact ⟨p, hp, q, hq, rfl⟩
  · rintro ⟨p, hp, q, hq, rfl⟩; exact ⟨p, hp, q, hq, rfl⟩
theorem compF_is {a b : PFst} (ha : 0 ≤ a.states) (hb : 0 ≤ b.states) : IsComp a b (compF a b) := by
  refine ⟨rfl, fun z => ?_, fun z => mem_compFin z⟩
  rw [← isComp_arcs ha hb z]
  simp only [compF, cx, List.mem_append, List.mem_flatMap]
theorem refF_is {a b : PFst} (ha : 0 ≤ a.states) (hb : 0 ≤ b.states) : IsComp a b (refF a b) := by
  refine ⟨rfl, fun z => ?_, fun z => mem_compFin z⟩
  rw [← isComp_arcs ha hb z]
  simp only [refF, rx, List.mem_append, List.mem_flatMap]
  constructor
  · rintro (⟨x, hx, h | h⟩ | h)
    · exact .inl ⟨x, hx, .inr h⟩
    · exact .inl ⟨x, hx, .inl h⟩
    · exact .inr h
  · rintro (⟨x, hx, h | h⟩ | h)
    · exact .inl ⟨x, hx, .inr h⟩
    · exact .inl ⟨x, hx, .inl h⟩
    · exact .inr h
theorem flatMap_le {α β : Type} (l : List α) (f : α → List β) (K : Nat) (h : ∀ x, x ∈ l → (f x).length ≤ K) : (l.flatMap f).length ≤ l.length * K := by
  induction l with
  | nil => simp
  | cons x l ih =>
    have h1 := h x (by simp)
    have h2 := ih fun y hy => h y (by simp [hy])
    simp only [List.flatMap_cons, List.length_append, List.length_cons, Nat.add_mul]
    omega
theorem cxy_le (m : Int) (x y : PArc) : (cxy m x y).length ≤ 1 := by unfold cxy; split <;> simp
theorem cxs_le (m : Int) (bs : List PArc) (x : PArc) : (cxs m bs x).length ≤ bs.length := by
  have := flatMap_le bs (cxy m x) 1 (fun y _ => cxy_le m x y); unfold cxs; omega
theorem cxr_le (m : Int) (K : Nat) (x : PArc) : (cxr m K x).length ≤ K := by
  have := flatMap_le (List.range K) (cxq m x) 1 (fun q _ => by unfold cxq; split <;> simp); unfold cxr; simp at this ⊢; omega
theorem cy_le (m : Int) (K : Nat) (y : PArc) : (cy m K y).length ≤ K := by
  have := flatMap_le (List.range K) (cyp m y) 1 (fun q _ => by unfold cyp; split <;> simp); unfold cy; simp at this ⊢; omega
theorem cx_le (b : PFst) (x : PArc) : (cx b x).length ≤ b.arcs.length + b.states.toNat := by
  have := cxs_le b.states b.arcs x; have := cxr_le b.states b.states.toNat x; unfold cx; simp; omega
def manyB (a b : PFst) : Bool := decide (1000 < a.states * b.states) || decide (100000 < (a.arcs.length : Int) * (b.arcs.length : Int) + (a.arcs.length : Int) * b.states + a.states * (b.arcs.length : Int))
/-- the sizes of what is not too large -/
structure Fits (a b : PFst) : Prop where
  p : a.states * b.states ≤ 1000
  nm : a.arcs.length * (b.arcs.length + b.states.toNat) + b.arcs.length * a.states.toNat ≤ 100000
  n : a.arcs.length ≤ 100000
  m : b.arcs.length ≤ 100000
  sa : a.states ≤ 1000
  sb : b.states ≤ 1000
theorem fits_of {a b : PFst} (ha : 1 ≤ a.states) (hb : 1 ≤ b.states) (h : manyB a b = false) : Fits a b := by
  simp only [manyB, Bool.or_eq_false_iff, decide_eq_false_iff_not] at h
  obtain ⟨h1, h2⟩ := h
  have e1 : ((a.arcs.length * (b.arcs.length + b.states.toNat) + b.arcs.length * a.states.toNat : Nat) : Int) = (a.arcs.length : Int) * (b.arcs.length : Int) + (a.arcs.length : Int) * b.states + a.states * (b.arcs.length : Int) := by
    have q1 : ((b.states.toNat : Nat) : Int) = b.states := by omega
    have q2 : ((a.states.toNat : Nat) : Int) = a.states := by omega
    push_cast
    rw [Int.mul_add, Int.mul_comm a.states]
    simp only [q1, q2]
  have h3 : (a.arcs.length * (b.arcs.length + b.states.toNat) + b.arcs.length * a.states.toNat : Nat) ≤ 100000 := by omega
  have h4 : a.arcs.length * 1 ≤ a.arcs.length * (b.arcs.length + b.states.toNat) := Nat.mul_le_mul_left _ (by omega)
  have h5 : b.arcs.length * 1 ≤ b.arcs.length * a.states.toNat := Nat.mul_le_mul_left _ (by omega)
  have h6 : a.states * 1 ≤ a.states * b.states := Int.mul_le_mul_of_nonneg_left hb (by omega)
  have h7 : 1 * b.states ≤ a.states * b.states := Int.mul_le_mul_of_nonneg_right ha (by omega)
  exact ⟨by omega, h3, by omega, by omega, by omega, by omega⟩
theorem Fits.one {a b : PFst} (h : Fits a b) (k : Nat) : ((a.arcs.take k).flatMap (cx b)).length ≤ 100000 := by
  have h1 := flatMap_le (a.arcs.take k) (cx b) (b.arcs.length + b.states.toNat) (fun x _ => cx_le b x)
  have h2 : (a.arcs.take k).length * (b.arcs.length + b.states.toNat) ≤ a.arcs.length * (b.arcs.length + b.states.toNat) := Nat.mul_le_mul_right _ (by simp; omega)
  have := h.nm
  omega
theorem Fits.two {a b : PFst} (h : Fits a b) (k : Nat) : ((b.arcs.take k).flatMap (cy b.states a.states.toNat)).length ≤ 100000 := by
  have h1 := flatMap_le (b.arcs.take k) (cy b.states a.states.toNat) a.states.toNat (fun x _ => cy_le _ _ x)
  have h2 : (b.arcs.take k).length * a.states.toNat ≤ b.arcs.length * a.states.toNat := Nat.mul_le_mul_right _ (by simp; omega)
  have := h.nm
  omega
theorem compFin_ord {m : Int} {P Q : List Int} (hP : P.Pairwise (· < ·)) (hQ : Q.Pairwise (· < ·)) (hb : ∀ q, q ∈ Q → 0 ≤ q ∧ q < m) (hm : 0 ≤ m) : (compFin m P Q).Pairwise (· < ·) := by
  induction P with
  | nil => simp [compFin]
  | cons p P ih =>
    obtain ⟨h1, h2⟩ := List.pairwise_cons.1 hP
    have hi := ih h2
    simp only [compFin, List.flatMap_cons] at hi ⊢
    rw [List.pairwise_append]
    refine ⟨?_, hi, ?_⟩
    · rw [List.pairwise_map]
      exact hQ.imp (fun h => by omega)
    · intro x hx y hy
      obtain ⟨q, hq, rfl⟩ := List.mem_map.1 hx
      obtain ⟨p', hp', q', hq', rfl⟩ := (mem_compFin y).1 hy
      have b1 := hb q hq
      have b2 := hb q' hq'
      have b3 := h1 p' hp'
      have b4 : (p + 1) * m ≤ p' * m := Int.mul_le_mul_of_nonneg_right (by omega) hm
      rw [Int.add_mul] at b4
      omega
theorem isComp_good {a b F : PFst} (ha : Good a) (hb : Good b) (hf : Fits a b) (hF : IsComp a b F) (hl : F.arcs.length ≤ 262144) (ho : F.final.Pairwise (· < ·)) : Good F := by
  have a1 := ha.s1
  have b1 := hb.s1
  have h7 : 1 * b.states ≤ a.states * b.states := Int.mul_le_mul_of_nonneg_right a1 (by omega)
  refine ⟨by rw [hF.states]; omega, by rw [hF.states]; have := hf.p; omega, hl, ?_, ho, ?_⟩
  · intro z hz
    rw [hF.states]
    exact comp_arc_ok ha hb ((hF.arcs z).1 hz)
  · intro z hz
    obtain ⟨p, hp, q, hq, rfl⟩ := (hF.final z).1 hz
    have h1 := ha.fin p hp
    have h2 := hb.fin q hq
    rw [hF.states]
    exact pq_lt h2.1 h2.2 h1.1 h1.2
theorem compF_good {a b : PFst} (ha : Good a) (hb : Good b) (hf : Fits a b) : Good (compF a b) := by
  refine isComp_good ha hb hf (compF_is (by have := ha.s1; omega) (by have := hb.s1; omega)) ?_ (compFin_ord ha.ord hb.ord hb.fin (by have := hb.s1; omega))
  have h1 := hf.one a.arcs.length
  have h2 := hf.two b.arcs.length
  rw [List.take_length] at h1 h2
  simp only [compF, List.length_append]
  omega
end Go.Proofs.Ytmeppkkoepmlnaa
