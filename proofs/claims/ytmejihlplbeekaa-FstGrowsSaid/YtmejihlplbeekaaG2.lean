/-
  The maps of fst: sets of places, numbers at places, sets of ints, numbers at ints; the list of all places; sums over it.
-/
import Derived.Test.YtmejihlplbeekaaG1
import Derived.Test.YtmejihlplbeekaaGP1
import Derived.Test.YtmejihlplbeekaaF6
namespace Go.Proofs.Ytmejihlplbeekaa
open Go.ChangeShapes Go.WideShapes Go.ChangeAt Go.RowKit
open Go.Maps (Keyed)
set_option maxRecDepth 100000
def plcV (c : Plc) : Value := .agg #[.int .i64 c.q, .int .i64 c.i]
structure Plc.Wf (c : Plc) : Prop where
  q : InI c.q
  i : InI c.i
theorem rowP : (64 : TypeId) < Try.prog.types.size := of_decide_eq_true (by kernel_rfl)
theorem cellsP : Try.prog.cellsOf 64 = 2 := by kernel_rfl
theorem wideP : (match Try.prog.underlying 64 with | some (.array _ _) | some (.struct _) => true | _ => false) = true := by rw [Try.underlying64]
theorem lawP : Keyed Try.prog 64 := Keyed.of_law (deep_law_laid laidOut (m := 2) (by omega) rowP (by kernel_rfl) wideP)
theorem key2 {P : Program} {k ti : TypeId} {f0 f1 : Field} (hu : P.underlying k = some (.struct #[f0, f1])) (hui : P.underlying ti = some (.int .i64)) (hk : P.keyType k = true) (hc : P.cellsOf k = 2) (hci : P.cellsOf ti = 1)
    (hf : (f0.type = ti ∧ f0.offset = 0 ∧ (f0.name != "_") = true) ∧ (f1.type = ti ∧ f1.offset = 1 ∧ (f1.name != "_") = true)) (hs : 0 < P.types.size) {x y : Int} (hx : InI x) (hy : InI y) :
    keyOf P k (.agg #[.int .i64 x, .int .i64 y]) = some (.string (keyBytes [.int .i64 x, .int .i64 y])) := by
  obtain ⟨⟨a0, a1, a2⟩, ⟨b0, b1, b2⟩⟩ := hf
  have hform : (Value.agg #[.int .i64 x, .int .i64 y]).formed P k = true := by simp [Value.formed, hu, hc]
  obtain ⟨m, hm⟩ : ∃ m, P.types.size = m + 1 := ⟨P.types.size - 1, by omega⟩
  have hi : ∀ n, InI n → P.keyLits (m + 1) ti [.int .i64 n] = some [.int .i64 n] := by
    intro n hn
    simp [Program.keyLits, hui, wf_in hn]
  generalize m + 1 = sz at hi hm
  have hl : P.keyLits (sz + 1) k (Value.agg #[.int .i64 x, .int .i64 y]).cells.toList = some [.int .i64 x, .int .i64 y] := by
    simp at a2 b2
    simp [Program.keyLits, hu, hc, hci, Value.cells, a0, a1, a2, b0, b1, b2, hi _ hx, hi _ hy]
  unfold keyOf
  rw [hu]
  dsimp only
  rw [hk, hform, hm, hl]
  rfl
theorem keyP (c : Plc) (h : c.Wf) : ∃ l, keyOf Try.prog 64 (plcV c) = some l :=
  ⟨_, key2 Try.underlying64 Try.underlying3 (by kernel_rfl) cellsP cellsInt ⟨⟨rfl, rfl, by decide⟩, ⟨rfl, rfl, by decide⟩⟩ (Nat.lt_of_le_of_lt (Nat.zero_le _) rowP) h.q h.i⟩
theorem plcV_inj (c d : Plc) (h : plcV c = plcV d) : c = d := by
  cases c; cases d
  simp [plcV] at h
  simp [h]
theorem zeroI (w : World) : (zeroValue 3).run Try.prog w = .ok (.int .i64 0) w := by kernel_rfl
theorem elem_bool_inv (v : Value) (x : Bool) (z : DataW Unit × List MemPlace) (h : plainElem (H := Unit) Try.prog 4 v = some z) (hz : z.1 = .lit (.bool x)) : v = .bool x := by
  unfold plainElem at h
  rw [Try.underlying4] at h
  cases v <;> simp at h
  subst h
  simp at hz
  rw [hz]
theorem elem_int_inv (v : Value) (x : Int) (z : DataW Unit × List MemPlace) (h : plainElem (H := Unit) Try.prog 3 v = some z) (hz : z.1 = .lit (.int .i64 x)) : v = .int .i64 x := by
  obtain ⟨a, rfl, rfl, _⟩ := plainElem_int_inv Try.underlying3 h
  simp at hz
  rw [hz]
theorem intLaw : Keyed Try.prog 3 := Maps.int_keyed Try.underlying3
theorem keyInt (c : Int) (h : InI c) : ∃ l, keyOf Try.prog 3 (.int .i64 c) = some l := ⟨_, Maps.keyOf_int_mk Try.underlying3 (wf_in h)⟩
theorem int_inj (c d : Int) (h : Value.int .i64 c = .int .i64 d) : c = d := by simpa using h
theorem inI0 : InI 0 := by unfold InI; omega
def MB : MS Try.prog Plc Bool := { mt := 65, kt := 64, et := 4, ht := Try.underlying65, K := lawP, mkK := plcV, wf := Plc.Wf, key := keyP, inj := plcV_inj, mkV := Value.bool, lit := Lit.bool, wfV := fun _ => True, elem := fun x _ => plainElem_bool Try.underlying4 x, inv := elem_bool_inv, zero := false, zrun := zeroB, zwf := trivial }
def MI : MS Try.prog Plc Int := { mt := 59, kt := 64, et := 3, ht := Try.underlying59, K := lawP, mkK := plcV, wf := Plc.Wf, key := keyP, inj := plcV_inj, mkV := Value.int .i64, lit := Lit.int .i64, wfV := InI, elem := fun _ h => plainElem_int Try.underlying3 (wf_in h), inv := elem_int_inv, zero := 0, zrun := zeroI, zwf := inI0 }
def SB : MS Try.prog Int Bool := { mt := 86, kt := 3, et := 4, ht := Try.underlying86, K := intLaw, mkK := Value.int .i64, wf := InI, key := keyInt, inj := int_inj, mkV := Value.bool, lit := Lit.bool, wfV := fun _ => True, elem := fun x _ => plainElem_bool Try.underlying4 x, inv := elem_bool_inv, zero := false, zrun := zeroB, zwf := trivial }
def NI : MS Try.prog Int Int := { mt := 74, kt := 3, et := 3, ht := Try.underlying74, K := intLaw, mkK := Value.int .i64, wf := InI, key := keyInt, inj := int_inj, mkV := Value.int .i64, lit := Lit.int .i64, wfV := InI, elem := fun _ h => plainElem_int Try.underlying3 (wf_in h), inv := elem_int_inv, zero := 0, zrun := zeroI, zwf := inI0 }
section
variable {α : Type}
/-- a set, as a map to true -/
def setF (V : α → Bool) : α → Option Bool := fun c => if V c then some true else none
variable [DecidableEq α]
def addS (V : α → Bool) (c : α) : α → Bool := fun d => decide (d = c) || V d
theorem put_setF (V : α → Bool) (c : α) : put (setF V) c true = setF (addS V c) := by
  funext d
  unfold put setF addS
  by_cases h : d = c <;> simp [h]
omit [DecidableEq α] in
theorem setF_none : (fun _ => none : α → Option Bool) = setF (fun _ => false) := by funext d; simp [setF]
omit [DecidableEq α] in
theorem setF_getD (V : α → Bool) (c : α) : (setF V c).getD false = V c := by unfold setF; cases V c <;> rfl
omit [DecidableEq α] in
theorem setF_isSome (V : α → Bool) (c : α) : (setF V c).isSome = V c := by unfold setF; cases V c <;> rfl
omit [DecidableEq α] in
theorem setF_some {V : α → Bool} {c : α} {x : Bool} (h : setF V c = some x) : V c = true := by
  unfold setF at h
  split at h
  · assumption
  · cases h
theorem addS_self (V : α → Bool) (c : α) : addS V c c = true := by simp [addS]
theorem addS_sub {V : α → Bool} {c d : α} (h : V d = true) : addS V c d = true := by simp [addS, h]
theorem addS_iff {V : α → Bool} {c d : α} : addS V c d = true ↔ d = c ∨ V d = true := by simp [addS]
end
/-- all places -/
def boxP (S n : Nat) : List Plc := (List.range S).flatMap fun (q : Nat) => (List.range (n + 1)).map fun (i : Nat) => (⟨Int.ofNat q, Int.ofNat i⟩ : Plc)
theorem boxP_len (S n : Nat) : (boxP S n).length = S * (n + 1) := by
  unfold boxP
  induction S with
  | zero => simp
  | succ S ih => rw [List.range_succ (n := S), List.flatMap_append, List.length_append, ih]; simp [Nat.add_mul]
theorem mem_boxP {F : PFst} {xs : List Int} {S : Nat} (hS : F.states = (S : Int)) {c : Plc} (h : PBox F xs c) : c ∈ boxP S xs.length := by
  have := h.q0; have := h.q1; have := h.i0; have := h.i1
  unfold boxP
  refine List.mem_flatMap.2 ⟨c.q.toNat, List.mem_range.2 (by omega), List.mem_map.2 ⟨c.i.toNat, List.mem_range.2 (by omega), ?_⟩⟩
  cases c
  simp only at *
  congr 1
  · exact Int.toNat_of_nonneg (by omega)
  · exact Int.toNat_of_nonneg (by omega)
theorem of_mem_boxP {F : PFst} {xs : List Int} {S : Nat} (hS : F.states = (S : Int)) {c : Plc} (h : c ∈ boxP S xs.length) : PBox F xs c := by
  obtain ⟨q, hq, hc⟩ := List.mem_flatMap.1 h
  obtain ⟨i, hi, rfl⟩ := List.mem_map.1 hc
  have h1 := List.mem_range.1 hq
  have h2 := List.mem_range.1 hi
  exact ⟨by simp, by simp only [Int.ofNat_eq_natCast]; omega, by simp, by simp only [Int.ofNat_eq_natCast]; omega⟩
theorem PBox.wf {F : PFst} {xs : List Int} {c : Plc} (h : PBox F xs c) (hS : F.states ≤ 4096) (hX : xs.length ≤ 1000000) : c.Wf := by
  have := h.q0; have := h.q1; have := h.i0; have := h.i1
  exact ⟨by unfold InI; omega, by unfold InI; omega⟩
def wsum {α : Type} (f : α → Nat) (l : List α) : Nat := (l.map f).sum
theorem wsum_le {α : Type} {f g : α → Nat} {l : List α} (h : ∀ x ∈ l, f x ≤ g x) : wsum f l ≤ wsum g l := by
  induction l with
  | nil => exact Nat.le_refl _
  | cons x l ih =>
    have h1 := h x (by simp)
    have h2 := ih (fun y hy => h y (by simp [hy]))
    simp only [wsum, List.map_cons, List.sum_cons] at h2 ⊢
    omega
theorem wsum_lt {α : Type} {f g : α → Nat} {l : List α} (h : ∀ x ∈ l, f x ≤ g x) {c : α} (hc : c ∈ l) (hlt : f c < g c) : wsum f l < wsum g l := by
  induction l with
  | nil => cases hc
  | cons x l ih =>
    have h1 := h x (by simp)
    have h3 : ∀ y ∈ l, f y ≤ g y := fun y hy => h y (by simp [hy])
    simp only [wsum, List.map_cons, List.sum_cons]
    rcases List.mem_cons.1 hc with rfl | hc
    · have := wsum_le h3
      simp only [wsum] at this
      omega
    · have := ih h3 hc
      simp only [wsum] at this
      omega
theorem wsum_const {α : Type} (k : Nat) (l : List α) {f : α → Nat} (h : ∀ x ∈ l, f x ≤ k) : wsum f l ≤ l.length * k := by
  induction l with
  | nil => simp [wsum]
  | cons x l ih =>
    have h1 := h x (by simp)
    have h2 := ih (fun y hy => h y (by simp [hy]))
    simp only [wsum, List.map_cons, List.sum_cons, List.length_cons, Nat.add_mul] at h2 ⊢
    omega
/-- how many are not in the set -/
def freeS {α : Type} (V : α → Bool) (l : List α) : Nat := wsum (fun c => if V c then 0 else 1) l
theorem freeS_add {α : Type} [DecidableEq α] {V : α → Bool} {c : α} {l : List α} (hc : c ∈ l) (hn : V c = false) : freeS (addS V c) l < freeS V l := by
  refine wsum_lt (fun x _ => ?_) hc ?_
  · unfold addS
    by_cases h : x = c <;> simp [h]
  · simp [addS, hn]
theorem freeS_le {α : Type} (V : α → Bool) (l : List α) : freeS V l ≤ l.length := by
  have := wsum_const 1 l (f := fun c => if V c then 0 else 1) (fun x _ => by split <;> simp)
  rwa [Nat.mul_one] at this
end Go.Proofs.Ytmejihlplbeekaa
