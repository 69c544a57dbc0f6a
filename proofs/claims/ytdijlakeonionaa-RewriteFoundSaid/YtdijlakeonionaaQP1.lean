/-
  The machine of a rule in plain words: from a state it accepts a list with what the rule makes of it, and with nothing else.
-/
import Derived.Test.YtdijlakeonionaaQ5
namespace Go.Proofs.Ytdijlakeonionaa
def toF : List Int → List Int → Int → Int
  | f :: fr, t :: tto, x => if f = x then t else toF fr tto x
  | _, _, x => x
/-- what stands at an index of a list behind the rule: nothing, or one segment -/
def outB (I : List PPh) (R : PRule) (l : List Int) (i : Nat) : Int := if siteB I R l i then toF R.fr R.tto (l.getD i 0) else l.getD i 0
def applyK (I : List PPh) (R : PRule) (l : List Int) (k : Nat) : List Int := (List.range k).flatMap fun i => sym (outB I R l i)
def applyF (I : List PPh) (R : PRule) (l : List Int) : List Int := applyK I R l l.length
def sitesK (I : List PPh) (R : PRule) (l : List Int) (k : Nat) : List Int := ((List.range k).filter fun i => siteB I R l i).map fun (i : Nat) => (i : Int)
def sitesF (I : List PPh) (R : PRule) (l : List Int) : List Int := sitesK I R l l.length
theorem applyK_succ (I : List PPh) (R : PRule) (l : List Int) (k : Nat) : applyK I R l (k + 1) = applyK I R l k ++ sym (outB I R l k) := by simp [applyK, List.range_succ]
theorem sitesK_succ (I : List PPh) (R : PRule) (l : List Int) (k : Nat) : sitesK I R l (k + 1) = sitesK I R l k ++ if siteB I R l k then [(k : Int)] else [] := by
  simp only [sitesK, List.range_succ, List.filter_append, List.map_append]
  cases h : siteB I R l k <;> simp [h]
/-- the state of the machine -/
structure St where
  cnt : Int
  near : Int
  far : Int
  o0 : Int
  o1 : Int
  o2 : Int
  deriving DecidableEq
def St.zero : St := ⟨0, 0, 0, 0, 0, 0⟩
def St.ow (s : St) : Nat → Int
  | 0 => s.o0
  | 1 => s.o1
  | _ => s.o2
def St.set (s : St) (k : Nat) (g : Int) : St :=
  match k with
  | 0 => { s with o0 := g }
  | 1 => { s with o1 := g }
  | _ => { s with o2 := g }
/-- is a segment in the class with an index -/
def inK (I : List PPh) (l : List PCls) (k : Nat) (x : Int) : Bool := match l[k]? with | some c => inB I x c | none => false
def bitZ (b : Bool) (n : Int) : Int := if b then n else 0
def openB (R : PRule) (s : St) : Bool :=
  decide ((R.lft.length : Int) ≤ s.cnt) && (!(R.beg && decide ((R.lft.length : Int) < s.cnt)) &&
    ((match R.lft.length with | 0 => true | 1 => s.near % 2 == 1 | _ => s.near / 2 % 2 == 1) && (match R.lft.length with | 0 => true | 1 => true | _ => s.far % 2 == 1)))
def cntF (R : PRule) (s : St) : Int := if R.beg then min (s.cnt + 1) ((R.lft.length : Int) + 1) else min (s.cnt + 1) (R.lft.length : Int)
def baseM (I : List PPh) (R : PRule) (s : St) (x : Int) : St :=
  ⟨cntF R s, if (R.lft.length : Int) < cntF R s then 0 else bitZ (inK I R.lft 0 x) 1 + bitZ (inK I R.lft 1 x) 2,
    if R.lft.length < 2 ∨ (R.lft.length : Int) < cntF R s then 0 else s.near % 2, 0, 0, 0⟩
def oweM (R : PRule) (s : St) (k : Nat) (g : Int) : Option St := if k == R.rgt.length && !R.fin then (if 0 < g then some s else none) else some (s.set k g)
def readStep (I : List PPh) (R : PRule) (x : Int) (k : Nat) (g : Int) (n : St) : Option St :=
  if g = 0 then some n else if inK I R.rgt k x then oweM R n (k + 1) g else if 0 < g then none else some n
def readM (I : List PPh) (R : PRule) (s : St) (x : Int) : Option St :=
  ((readStep I R x 0 s.o0 (baseM I R s x)).bind (readStep I R x 1 s.o1)).bind (readStep I R x 2 s.o2)
def endK (R : PRule) (k : Nat) (g : Int) : Bool := g == 0 || (decide (0 < g) == (k == R.rgt.length))
def endM (R : PRule) (s : St) : Bool := endK R 0 s.o0 && (endK R 1 s.o1 && endK R 2 s.o2)
def oweL (R : PRule) (s : St) (g : Int) (o : Int) : List (Int × St) := match oweM R s 0 g with | some t => [(o, t)] | none => []
def nextM (I : List PPh) (R : PRule) (s : St) (x : Int) : List (Int × St) :=
  match readM I R s x with
  | none => []
  | some b => if hasB R.fr x && openB R s then oweL R b 1 (toF R.fr R.tto x) ++ oweL R b (-1) x else [(x, b)]
def accM (I : List PPh) (R : PRule) : St → List Int → List Int → Prop
  | s, [], out => endM R s = true ∧ out = []
  | s, x :: v, out => ∃ p, p ∈ nextM I R s x ∧ ∃ out', out = sym p.1 ++ out' ∧ accM I R p.2 v out'
/-- what is behind a list fits the right side from a class on -/
def fitR (I : List PPh) (R : PRule) (k : Nat) (v : List Int) : Bool :=
  decide (R.rgt.length - k ≤ v.length) && ((!R.fin || decide (v.length ≤ R.rgt.length - k)) && fitsB I (R.rgt.drop k) v)
def backL (I : List PPh) (R : PRule) (pre : List Int) : Bool :=
  decide (R.lft.length ≤ pre.length) && ((!R.beg || decide (pre.length ≤ R.lft.length)) && fitsB I R.lft (pre.drop (pre.length - R.lft.length)))
def siteC (I : List PPh) (R : PRule) (pre : List Int) (x : Int) (v : List Int) : Bool := hasB R.fr x && (backL I R pre && fitR I R 0 v)
def applyR (I : List PPh) (R : PRule) : List Int → List Int → List Int
  | _, [] => []
  | pre, x :: v => sym (if siteC I R pre x v then toF R.fr R.tto x else x) ++ applyR I R (pre ++ [x]) v
theorem fitsB_app (I : List PPh) : ∀ (l : List PCls) (s t : List Int), l.length ≤ s.length → fitsB I l (s ++ t) = fitsB I l s
  | [], s, t, _ => by cases s <;> cases t <;> rfl
  | c :: l, [], t, h => by simp at h
  | c :: l, x :: s, t, h => by
    simp only [List.cons_append, fitsB]
    rw [fitsB_app I l s t (by simpa using h)]
theorem site_cut (I : List PPh) (R : PRule) (pre : List Int) (x : Int) (v : List Int) : siteB I R (pre ++ x :: v) pre.length = siteC I R pre x v := by
  have e1 : (pre ++ x :: v).getD pre.length 0 = x := by simp [List.getD]
  have e2 : (pre ++ x :: v).drop (pre.length + 1) = v := by
    rw [show pre ++ x :: v = (pre ++ [x]) ++ v by simp, List.drop_append_of_le_length (by simp)]; simp
  have e3 : (pre ++ x :: v).length = pre.length + 1 + v.length := by simp; omega
  rw [siteB, siteC, backL, fitR, e1, e2, e3]
  cases hasB R.fr x
  · rfl
  by_cases h1 : R.lft.length ≤ pre.length
  · have e4 : fitsB I R.lft ((pre ++ x :: v).drop (pre.length - R.lft.length)) = fitsB I R.lft (pre.drop (pre.length - R.lft.length)) := by
      rw [List.drop_append_of_le_length (by omega), fitsB_app I _ _ _ (by simp; omega)]
    rw [e4, decide_eq_true h1]
    have e5 : decide (pre.length + 1 + R.rgt.length ≤ pre.length + 1 + v.length) = decide (R.rgt.length - 0 ≤ v.length) := by rw [decide_eq_decide]; omega
    have e6 : decide (pre.length + 1 + v.length ≤ pre.length + 1 + R.rgt.length) = decide (v.length ≤ R.rgt.length - 0) := by rw [decide_eq_decide]; omega
    rw [e5, e6, List.drop_zero]
    cases decide (R.rgt.length - 0 ≤ v.length) <;> cases (!R.beg || decide (pre.length ≤ R.lft.length)) <;> cases (!R.fin || decide (v.length ≤ R.rgt.length - 0)) <;> cases fitsB I R.lft (pre.drop (pre.length - R.lft.length)) <;> rfl
  · rw [decide_eq_false h1]; rfl
theorem apply_from (I : List PPh) (R : PRule) : ∀ (v pre : List Int), (List.range v.length).flatMap (fun i => sym (outB I R (pre ++ v) (pre.length + i))) = applyR I R pre v
  | [], pre => rfl
  | x :: v, pre => by
    have ih := apply_from I R v (pre ++ [x])
    rw [applyR, List.length_cons, List.range_succ_eq_map, List.flatMap_cons, List.flatMap_map, ← ih]
    have e1 : outB I R (pre ++ x :: v) (pre.length + 0) = if siteC I R pre x v then toF R.fr R.tto x else x := by
      rw [outB, Nat.add_zero, site_cut]; simp [List.getD]
    rw [e1]
    congr 1
    rw [List.flatMap_def, List.flatMap_def]
    congr 1
    apply List.map_congr_left
    intro i _
    rw [show pre ++ [x] ++ v = pre ++ x :: v by simp, show (pre ++ [x]).length + i = pre.length + (i + 1) by simp; omega]
theorem apply_R (I : List PPh) (R : PRule) (l : List Int) : applyF I R l = applyR I R [] l := by
  rw [← apply_from I R l []]; simp [applyF, applyK]
/-- what a state says of the list that was read -/
structure LInv (I : List PPh) (R : PRule) (s : St) (pre : List Int) : Prop where
  cnt : s.cnt = if R.beg then min (pre.length : Int) ((R.lft.length : Int) + 1) else min (pre.length : Int) (R.lft.length : Int)
  near : s.near = if (R.lft.length : Int) < s.cnt then 0 else match pre.getLast? with | some x => bitZ (inK I R.lft 0 x) 1 + bitZ (inK I R.lft 1 x) 2 | none => 0
  far : s.far = if R.lft.length < 2 ∨ (R.lft.length : Int) < s.cnt then 0 else match pre.dropLast.getLast? with | some x => bitZ (inK I R.lft 0 x) 1 | none => 0
theorem LInv.zero (I : List PPh) (R : PRule) : LInv I R St.zero [] := by
  refine ⟨?_, ?_, ?_⟩ <;> simp [St.zero] <;> omega
theorem bit_mod (a b : Bool) : (bitZ a 1 + bitZ b 2) % 2 = bitZ a 1 := by cases a <;> cases b <;> rfl
theorem bit_div (a b : Bool) : (bitZ a 1 + bitZ b 2) / 2 % 2 = bitZ b 1 := by cases a <;> cases b <;> rfl
theorem bitZ_eq (a : Bool) : (bitZ a 1 == 1) = a := by cases a <;> rfl
theorem bitZ_mod (a : Bool) : bitZ a 1 % 2 = bitZ a 1 := by cases a <;> rfl
theorem LInv.step {I : List PPh} {R : PRule} {s : St} {pre : List Int} (h : LInv I R s pre) (x : Int) : LInv I R (baseM I R s x) (pre ++ [x]) := by
  have hc : cntF R s = if R.beg then min ((pre ++ [x]).length : Int) ((R.lft.length : Int) + 1) else min ((pre ++ [x]).length : Int) (R.lft.length : Int) := by
    rw [cntF, h.cnt]
    cases R.beg <;> simp only [List.length_append, List.length_singleton, Bool.false_eq_true, if_false, if_true] <;> omega
  refine ⟨hc, ?_, ?_⟩
  · simp [baseM]
  · simp only [baseM, List.dropLast_concat]
    by_cases h1 : R.lft.length < 2 ∨ (R.lft.length : Int) < cntF R s
    · rw [if_pos h1, if_pos h1]
    · rw [if_neg h1, if_neg h1, h.near]
      have h2 : ¬ (R.lft.length : Int) < s.cnt := by
        intro h3
        apply h1
        right
        rw [cntF]
        have := h.cnt
        cases hb : R.beg <;> rw [hb] at this <;> simp only [Bool.false_eq_true, if_false, if_true] at this ⊢ <;> omega
      rw [if_neg h2]
      cases pre.getLast? with
      | none => rfl
      | some y => simp only [bit_mod]
theorem cut_last (pre : List Int) (n : Nat) (h : n + 1 ≤ pre.length) : pre.drop (pre.length - (n + 1)) = pre.dropLast.drop (pre.dropLast.length - n) ++ [pre.getLast (by intro h0; rw [h0] at h; simp at h)] := by
  have h0 : pre ≠ [] := by intro h0; rw [h0] at h; simp at h
  conv => lhs; rw [← List.dropLast_concat_getLast h0]
  rw [List.drop_append_of_le_length (by simp)]
  congr 2
  simp
theorem LInv.open_ {I : List PPh} {R : PRule} {s : St} {pre : List Int} (h : LInv I R s pre) (hl : R.lft.length ≤ 2) : openB R s = backL I R pre := by
  have hcn := h.cnt
  have e1 : decide ((R.lft.length : Int) ≤ s.cnt) = decide (R.lft.length ≤ pre.length) := by
    rw [decide_eq_decide, hcn]; cases R.beg <;> simp only [Bool.false_eq_true, if_false, if_true] <;> omega
  have e2 : (R.beg && decide ((R.lft.length : Int) < s.cnt)) = !(!R.beg || decide (pre.length ≤ R.lft.length)) := by
    rw [hcn]; cases R.beg
    · rfl
    · simp only [if_true, Bool.true_and, Bool.not_true, Bool.false_or]
      rw [← decide_not, decide_eq_decide]; omega
  rw [openB, backL, e1, e2, Bool.not_not]
  by_cases h1 : R.lft.length ≤ pre.length
  rotate_left
  · rw [decide_eq_false h1]; rfl
  rw [decide_eq_true h1]
  cases h2 : (!R.beg || decide (pre.length ≤ R.lft.length))
  · rfl
  congr 2
  have h3 : ¬ (R.lft.length : Int) < s.cnt := by
    rw [hcn]
    cases hb : R.beg
    · simp; omega
    · rw [hb] at h2; simp at h2; simp; omega
  have hn := h.near
  have hf := h.far
  rw [if_neg h3] at hn
  have hcl : R.lft = [] ∨ (∃ a, R.lft = [a]) ∨ ∃ a b, R.lft = [a, b] := by
    rcases hL : R.lft with _ | ⟨a, _ | ⟨b, _ | ⟨c, t⟩⟩⟩
    · exact .inl rfl
    · exact .inr (.inl ⟨a, rfl⟩)
    · exact .inr (.inr ⟨a, b, rfl⟩)
    · rw [hL] at hl; simp at hl
  rcases hcl with hL | ⟨a, hL⟩ | ⟨a, b, hL⟩
  · rw [hL]; simp [fitsB]
  · rw [hL] at h1 hn ⊢
    have h0 : pre ≠ [] := by intro h0; rw [h0] at h1; simp at h1
    rw [List.length_singleton, cut_last pre 0 h1]
    have e : pre.dropLast.drop (pre.dropLast.length - 0) = [] := by simp
    rw [e]
    rw [List.getLast?_eq_some_getLast h0] at hn
    simp only at hn
    simp only [hn, bit_mod, bitZ_eq, inK, List.nil_append, fitsB]
    simp
  · rw [hL] at h1 hn hf ⊢
    have h0 : pre ≠ [] := by intro h0; rw [h0] at h1; simp at h1
    have h1' : 1 ≤ pre.dropLast.length := by simp at h1 ⊢; omega
    have h0' : pre.dropLast ≠ [] := by intro h0'; rw [h0'] at h1'; simp at h1'
    rw [if_neg (by rw [hL] at h3; simp at h3 ⊢; omega), List.getLast?_eq_some_getLast h0'] at hf
    rw [List.getLast?_eq_some_getLast h0] at hn
    simp only at hn hf
    rw [show ([a, b] : List PCls).length = 1 + 1 from rfl, cut_last pre 1 h1, cut_last _ 0 h1']
    have e : pre.dropLast.dropLast.drop (pre.dropLast.dropLast.length - 0) = [] := by simp
    rw [e]
    simp only [hn, hf, bit_div, bitZ_mod, bitZ_eq, inK, List.nil_append, List.cons_append, fitsB]
    exact (by intro x y; cases x <;> cases y <;> rfl : ∀ x y : Bool, (y && x) = (x && (y && true))) _ _
/-- what is owed -/
def obl (I : List PPh) (R : PRule) (k : Nat) (g : Int) (v : List Int) : Prop := g = 0 ∨ fitR I R k v = decide (0 < g)
structure OInv (R : PRule) (s : St) : Prop where
  p0 : s.o0 = 0 ∨ (0 < R.rgt.length ∨ R.fin = true)
  p1 : s.o1 = 0 ∨ (1 < R.rgt.length ∨ R.rgt.length = 1 ∧ R.fin = true)
  p2 : s.o2 = 0 ∨ (2 < R.rgt.length ∨ R.rgt.length = 2 ∧ R.fin = true)
def sat (I : List PPh) (R : PRule) (s : St) (v : List Int) : Prop := obl I R 0 s.o0 v ∧ obl I R 1 s.o1 v ∧ obl I R 2 s.o2 v
theorem OInv.zero (R : PRule) : OInv R St.zero := ⟨.inl rfl, .inl rfl, .inl rfl⟩
theorem sat_zero (I : List PPh) (R : PRule) (v : List Int) : sat I R St.zero v := ⟨.inl rfl, .inl rfl, .inl rfl⟩
theorem fitR_nil (I : List PPh) (R : PRule) (k : Nat) (h : k < R.rgt.length ∨ R.rgt.length = k ∧ R.fin = true) : fitR I R k [] = (k == R.rgt.length) := by
  rw [fitR]
  rcases h with h | ⟨h, h'⟩
  · rw [decide_eq_false (by simp; omega), Bool.false_and]
    symm; rw [beq_eq_false_iff_ne]; omega
  · subst h
    have : R.rgt.drop R.rgt.length = [] := List.drop_length
    rw [this, h']; simp [fitsB]
theorem endK_iff (I : List PPh) (R : PRule) (k : Nat) (g : Int) (h : g = 0 ∨ (k < R.rgt.length ∨ R.rgt.length = k ∧ R.fin = true)) : endK R k g = true ↔ obl I R k g [] := by
  rw [endK, obl]
  by_cases hg : g = 0
  · simp [hg]
  · have h' : k < R.rgt.length ∨ R.rgt.length = k ∧ R.fin = true := by rcases h with h | h; exact absurd h hg; exact h
    rw [fitR_nil I R k h']
    have : (g == 0) = false := by simp [hg]
    rw [this, Bool.false_or, beq_iff_eq]
    constructor
    · exact fun h => .inr h.symm
    · rintro (h | h)
      · exact absurd h hg
      · exact h.symm
theorem fitR_cons (I : List PPh) (R : PRule) (k : Nat) (x : Int) (v : List Int) (h : k < R.rgt.length) : fitR I R k (x :: v) = (inK I R.rgt k x && fitR I R (k + 1) v) := by
  rw [fitR, fitR, inK, List.getElem?_eq_getElem h, List.drop_eq_getElem_cons h, fitsB]
  have e1 : decide (R.rgt.length - k ≤ (x :: v).length) = decide (R.rgt.length - (k + 1) ≤ v.length) := by rw [decide_eq_decide]; simp; omega
  have e2 : decide ((x :: v).length ≤ R.rgt.length - k) = decide (v.length ≤ R.rgt.length - (k + 1)) := by rw [decide_eq_decide]; simp; omega
  rw [e1, e2]
  simp only
  cases decide (R.rgt.length - (k + 1) ≤ v.length) <;> cases (!R.fin || decide (v.length ≤ R.rgt.length - (k + 1))) <;> cases inB I x R.rgt[k] <;> cases fitsB I (List.drop (k + 1) R.rgt) v <;> rfl
theorem fitR_over (I : List PPh) (R : PRule) (k : Nat) (x : Int) (v : List Int) (h : R.rgt.length = k) (hf : R.fin = true) : fitR I R k (x :: v) = false := by
  rw [fitR, hf]; subst h; simp
theorem fitR_done (I : List PPh) (R : PRule) (k : Nat) (v : List Int) (h : R.rgt.length = k) (hf : R.fin = false) : fitR I R k v = true := by
  rw [fitR, hf]; subst h; simp [fitsB]
/-- what becomes of a thing that is owed: what is owed of the next class, or nothing at all -/
def carry (I : List PPh) (R : PRule) (x : Int) (k : Nat) (g : Int) : Option Int :=
  if g = 0 then some 0 else if inK I R.rgt k x then (if k + 1 == R.rgt.length && !R.fin then (if 0 < g then some 0 else none) else some g) else if 0 < g then none else some 0
theorem inK_lt {I : List PPh} {l : List PCls} {k : Nat} {x : Int} (h : inK I l k x = true) : k < l.length := by
  rw [inK] at h
  rcases Nat.lt_or_ge k l.length with h1 | h1
  · exact h1
  · rw [List.getElem?_eq_none h1] at h; cases h
def okO (R : PRule) (k : Nat) (g : Int) : Prop := g = 0 ∨ (k < R.rgt.length ∨ R.rgt.length = k ∧ R.fin = true)
theorem carry_sat (I : List PPh) (R : PRule) (x : Int) (k : Nat) (g : Int) (v : List Int) (h : okO R k g) :
    obl I R k g (x :: v) ↔ ∃ a, carry I R x k g = some a ∧ obl I R (k + 1) a v := by
  by_cases hg : g = 0
  · subst hg
    exact ⟨fun _ => ⟨0, rfl, .inl rfl⟩, fun _ => .inl rfl⟩
  have h' : k < R.rgt.length ∨ R.rgt.length = k ∧ R.fin = true := by rcases h with h | h; exact absurd h hg; exact h
  rw [carry, if_neg hg, obl]
  cases hin : inK I R.rgt k x
  · have hf : fitR I R k (x :: v) = false := by
      rcases h' with h' | ⟨h', h2⟩
      · rw [fitR_cons I R k x v h', hin]; rfl
      · exact fitR_over I R k x v h' h2
    rw [hf]
    by_cases hp : 0 < g
    · simp [hp, hg]
    · simp [hp, hg, obl]
  · have hk := inK_lt hin
    rw [fitR_cons I R k x v hk, hin, Bool.true_and]
    by_cases hd : k + 1 = R.rgt.length ∧ R.fin = false
    · rw [fitR_done I R (k + 1) v hd.1.symm hd.2]
      by_cases hp : 0 < g
      · simp [hp, hg, hd.1, hd.2, obl]
      · simp [hp, hg, hd.1, hd.2]
    · have hd' : (k + 1 == R.rgt.length && !R.fin) = false := by
        rw [Bool.eq_false_iff]; intro h; apply hd; simpa using h
      rw [hd']
      simp [hg, obl]
theorem carry_ok {I : List PPh} {R : PRule} {x : Int} {k : Nat} {g a : Int} (h : carry I R x k g = some a) : okO R (k + 1) a := by
  rw [carry] at h
  by_cases hg : g = 0
  · rw [if_pos hg] at h; exact .inl (Option.some.inj h).symm
  rw [if_neg hg] at h
  cases hin : inK I R.rgt k x
  · rw [hin] at h
    by_cases hp : 0 < g
    · simp [hp] at h
    · simp [hp] at h; exact .inl h.symm
  · have hk := inK_lt hin
    rw [hin] at h
    by_cases hd : k + 1 = R.rgt.length ∧ R.fin = false
    · by_cases hp : 0 < g
      · simp [hp, hd.1, hd.2] at h; exact .inl h.symm
      · simp [hp, hd.1, hd.2] at h
    · have hd' : (k + 1 == R.rgt.length && !R.fin) = false := by
        rw [Bool.eq_false_iff]; intro h; apply hd; simpa using h
      rw [hd'] at h
      right
      rcases Nat.lt_or_ge (k + 1) R.rgt.length with h1 | h1
      · exact .inl h1
      · have h2 : k + 1 = R.rgt.length := by omega
        refine .inr ⟨h2.symm, ?_⟩
        cases hf : R.fin
        · exact absurd ⟨h2, hf⟩ hd
        · rfl
theorem carry_two {I : List PPh} {R : PRule} {x : Int} {g a : Int} (hr : R.rgt.length ≤ 2) (h : carry I R x 2 g = some a) : a = 0 := by
  rw [carry] at h
  by_cases hg : g = 0
  · rw [if_pos hg] at h; exact (Option.some.inj h).symm
  rw [if_neg hg] at h
  cases hin : inK I R.rgt 2 x
  · rw [hin] at h
    by_cases hp : 0 < g
    · simp [hp] at h
    · simp [hp] at h; exact h.symm
  · have hk := inK_lt hin; omega
theorem set_zero (n : St) (k : Nat) (h : n.ow k = 0) : n.set k 0 = n := by
  obtain ⟨c, a, b, d, e, f⟩ := n
  match k, h with
  | 0, h => simp only [St.ow] at h; subst h; rfl
  | 1, h => simp only [St.ow] at h; subst h; rfl
  | k + 2, h => simp only [St.ow] at h; subst h; rfl
theorem step_carry (I : List PPh) (R : PRule) (x : Int) (k : Nat) (g : Int) (n : St) (h : n.ow (k + 1) = 0) : readStep I R x k g n = (carry I R x k g).map fun a => n.set (k + 1) a := by
  have h0 := set_zero n (k + 1) h
  rw [readStep, carry]
  by_cases hg : g = 0
  · simp [hg, h0]
  rw [if_neg hg, if_neg hg]
  cases hin : inK I R.rgt k x
  · by_cases hp : 0 < g <;> simp [hp, h0]
  · rw [oweM]
    by_cases hd : (k + 1 == R.rgt.length && !R.fin) = true
    · rw [hd]; by_cases hp : 0 < g <;> simp [hp, h0]
    · simp only [Bool.not_eq_true] at hd
      rw [hd]; simp
theorem read_carry (I : List PPh) (R : PRule) (s : St) (x : Int) (hr : R.rgt.length ≤ 2) (b : St) : readM I R s x = some b ↔ ∃ a0 a1, carry I R x 0 s.o0 = some a0 ∧ carry I R x 1 s.o1 = some a1 ∧ carry I R x 2 s.o2 = some 0 ∧
    b = { baseM I R s x with o1 := a0, o2 := a1 } := by
  rw [readM, step_carry I R x 0 s.o0 _ rfl]
  cases h0 : carry I R x 0 s.o0 with
  | none => simp
  | some a0 =>
    simp only [Option.map_some, Option.bind_some]
    rw [step_carry I R x 1 s.o1 _ rfl]
    cases h1 : carry I R x 1 s.o1 with
    | none => simp
    | some a1 =>
      simp only [Option.map_some, Option.bind_some, readStep]
      have hin : inK I R.rgt 2 x = false := by
        cases h : inK I R.rgt 2 x
        · rfl
        · have := inK_lt h; omega
      have hc : carry I R x 2 s.o2 = if s.o2 = 0 then some 0 else if 0 < s.o2 then none else some 0 := by rw [carry, hin]; rfl
      rw [hin, hc]
      by_cases hg : s.o2 = 0
      · rw [if_pos hg, if_pos hg]
        exact ⟨fun h => ⟨a0, a1, rfl, rfl, rfl, (Option.some.inj h).symm⟩, fun ⟨_, _, h3, h4, _, h5⟩ => by cases h3; cases h4; rw [h5]; rfl⟩
      · by_cases hp : 0 < s.o2
        · simp [hg, hp]
        · rw [if_neg hg, if_neg hg, if_neg hp, if_neg hp, if_neg (by decide)]
          exact ⟨fun h => ⟨a0, a1, rfl, rfl, rfl, (Option.some.inj h).symm⟩, fun ⟨_, _, h3, h4, _, h5⟩ => by cases h3; cases h4; rw [h5]; rfl⟩
theorem LInv.low {I : List PPh} {R : PRule} {s t : St} {pre : List Int} (h : LInv I R s pre) (h1 : t.cnt = s.cnt) (h2 : t.near = s.near) (h3 : t.far = s.far) : LInv I R t pre := by
  refine ⟨?_, ?_, ?_⟩
  · rw [h1]; exact h.cnt
  · rw [h1, h2]; exact h.near
  · rw [h1, h3]; exact h.far
theorem obl_of_ok {I : List PPh} {R : PRule} {k : Nat} {v : List Int} : obl I R k 0 v := .inl rfl
/-- after a segment: what was owed holds of the list exactly if the machine goes on, and what is owed then holds of the rest -/
theorem read_sat (I : List PPh) (R : PRule) (s : St) (x : Int) (v : List Int) (hr : R.rgt.length ≤ 2) (h : OInv R s) : sat I R s (x :: v) ↔ ∃ b, readM I R s x = some b ∧ sat I R b v := by
  have c0 := carry_sat I R x 0 s.o0 v (by rcases h.p0 with h | h | h; exact .inl h; exact .inr (.inl h); rcases Nat.eq_zero_or_pos R.rgt.length with h0 | h0; exact .inr (.inr ⟨h0, h⟩); exact .inr (.inl h0))
  have c1 := carry_sat I R x 1 s.o1 v h.p1
  have c2 := carry_sat I R x 2 s.o2 v h.p2
  rw [sat, c0, c1, c2]
  constructor
  · rintro ⟨⟨a0, e0, s0⟩, ⟨a1, e1, s1⟩, a2, e2, s2⟩
    have := carry_two hr e2
    subst this
    exact ⟨_, (read_carry I R s x hr _).2 ⟨a0, a1, e0, e1, e2, rfl⟩, .inl rfl, s0, s1⟩
  · rintro ⟨b, hb, t0, t1, t2⟩
    obtain ⟨a0, a1, e0, e1, e2, rfl⟩ := (read_carry I R s x hr b).1 hb
    exact ⟨⟨a0, e0, t1⟩, ⟨a1, e1, t2⟩, 0, e2, .inl rfl⟩
theorem read_inv {I : List PPh} {R : PRule} {s b : St} {x : Int} (hr : R.rgt.length ≤ 2) (h : readM I R s x = some b) : OInv R b ∧ b.o0 = 0 ∧ b.cnt = (baseM I R s x).cnt ∧ b.near = (baseM I R s x).near ∧ b.far = (baseM I R s x).far := by
  obtain ⟨a0, a1, e0, e1, e2, rfl⟩ := (read_carry I R s x hr b).1 h
  exact ⟨⟨.inl rfl, carry_ok e0, carry_ok e1⟩, rfl, rfl, rfl, rfl⟩
theorem owe_sat (I : List PPh) (R : PRule) (b : St) (g o : Int) (v : List Int) (h : b.o0 = 0) (hg : g ≠ 0) (p : Int × St) : (p ∈ oweL R b g o ∧ sat I R p.2 v) ↔ (p = (o, if R.rgt.length = 0 ∧ R.fin = false then b else b.set 0 g) ∧ sat I R b v ∧ fitR I R 0 v = decide (0 < g)) := by
  rw [oweL, oweM]
  by_cases hd : R.rgt.length = 0 ∧ R.fin = false
  · rw [fitR_done I R 0 v hd.1 hd.2]
    by_cases hp : 0 < g
    · simp only [hd.1, hd.2, hp]
      simp
      intro h; rw [h]
    · simp [hd.1, hd.2, hp]
  · have hd' : (0 == R.rgt.length && !R.fin) = false := by
      rw [Bool.eq_false_iff]; intro h; apply hd; simp at h; exact ⟨by simpa using h.1.symm, h.2⟩
    rw [hd', if_neg hd]
    simp only [Bool.false_eq_true, if_false, List.mem_singleton]
    constructor
    · rintro ⟨rfl, s0, s1, s2⟩
      exact ⟨rfl, ⟨.inl h, s1, s2⟩, s0.resolve_left hg⟩
    · rintro ⟨rfl, ⟨s0, s1, s2⟩, hf⟩
      exact ⟨rfl, .inr hf, s1, s2⟩
theorem owe_inv {R : PRule} {b : St} {g o : Int} {p : Int × St} (h : OInv R b) (hp : p ∈ oweL R b g o) : OInv R p.2 ∧ p.1 = o ∧ p.2.cnt = b.cnt ∧ p.2.near = b.near ∧ p.2.far = b.far := by
  rw [oweL, oweM] at hp
  by_cases hd : (0 == R.rgt.length && !R.fin) = true
  · rw [hd] at hp
    by_cases hg : 0 < g
    · simp [hg] at hp; subst hp; exact ⟨h, rfl, rfl, rfl, rfl⟩
    · simp [hg] at hp
  · simp only [Bool.not_eq_true] at hd
    rw [hd] at hp
    simp at hp
    subst hp
    refine ⟨⟨.inr ?_, h.p1, h.p2⟩, rfl, rfl, rfl, rfl⟩
    rcases Nat.eq_zero_or_pos R.rgt.length with h0 | h0
    · right; rw [h0] at hd; simpa using hd
    · exact .inl h0
theorem next_inv {I : List PPh} {R : PRule} {s : St} {pre : List Int} {x : Int} (hr : R.rgt.length ≤ 2) (h : LInv I R s pre) {p : Int × St} (hp : p ∈ nextM I R s x) : LInv I R p.2 (pre ++ [x]) ∧ OInv R p.2 := by
  rw [nextM] at hp
  cases hb : readM I R s x with
  | none => rw [hb] at hp; cases hp
  | some b =>
    rw [hb] at hp
    obtain ⟨ho, h0, h1, h2, h3⟩ := read_inv hr hb
    have hL : LInv I R b (pre ++ [x]) := (h.step x).low h1 h2 h3
    simp only at hp
    split at hp
    · rcases List.mem_append.1 hp with hp | hp
      · obtain ⟨k1, _, k2, k3, k4⟩ := owe_inv ho hp
        exact ⟨hL.low k2 k3 k4, k1⟩
      · obtain ⟨k1, _, k2, k3, k4⟩ := owe_inv ho hp
        exact ⟨hL.low k2 k3 k4, k1⟩
    · have : p = (x, b) := by simpa using hp
      subst this
      exact ⟨hL, ho⟩
theorem endM_sat {I : List PPh} {R : PRule} {s : St} (h : OInv R s) : endM R s = true ↔ sat I R s [] := by
  have c0 := endK_iff I R 0 s.o0 (by rcases h.p0 with h | h | h; exact .inl h; exact .inr (.inl h); rcases Nat.eq_zero_or_pos R.rgt.length with h0 | h0; exact .inr (.inr ⟨h0, h⟩); exact .inr (.inl h0))
  have c1 := endK_iff I R 1 s.o1 h.p1
  have c2 := endK_iff I R 2 s.o2 h.p2
  rw [endM, sat, ← c0, ← c1, ← c2, Bool.and_eq_true, Bool.and_eq_true]
/-- from a state the machine accepts a list with what the rule makes of it, if what is owed holds of it, and with nothing else -/
theorem acc_iff (I : List PPh) (R : PRule) (hl : R.lft.length ≤ 2) (hr : R.rgt.length ≤ 2) : ∀ (v pre : List Int) (s : St) (out : List Int), LInv I R s pre → OInv R s → (accM I R s v out ↔ sat I R s v ∧ out = applyR I R pre v)
  | [], pre, s, out, _, ho => by rw [accM, endM_sat (I := I) ho, applyR]
  | x :: v, pre, s, out, hL, ho => by
    rw [accM, read_sat I R s x v hr ho, applyR]
    have key : ∀ p, p ∈ nextM I R s x → ∀ out', accM I R p.2 v out' ↔ sat I R p.2 v ∧ out' = applyR I R (pre ++ [x]) v := fun p hp out' =>
      acc_iff I R hl hr v (pre ++ [x]) p.2 out' (next_inv hr hL hp).1 (next_inv hr hL hp).2
    cases hb : readM I R s x with
    | none =>
      have : nextM I R s x = [] := by rw [nextM, hb]
      rw [this]; simp
    | some b =>
      obtain ⟨hob, h0, _, _, _⟩ := read_inv hr hb
      have hsite : siteC I R pre x v = (hasB R.fr x && openB R s && fitR I R 0 v) := by rw [siteC, hL.open_ hl, Bool.and_assoc]
      have hn : nextM I R s x = if hasB R.fr x && openB R s then oweL R b 1 (toF R.fr R.tto x) ++ oweL R b (-1) x else [(x, b)] := by rw [nextM, hb]
      rw [hsite]
      cases hho : (hasB R.fr x && openB R s)
      · rw [hho] at hn
        simp only [Bool.false_and, Bool.false_eq_true, if_false] at hn ⊢
        constructor
        · rintro ⟨p, hp, out', rfl, ha⟩
          have hs := (key p hp out').1 ha
          rw [hn] at hp
          have : p = (x, b) := by simpa using hp
          subst this
          exact ⟨⟨b, rfl, hs.1⟩, by rw [hs.2]⟩
        · rintro ⟨⟨b', hb', hs⟩, rfl⟩
          cases hb'
          have hp : (x, b) ∈ nextM I R s x := by rw [hn]; simp
          exact ⟨(x, b), hp, _, rfl, (key _ hp _).2 ⟨hs, rfl⟩⟩
      · rw [hho] at hn
        simp only [if_true] at hn
        rw [Bool.true_and]
        constructor
        · rintro ⟨p, hp, out', rfl, ha⟩
          have hs := (key p hp out').1 ha
          rw [hn] at hp
          rcases List.mem_append.1 hp with hp | hp
          · obtain ⟨hpe, hsb, hf⟩ := (owe_sat I R b 1 _ v h0 (by decide) p).1 ⟨hp, hs.1⟩
            have : fitR I R 0 v = true := by rw [hf]; rfl
            refine ⟨⟨b, rfl, hsb⟩, ?_⟩
            rw [this, hs.2, hpe]; rfl
          · obtain ⟨hpe, hsb, hf⟩ := (owe_sat I R b (-1) _ v h0 (by decide) p).1 ⟨hp, hs.1⟩
            have : fitR I R 0 v = false := by rw [hf]; rfl
            refine ⟨⟨b, rfl, hsb⟩, ?_⟩
            rw [this, hs.2, hpe]; rfl
        · rintro ⟨⟨b', hb', hs⟩, rfl⟩
          cases hb'
          cases hf : fitR I R 0 v
          · have hp := (owe_sat I R b (-1) x v h0 (by decide) _).2 ⟨rfl, hs, by rw [hf]; rfl⟩
            have hp' := hp.1
            refine ⟨_, by rw [hn]; exact List.mem_append.2 (.inr hp'), _, rfl, (key _ (by rw [hn]; exact List.mem_append.2 (.inr hp')) _).2 ⟨hp.2, rfl⟩⟩
          · have hp := (owe_sat I R b 1 (toF R.fr R.tto x) v h0 (by decide) _).2 ⟨rfl, hs, by rw [hf]; rfl⟩
            have hp' := hp.1
            refine ⟨_, by rw [hn]; exact List.mem_append.2 (.inl hp'), _, rfl, (key _ (by rw [hn]; exact List.mem_append.2 (.inl hp')) _).2 ⟨hp.2, rfl⟩⟩
theorem acc_start (I : List PPh) (R : PRule) (hl : R.lft.length ≤ 2) (hr : R.rgt.length ≤ 2) (v out : List Int) : accM I R St.zero v out ↔ out = applyF I R v := by
  rw [acc_iff I R hl hr v [] St.zero out (LInv.zero I R) (OInv.zero R), apply_R]
  exact ⟨fun h => h.2, fun h => ⟨sat_zero I R v, h⟩⟩
end Go.Proofs.Ytdijlakeonionaa
