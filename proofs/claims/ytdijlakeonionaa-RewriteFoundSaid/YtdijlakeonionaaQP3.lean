/-
  What Compile builds, in plain words: a transducer that accepts a list with what the rule makes of it.
-/
import Derived.Test.YtdijlakeonionaaQ11
namespace Go.Proofs.Ytdijlakeonionaa
def owesU : List Int := [-1, 0, 1]
def allSt : List St := [0, 1, 2, 3].flatMap fun c => [0, 1, 2, 3].flatMap fun n => [0, 1].flatMap fun f => owesU.flatMap fun a => owesU.flatMap fun b => owesU.map fun o => ⟨c, n, f, a, b, o⟩
theorem allSt_len : allSt.length = 864 := by kernel_rfl
theorem mem_allSt {s : St} (h : StOk s) : s ∈ allSt := by
  obtain ⟨c, n, f, a, b, o⟩ := s
  have h1 := h.c0; have h2 := h.c1; have h3 := h.n0; have h4 := h.n1; have h5 := h.f0; have h6 := h.f1
  have h7 := h.a0; have h8 := h.a1; have h9 := h.b0; have h10 := h.b1; have h11 := h.d0; have h12 := h.d1
  simp only at h1 h2 h3 h4 h5 h6 h7 h8 h9 h10 h11 h12
  have hw : ∀ x : Int, -1 ≤ x → x ≤ 1 → x ∈ owesU := fun x h0 h1 => by
    have : x = -1 ∨ x = 0 ∨ x = 1 := by omega
    rcases this with rfl | rfl | rfl <;> simp [owesU]
  have h4 : ∀ x : Int, 0 ≤ x → x ≤ 3 → x ∈ [(0 : Int), 1, 2, 3] := fun x h0 h1 => by
    have : x = 0 ∨ x = 1 ∨ x = 2 ∨ x = 3 := by omega
    rcases this with rfl | rfl | rfl | rfl <;> simp
  have h2' : ∀ x : Int, 0 ≤ x → x ≤ 1 → x ∈ [(0 : Int), 1] := fun x h0 h1 => by
    have : x = 0 ∨ x = 1 := by omega
    rcases this with rfl | rfl <;> simp
  exact List.mem_flatMap.2 ⟨c, h4 c (by omega) (by omega), List.mem_flatMap.2 ⟨n, h4 n (by omega) (by omega), List.mem_flatMap.2 ⟨f, h2' f (by omega) (by omega), List.mem_flatMap.2 ⟨a, hw a (by omega) (by omega),
    List.mem_flatMap.2 ⟨b, hw b (by omega) (by omega), List.mem_map.2 ⟨o, hw o (by omega) (by omega), rfl⟩⟩⟩⟩⟩⟩
/-- the number of a state, counted from a state on -/
def posF : List St → St → Nat
  | [], _ => 0
  | t :: L, s => if s = t then 0 else posF L s + 1
theorem posF_app {L : List St} {s : St} (h : s ∈ L) (r : List St) : posF (L ++ r) s = posF L s := by
  induction L with
  | nil => cases h
  | cons t L ih =>
    rw [List.cons_append, posF, posF]
    split
    · rfl
    · rename_i hn
      rw [ih ((List.mem_cons.1 h).resolve_left hn)]
theorem posF_at {L : List St} {s : St} (h : s ∈ L) : L[posF L s]? = some s := by
  induction L with
  | nil => cases h
  | cons t L ih =>
    rw [posF]
    split
    · rename_i e; rw [e]; rfl
    · rename_i hn
      rw [List.getElem?_cons_succ, ih ((List.mem_cons.1 h).resolve_left hn)]
theorem posF_new {L : List St} {s : St} (h : s ∉ L) : posF (L ++ [s]) s = L.length := by
  induction L with
  | nil => rw [List.nil_append, posF, if_pos rfl]; rfl
  | cons t L ih =>
    rw [List.cons_append, posF, if_neg (fun e => h (by rw [e]; simp)), ih fun hm => h (by simp [hm])]; rfl
def fnum (L : List St) : St → Option Int := fun s => if s ∈ L then some (posF L s : Int) else none
theorem fnum_add {L : List St} {s : St} (h : s ∉ L) : put (fnum L) s (L.length : Int) = fnum (L ++ [s]) := by
  funext d
  unfold put fnum
  by_cases hd : d = s
  · subst hd; rw [if_pos rfl, if_pos (by simp), posF_new h]
  · rw [if_neg hd]
    by_cases hm : d ∈ L
    · rw [if_pos hm, if_pos (by simp [hm]), posF_app hm]
    · rw [if_neg hm, if_neg (by simp [hm, hd])]
abbrev Trip := Nat × Int × Int × St
def arcT (L : List St) (t : Trip) : PArc := ⟨t.1, t.2.1, t.2.2.1, posF L t.2.2.2⟩
def mvsT (I : List PPh) (R : PRule) (L : List St) (j : Nat) (g : Nat) : List Trip := (nextM I R (L.getD j St.zero) ((g : Int) + 1)).map fun x => (j, (g : Int) + 1, x)
def rowT (I : List PPh) (R : PRule) (L : List St) (j : Nat) (n : Nat) : List Trip := (List.range n).flatMap fun g => mvsT I R L j g
def tripT (I : List PPh) (R : PRule) (L : List St) (i : Nat) : List Trip := (List.range i).flatMap fun j => rowT I R L j I.length
def finT (R : PRule) (L : List St) (i : Nat) : List Int := ((List.range i).filter fun j => endM R (L.getD j St.zero)).map fun (j : Nat) => (j : Int)
theorem rowT_succ (I : List PPh) (R : PRule) (L : List St) (j n : Nat) : rowT I R L j (n + 1) = rowT I R L j n ++ mvsT I R L j n := by
  rw [rowT, List.range_succ, List.flatMap_append]; simp [rowT]
theorem tripT_succ (I : List PPh) (R : PRule) (L : List St) (i : Nat) : tripT I R L (i + 1) = tripT I R L i ++ rowT I R L i I.length := by
  rw [tripT, List.range_succ, List.flatMap_append]; simp [tripT]
theorem finT_succ (R : PRule) (L : List St) (i : Nat) : finT R L (i + 1) = finT R L i ++ if endM R (L.getD i St.zero) then [(i : Int)] else [] := by
  simp only [finT, List.range_succ, List.filter_append, List.map_append]
  cases h : endM R (L.getD i St.zero) <;> simp [h, -List.getD_eq_getElem?_getD]
theorem getD_app {L r : List St} {j : Nat} (h : j < L.length) : (L ++ r).getD j St.zero = L.getD j St.zero := by
  rw [List.getD_eq_getElem?_getD, List.getD_eq_getElem?_getD, List.getElem?_append_left h]
theorem flatMap_cong {α β : Type} {l : List α} {f g : α → List β} (h : ∀ x ∈ l, f x = g x) : l.flatMap f = l.flatMap g := by
  induction l with
  | nil => rfl
  | cons a l ih => rw [List.flatMap_cons, List.flatMap_cons, h a (by simp), ih fun x hx => h x (by simp [hx])]
theorem rowT_app (I : List PPh) (R : PRule) {L : List St} (r : List St) {j : Nat} (h : j < L.length) (n : Nat) : rowT I R (L ++ r) j n = rowT I R L j n := by
  refine flatMap_cong fun g _ => ?_
  rw [mvsT, mvsT, getD_app h]
theorem tripT_app (I : List PPh) (R : PRule) {L : List St} (r : List St) {i : Nat} (h : i ≤ L.length) : tripT I R (L ++ r) i = tripT I R L i :=
  flatMap_cong fun _ hj => rowT_app I R r (Nat.lt_of_lt_of_le (List.mem_range.1 hj) h) _
theorem finT_app (R : PRule) {L : List St} (r : List St) {i : Nat} (h : i ≤ L.length) : finT R (L ++ r) i = finT R L i := by
  rw [finT, finT]
  congr 1
  refine List.filter_congr fun j hj => ?_
  rw [getD_app (Nat.lt_of_lt_of_le (List.mem_range.1 hj) h)]
theorem flatMap_len {α β : Type} {l : List α} {f : α → List β} {m : Nat} (h : ∀ x ∈ l, (f x).length ≤ m) : (l.flatMap f).length ≤ l.length * m := by
  induction l with
  | nil => simp
  | cons a l ih =>
    rw [List.flatMap_cons, List.length_append, List.length_cons, Nat.succ_mul, Nat.add_comm]
    exact Nat.add_le_add (ih fun x hx => h x (by simp [hx])) (h a (by simp))
theorem mvsT_len (I : List PPh) (R : PRule) (L : List St) (j g : Nat) : (mvsT I R L j g).length ≤ 2 := by
  rw [mvsT, List.length_map]; exact next_len _ _ _ _
theorem rowT_len (I : List PPh) (R : PRule) (L : List St) (j n : Nat) : (rowT I R L j n).length ≤ n * 2 := by
  have := flatMap_len (l := List.range n) (f := fun g => mvsT I R L j g) (m := 2) fun g _ => mvsT_len I R L j g
  rwa [List.length_range] at this
theorem tripT_len (I : List PPh) (R : PRule) (L : List St) (i : Nat) : (tripT I R L i).length ≤ i * (I.length * 2) := by
  have := flatMap_len (l := List.range i) (f := fun j => rowT I R L j I.length) (m := I.length * 2) fun j _ => rowT_len I R L j _
  rwa [List.length_range] at this
theorem finT_len (R : PRule) (L : List St) (i : Nat) : (finT R L i).length ≤ i := by
  rw [finT, List.length_map]
  exact Nat.le_trans (List.length_filter_le _ _) (by simp)
/-- the states that were met, and the arcs that were written -/
structure CI (L : List St) (T : List Trip) : Prop where
  nd : L.Nodup
  z : L[0]? = some St.zero
  ok : ∀ s ∈ L, StOk s
  tin : ∀ t ∈ T, t.2.2.2 ∈ L
theorem CI.len {L : List St} {T : List Trip} (h : CI L T) : L.length ≤ 864 := by
  rw [← allSt_len]
  exact nodup_le L allSt h.nd fun s hs => mem_allSt (h.ok s hs)
theorem CI.pos {L : List St} {T : List Trip} (h : CI L T) : 0 < L.length := by
  have := h.z
  rcases Nat.eq_zero_or_pos L.length with h0 | h0
  · rw [List.length_eq_zero_iff.1 h0] at this; cases this
  · exact h0
theorem CI.start : CI [St.zero] [] := by
  refine ⟨by simp, rfl, fun s hs => ?_, fun t ht => nomatch ht⟩
  rw [List.mem_singleton.1 hs]
  constructor <;> decide
theorem CI.old {L : List St} {T : List Trip} (h : CI L T) {t : Trip} (ht : t.2.2.2 ∈ L) : CI L (T ++ [t]) := by
  refine ⟨h.nd, h.z, h.ok, fun u hu => ?_⟩
  rcases List.mem_append.1 hu with hu | hu
  · exact h.tin u hu
  · rw [List.mem_singleton.1 hu]; exact ht
theorem CI.new {L : List St} {T : List Trip} (h : CI L T) {t : Trip} (ht : t.2.2.2 ∉ L) (ho : StOk t.2.2.2) : CI (L ++ [t.2.2.2]) (T ++ [t]) := by
  refine ⟨?_, ?_, fun s hs => ?_, fun u hu => ?_⟩
  · rw [List.nodup_append]
    refine ⟨h.nd, by simp, fun a ha b hb => ?_⟩
    rw [List.mem_singleton.1 hb]
    intro e; exact ht (e ▸ ha)
  · rw [List.getElem?_append_left h.pos]; exact h.z
  · rcases List.mem_append.1 hs with hs | hs
    · exact h.ok s hs
    · rw [List.mem_singleton.1 hs]; exact ho
  · rcases List.mem_append.1 hu with hu | hu
    · exact List.mem_append_left _ (h.tin u hu)
    · rw [List.mem_singleton.1 hu]; simp
theorem arcs_old {L : List St} {T : List Trip} (t : Trip) : (T ++ [t]).map (arcT L) = T.map (arcT L) ++ [arcT L t] := by simp
theorem arcs_app {L : List St} {T : List Trip} (h : CI L T) (r : List St) : T.map (arcT (L ++ r)) = T.map (arcT L) := by
  refine List.map_congr_left fun t ht => ?_
  rw [arcT, arcT, posF_app (h.tin t ht)]
def compF (I : List PPh) (R : PRule) (L : List St) : PFst := ⟨(L.length : Int), (tripT I R L L.length).map (arcT L), finT R L L.length⟩
def CompOk (I : List PPh) (R : PRule) (L : List St) : Prop := CI L (tripT I R L L.length)
theorem mem_trip {I : List PPh} {R : PRule} {L : List St} {i : Nat} {t : Trip} : t ∈ tripT I R L i ↔ t.1 < i ∧ (∃ g : Nat, g < I.length ∧ t.2.1 = (g : Int) + 1) ∧ t.2.2 ∈ nextM I R (L.getD t.1 St.zero) t.2.1 := by
  simp only [tripT, rowT, mvsT, List.mem_flatMap, List.mem_map, List.mem_range]
  constructor
  · rintro ⟨j, hj, g, hg, x, hx, rfl⟩; exact ⟨hj, ⟨g, hg, rfl⟩, hx⟩
  · rintro ⟨hj, ⟨g, hg, e⟩, hx⟩
    refine ⟨t.1, hj, g, hg, t.2.2, ?_, ?_⟩
    · rw [← e]; exact hx
    · rw [← e]
theorem out_of {I : List PPh} {R : PRule} {s : St} {x : Int} {p : Int × St} (h : p ∈ nextM I R s x) : p.1 = x ∨ p.1 = toF R.fr R.tto x := by
  have key : ∀ (b : St) (g o : Int), p ∈ oweL R b g o → p.1 = o := fun b g o hm => by
    rw [oweL] at hm
    cases ho : oweM R b 0 g with
    | none => rw [ho] at hm; cases hm
    | some t => rw [ho] at hm; rw [List.mem_singleton.1 hm]
  rw [nextM] at h
  cases hb : readM I R s x with
  | none => rw [hb] at h; cases h
  | some b =>
    rw [hb] at h
    simp only at h
    split at h
    · rcases List.mem_append.1 h with h | h
      · exact .inr (key _ _ _ h)
      · exact .inl (key _ _ _ h)
    · rw [List.mem_singleton.1 h]; exact .inl rfl
theorem to_of (fr tto : List Int) (x : Int) : toF fr tto x = x ∨ toF fr tto x ∈ tto := by
  induction fr generalizing tto with
  | nil => left; cases tto <;> rfl
  | cons f fr ih =>
    cases tto with
    | nil => left; rfl
    | cons t tto =>
      rw [toF]
      split
      · right; simp
      · rcases ih tto with h | h
        · left; exact h
        · right; simp [h]
/-- a right rule, in plain words -/
structure RGood (I : List PPh) (R : PRule) : Prop where
  l1 : R.lft.length ≤ 2
  l2 : R.rgt.length ≤ 2
  tl : R.tto.length = R.fr.length
  nd : R.fr.Nodup
  fr : ∀ x ∈ R.fr, isB I x = true
  tto : ∀ x ∈ R.tto, x = 0 ∨ isB I x = true
theorem comp_good {I : List PPh} {R : PRule} {L : List St} (hc : CompOk I R L) (hI : I.length ≤ 60) (hR : RGood I R) : Good (compF I R L) := by
  have hl := hc.len
  have hp := hc.pos
  refine ⟨by show (1 : Int) ≤ (L.length : Int); omega, by show (L.length : Int) ≤ 4096; omega, ?_, fun a ha => ?_, ?_, fun q hq => ?_⟩
  · show ((tripT I R L L.length).map (arcT L)).length ≤ 262144
    rw [List.length_map]
    have h1 := tripT_len I R L L.length
    have h2 : L.length * (I.length * 2) ≤ 864 * (60 * 2) := Nat.mul_le_mul hl (by omega)
    omega
  · obtain ⟨t, ht, rfl⟩ := List.mem_map.1 ha
    obtain ⟨h1, ⟨g, hg, h2⟩, h3⟩ := mem_trip.1 ht
    have hpos : posF L t.2.2.2 < L.length := (List.getElem?_eq_some_iff.1 (posF_at (hc.tin t ht))).1
    have hx : 0 ≤ t.2.1 ∧ t.2.1 ≤ 60 := by omega
    have ho : 0 ≤ t.2.2.1 ∧ t.2.2.1 ≤ 60 := by
      rcases out_of h3 with e | e
      · omega
      · rcases to_of R.fr R.tto t.2.1 with e2 | e2
        · omega
        · rw [e]
          rcases hR.tto _ e2 with e3 | e3
          · omega
          · simp only [isB, Bool.and_eq_true, decide_eq_true_iff] at e3; omega
    show ((0 : Int) ≤ (t.1 : Int) ∧ (t.1 : Int) < (L.length : Int)) ∧ ((0 : Int) ≤ (posF L t.2.2.2 : Int) ∧ (posF L t.2.2.2 : Int) < (L.length : Int)) ∧ (0 ≤ t.2.1 ∧ t.2.1 ≤ 1099511627776) ∧ 0 ≤ t.2.2.1 ∧ t.2.2.1 ≤ 1099511627776
    omega
  · show ((List.range L.length).filter _ |>.map _).Pairwise (· < ·)
    rw [List.pairwise_map]
    exact (List.Pairwise.imp (fun h => by omega) (List.pairwise_lt_range (n := L.length))).filter _
  · obtain ⟨j, hj, rfl⟩ := List.mem_map.1 hq
    have := List.mem_range.1 (List.mem_filter.1 hj).1
    show (0 : Int) ≤ (j : Int) ∧ (j : Int) < (L.length : Int)
    omega
theorem sym_of {x : Int} (h : 1 ≤ x) : sym x = [x] := by rw [sym, if_neg (by omega)]
theorem comp_to {I : List PPh} {R : PRule} {L : List St} (hc : CompOk I R L) {q : Int} (hq : q ∈ (compF I R L).final) {s : Int} {xs ys : List Int} (h : Path (compF I R L).arcs s q xs ys) :
    ∀ i : Nat, s = (i : Int) → accM I R (L.getD i St.zero) xs ys := by
  refine Path.induct (P := fun s xs ys => ∀ i : Nat, s = (i : Int) → accM I R (L.getD i St.zero) xs ys) ?_ ?_ h
  · intro i hi
    obtain ⟨j, hj, rfl⟩ := List.mem_map.1 hq
    have : j = i := by omega
    subst this
    exact ⟨(List.mem_filter.1 hj).2, rfl⟩
  · intro a ha xs ys _ ih i hi
    obtain ⟨t, ht, rfl⟩ := List.mem_map.1 ha
    obtain ⟨h1, ⟨g, hg, h2⟩, h3⟩ := mem_trip.1 ht
    have e : t.1 = i := by have : (t.1 : Int) = i := hi; omega
    rw [show (arcT L t).inp = t.2.1 from rfl, sym_of (by omega), List.singleton_append]
    refine ⟨t.2.2, by rw [← e]; exact h3, ys, rfl, ?_⟩
    have := ih (posF L t.2.2.2) rfl
    rw [List.getD_eq_getElem?_getD, posF_at (hc.tin t ht)] at this
    exact this
theorem comp_from {I : List PPh} {R : PRule} {L : List St} (hc : CompOk I R L) : ∀ (v out : List Int) (i : Nat), i < L.length → (∀ x ∈ v, isB I x = true) → accM I R (L.getD i St.zero) v out →
    ∃ q, q ∈ (compF I R L).final ∧ Path (compF I R L).arcs (i : Int) q v out
  | [], out, i, hi, _, h => by
    obtain ⟨h1, rfl⟩ := h
    exact ⟨(i : Int), List.mem_map.2 ⟨i, List.mem_filter.2 ⟨List.mem_range.2 hi, h1⟩, rfl⟩, Path.nil _ _⟩
  | x :: v, out, i, hi, hv, h => by
    obtain ⟨p, hp, o, rfl, h2⟩ := h
    have hx := hv x (by simp)
    simp only [isB, Bool.and_eq_true, decide_eq_true_iff] at hx
    have ht : ((i, x, p) : Trip) ∈ tripT I R L L.length := mem_trip.2 ⟨hi, ⟨(x - 1).toNat, by omega, by show x = _; omega⟩, hp⟩
    have hm := hc.tin _ ht
    have hpos : posF L p.2 < L.length := (List.getElem?_eq_some_iff.1 (posF_at hm)).1
    have h3 : accM I R (L.getD (posF L p.2) St.zero) v o := by rw [List.getD_eq_getElem?_getD, posF_at hm]; exact h2
    obtain ⟨q, hq, hpath⟩ := comp_from hc v o (posF L p.2) hpos (fun y hy => hv y (by simp [hy])) h3
    refine ⟨q, hq, ?_⟩
    have := Path.cons (a := arcT L (i, x, p)) (List.mem_map.2 ⟨_, ht, rfl⟩) hpath
    rwa [show (arcT L (i, x, p)).inp = x from rfl, sym_of hx.1] at this
theorem plain_rng {I : List PPh} {v : List Int} (h : ∀ x ∈ v, isB I x = true) : plainB v = true := by
  rw [plainB, List.all_eq_true]
  intro x hx
  have := h x hx
  simp only [isB, Bool.and_eq_true, decide_eq_true_iff] at this
  simp [this.1]
theorem accM_plain {I : List PPh} {R : PRule} (hR : RGood I R) : ∀ (v : List Int) (s : St) (out : List Int), (∀ x ∈ v, isB I x = true) → accM I R s v out → ∀ x ∈ out, isB I x = true
  | [], s, out, _, h => by rw [h.2]; intro x hx; cases hx
  | y :: v, s, out, hv, h => by
    obtain ⟨p, hp, o, rfl, h2⟩ := h
    intro x hx
    rcases List.mem_append.1 hx with hx | hx
    · have hs : x = p.1 ∧ p.1 ≠ 0 := by
        unfold sym at hx
        split at hx
        · cases hx
        · rename_i h0; exact ⟨by simpa using hx, h0⟩
      rw [hs.1]
      rcases out_of hp with e | e
      · rw [e]; exact hv y (by simp)
      · rcases to_of R.fr R.tto y with e2 | e2
        · rw [e, e2]; exact hv y (by simp)
        · rw [← e] at e2
          exact (hR.tto _ e2).resolve_left hs.2
    · exact accM_plain hR v _ o (fun z hz => hv z (by simp [hz])) h2 x hx
theorem apply_rng {I : List PPh} {R : PRule} (hR : RGood I R) {v : List Int} (hv : ∀ x ∈ v, isB I x = true) : ∀ x ∈ applyF I R v, isB I x = true :=
  accM_plain hR v _ _ hv ((acc_start I R hR.l1 hR.l2 v _).2 rfl)
theorem comp_acc {I : List PPh} {R : PRule} {L : List St} (hc : CompOk I R L) (hR : RGood I R) {v out : List Int} (hv : ∀ x ∈ v, isB I x = true) : accB (compF I R L) v out = true ↔ out = applyF I R v := by
  rw [accB_iff, ← acc_start I R hR.l1 hR.l2 v out]
  have hz : L.getD 0 St.zero = St.zero := by rw [List.getD_eq_getElem?_getD, hc.z]; rfl
  constructor
  · rintro ⟨_, _, q, hq, hp⟩
    have := comp_to hc hq hp 0 rfl
    rwa [hz] at this
  · intro h
    obtain ⟨q, hq, hp⟩ := comp_from hc v out 0 hc.pos hv (by rw [hz]; exact h)
    exact ⟨plain_rng hv, plain_rng (accM_plain hR v _ _ hv h), q, hq, hp⟩
end Go.Proofs.Ytdijlakeonionaa
