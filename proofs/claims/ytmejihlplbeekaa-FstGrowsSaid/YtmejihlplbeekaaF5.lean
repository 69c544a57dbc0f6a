/-
  The search of Accepts as a plain law: the configurations that were seen, and those that wait.
-/
import Derived.Test.YtmejihlplbeekaaF4
import Derived.Test.YtmejihlplbeekaaF3
namespace Go.Proofs.Ytmejihlplbeekaa
def nx (a : PArc) (c : Cfg) : Cfg := ⟨a.tgt, c.i + (stepD a.inp : Int), c.k + (stepD a.out : Int)⟩
def okC (xs ys : List Int) (a : PArc) (c : Cfg) : Bool := stepOk xs c.i.toNat a.inp && stepOk ys c.k.toNat a.out
structure CBox (F : PFst) (xs ys : List Int) (c : Cfg) : Prop where
  q0 : 0 ≤ c.q
  q1 : c.q < F.states
  i0 : 0 ≤ c.i
  i1 : c.i ≤ xs.length
  k0 : 0 ≤ c.k
  k1 : c.k ≤ ys.length
  path : Path F.arcs 0 c.q (xs.take c.i.toNat) (ys.take c.k.toNat)
def finC (F : PFst) (xs ys : List Int) (c : Cfg) : Bool := decide (c.q ∈ F.final) && (c.i == (xs.length : Int) && c.k == (ys.length : Int))
def DoneC (F : PFst) (xs ys : List Int) (Vs : List Cfg) (c : Cfg) : Prop := finC F xs ys c = false ∧ ∀ a, a ∈ F.arcs → a.fr = c.q → okC xs ys a c = true → nx a c ∈ Vs
def idxC (xs ys : List Int) (c : Cfg) : Nat := idx (xs.length + 1) (ys.length + 1) c.q.toNat c.i.toNat c.k.toNat
def marks (F : PFst) (xs ys : List Int) : List Cfg → List Bool
  | [] => List.replicate (size F xs ys) false
  | c :: l => (marks F xs ys l).set (idxC xs ys c) true
theorem marks_len (F : PFst) (xs ys : List Int) (l : List Cfg) : (marks F xs ys l).length = size F xs ys := by
  induction l with
  | nil => simp [marks]
  | cons c l ih => simp [marks, ih]
theorem cf_rep (n : Nat) : cf (List.replicate n false) = n := by
  induction n with
  | zero => rfl
  | succ n ih => simp [List.replicate_succ, cf, ih]; omega
structure Dfs (F : PFst) (xs ys : List Int) (Vs Qs : List Cfg) (E : Cfg → Prop) : Prop where
  sub : ∀ c, c ∈ Qs → c ∈ Vs
  box : ∀ c, c ∈ Vs → CBox F xs ys c
  start : ⟨0, 0, 0⟩ ∈ Vs
  done : ∀ c, c ∈ Vs → c ∈ Qs ∨ E c ∨ DoneC F xs ys Vs c
  cnt : Vs.length + cf (marks F xs ys Vs) ≤ size F xs ys
  ql : Qs.length ≤ Vs.length
section
variable {F : PFst} {xs ys : List Int}
theorem CBox.lt {c : Cfg} (h : CBox F xs ys c) : idxC xs ys c < size F xs ys := by
  have := h.q0; have := h.q1; have := h.i0; have := h.i1; have := h.k0; have := h.k1
  exact idx_lt (by omega) (by omega) (by omega)
theorem CBox.inj {c d : Cfg} (h : CBox F xs ys c) (k : CBox F xs ys d) (he : idxC xs ys c = idxC xs ys d) : c = d := by
  have := h.q0; have := h.i0; have := h.i1; have := h.k0; have := h.k1
  have := k.q0; have := k.i0; have := k.i1; have := k.k0; have := k.k1
  obtain ⟨e1, e2, e3⟩ := idx_inj (by omega) (by omega) (by omega) (by omega) he
  cases c; cases d
  simp only at *
  congr 1 <;> omega
theorem marks_at {l : List Cfg} {c : Cfg} (hl : ∀ d, d ∈ l → CBox F xs ys d) (hc : CBox F xs ys c) (hn : c ∉ l) : (marks F xs ys l).getD (idxC xs ys c) false = false := by
  induction l with
  | nil =>
    simp only [marks, List.getD_eq_getElem?_getD, List.getElem?_replicate]
    split <;> rfl
  | cons d l ih =>
    rw [marks, getD_set, if_neg]
    · exact ih (fun x hx => hl x (by simp [hx])) (fun h => hn (by simp [h]))
    · rintro ⟨h, _⟩
      exact hn (by rw [CBox.inj (hl d (by simp)) hc h]; simp)
theorem cf_push {l : List Cfg} {c : Cfg} (hl : ∀ d, d ∈ l → CBox F xs ys d) (hc : CBox F xs ys c) (hn : c ∉ l) : cf (marks F xs ys (c :: l)) < cf (marks F xs ys l) :=
  (cf_set _ _).2 (by rw [marks_len]; exact hc.lt) (marks_at hl hc hn)
theorem start_box (hR : Right F) : CBox F xs ys ⟨0, 0, 0⟩ := by
  have := hR.1
  exact ⟨by simp, by simp; omega, by simp, by simp, by simp, by simp, by simpa using Path.nil F.arcs 0⟩
theorem Dfs.init (hR : Right F) : Dfs F xs ys [⟨0, 0, 0⟩] [⟨0, 0, 0⟩] (fun _ => False) := by
  refine ⟨fun c h => h, fun c h => by simp at h; subst h; exact start_box hR, by simp, fun c h => .inl h, ?_, Nat.le_refl _⟩
  have h1 := cf_push (l := []) (xs := xs) (ys := ys) (fun d h => by cases h) (start_box hR) (by simp)
  have h2 : cf (marks F xs ys []) = size F xs ys := cf_rep _
  simp only [List.length_cons, List.length_nil]
  omega
theorem okC_box (hR : Right F) {c : Cfg} (h : CBox F xs ys c) {a : PArc} (ha : a ∈ F.arcs) (hf : a.fr = c.q) (ho : okC xs ys a c = true) : CBox F xs ys (nx a c) := by
  simp only [okC, Bool.and_eq_true] at ho
  have := h.i0; have := h.i1; have := h.k0; have := h.k1
  obtain ⟨_, _, t0, t1⟩ := hR.2.1 a ha
  have l1 := step_le xs c.i.toNat a.inp (by omega) ho.1
  have l2 := step_le ys c.k.toNat a.out (by omega) ho.2
  refine ⟨t0, t1, by simp only [nx]; omega, by simp only [nx]; omega, by simp only [nx]; omega, by simp only [nx]; omega, ?_⟩
  have hp := h.path
  rw [← hf] at hp
  have hp2 := hp.trans (Path.one ha)
  rw [← step_take xs _ _ ho.1, ← step_take ys _ _ ho.2] at hp2
  have e1 : (nx a c).i.toNat = c.i.toNat + stepD a.inp := by simp only [nx]; omega
  have e2 : (nx a c).k.toNat = c.k.toNat + stepD a.out := by simp only [nx]; omega
  rw [e1, e2]
  exact hp2
theorem Dfs.pop {Vs Qs : List Cfg} {c : Cfg} (h : Dfs F xs ys Vs (Qs ++ [c]) (fun _ => False)) : Dfs F xs ys Vs Qs (fun d => d = c) := by
  refine ⟨fun d hd => h.sub d (by simp [hd]), h.box, h.start, fun d hd => ?_, h.cnt, by have := h.ql; simp at this; omega⟩
  rcases h.done d hd with h1 | h1 | h1
  · rcases List.mem_append.1 h1 with h2 | h2
    · exact .inl h2
    · exact .inr (.inl (by simpa using h2))
  · exact h1.elim
  · exact .inr (.inr h1)
theorem Dfs.push {Vs Qs : List Cfg} {E : Cfg → Prop} (h : Dfs F xs ys Vs Qs E) {c : Cfg} (hb : CBox F xs ys c) (hn : c ∉ Vs) : Dfs F xs ys (c :: Vs) (Qs ++ [c]) E := by
  refine ⟨fun d hd => ?_, fun d hd => ?_, by simp [h.start], fun d hd => ?_, ?_, by have := h.ql; simp; omega⟩
  · rcases List.mem_append.1 hd with h1 | h1
    · simp [h.sub d h1]
    · simp at h1; simp [h1]
  · rcases List.mem_cons.1 hd with rfl | h1
    · exact hb
    · exact h.box d h1
  · rcases List.mem_cons.1 hd with rfl | h1
    · exact .inl (by simp)
    · rcases h.done d h1 with h2 | h2 | h2
      · exact .inl (by simp [h2])
      · exact .inr (.inl h2)
      · exact .inr (.inr ⟨h2.1, fun a ha hf ho => by simp [h2.2 a ha hf ho]⟩)
  · have := cf_push h.box hb hn
    have := h.cnt
    simp only [List.length_cons]
    omega
theorem Dfs.finish {Vs Qs : List Cfg} {c : Cfg} (h : Dfs F xs ys Vs Qs (fun d => d = c)) (hd : DoneC F xs ys Vs c) : Dfs F xs ys Vs Qs (fun _ => False) := by
  refine ⟨h.sub, h.box, h.start, fun d hdm => ?_, h.cnt, h.ql⟩
  rcases h.done d hdm with h1 | h1 | h1
  · exact .inl h1
  · subst h1; exact .inr (.inr hd)
  · exact .inr (.inr h1)
theorem dfs_yes (hx : plainB xs = true) (hy : plainB ys = true) {c : Cfg} (h : CBox F xs ys c) (hf : finC F xs ys c = true) : accB F xs ys = true := by
  rw [accB_iff]
  simp only [finC, Bool.and_eq_true, decide_eq_true_eq, beq_iff_eq] at hf
  obtain ⟨h1, h2, h3⟩ := hf
  have hp := h.path
  rw [h2, h3] at hp
  simp only [Int.toNat_natCast, List.take_length] at hp
  exact ⟨hx, hy, c.q, h1, hp⟩
theorem walkC {Vs : List Cfg} (hd : ∀ c, c ∈ Vs → DoneC F xs ys Vs c) (hb : ∀ c, c ∈ Vs → CBox F xs ys c) {t : Int} (p : List PArc) : ∀ (c : Cfg), c ∈ Vs → (∀ a, a ∈ p → a ∈ F.arcs) → chain c.q p t → ins p = xs.drop c.i.toNat → outs p = ys.drop c.k.toNat → (⟨t, (xs.length : Int), (ys.length : Int)⟩ : Cfg) ∈ Vs := by
  induction p with
  | nil =>
    intro c hc _ hch h1 h2
    have b := hb c hc
    have := b.i0; have := b.i1; have := b.k0; have := b.k1
    have e1 : c.i = xs.length := by have := congrArg List.length h1; simp [ins] at this; omega
    have e2 : c.k = ys.length := by have := congrArg List.length h2; simp [outs] at this; omega
    simp only [chain] at hch
    have : c = ⟨t, (xs.length : Int), (ys.length : Int)⟩ := by cases c; simp_all
    rw [← this]; exact hc
  | cons a p ih =>
    intro c hc hs hch h1 h2
    have b := hb c hc
    have := b.i0; have := b.i1; have := b.k0; have := b.k1
    obtain ⟨hf, hch⟩ := hch
    obtain ⟨o1, d1⟩ := step_drop xs c.i.toNat a.inp (ins p) (by rw [← h1]; simp [ins])
    obtain ⟨o2, d2⟩ := step_drop ys c.k.toNat a.out (outs p) (by rw [← h2]; simp [outs])
    have hm := (hd c hc).2 a (hs a (by simp)) hf (by simp [okC, o1, o2])
    have e1 : (nx a c).i.toNat = c.i.toNat + stepD a.inp := by simp only [nx]; omega
    have e2 : (nx a c).k.toNat = c.k.toNat + stepD a.out := by simp only [nx]; omega
    exact ih (nx a c) hm (fun x hx => hs x (by simp [hx])) hch (by rw [e1]; exact d1) (by rw [e2]; exact d2)
theorem dfs_no {Vs : List Cfg} (h : Dfs F xs ys Vs [] (fun _ => False)) : accB F xs ys = false := by
  rw [← Bool.not_eq_true, accB_iff]
  rintro ⟨_, _, q, hq, p, h1, h2, h3, h4⟩
  have hd : ∀ c, c ∈ Vs → DoneC F xs ys Vs c := fun c hc => by
    rcases h.done c hc with h | h | h
    · cases h
    · exact h.elim
    · exact h
  have hm := walkC hd h.box p ⟨0, 0, 0⟩ h.start h1 h2 (by simpa using h3) (by simpa using h4)
  have := (hd _ hm).1
  simp [finC, hq] at this
end
end Go.Proofs.Ytmejihlplbeekaa
