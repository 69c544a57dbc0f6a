import Derived.Test.YtiopgbbggeimaaaGreatKA1
/-
  The analyses of a word: what the search finds is right, and what is right is found. No function of the program in sight.
-/
namespace Go.Proofs.YtiopgbbggeimaaaGreat
theorem gd {l : List PPt} {j : Nat} (h : j < l.length) : l.getD j pt0 = l[j] := by simp [List.getD, h]
theorem gset_eq {l : List PPt} {j : Nat} {q : PPt} (h : j < l.length) : (l.set j q).getD j pt0 = q := by simp [List.getD, h]
theorem gset_ne {l : List PPt} {i j : Nat} {q : PPt} (h : i ≠ j) : (l.set i q).getD j pt0 = l.getD j pt0 := by simp [List.getD, List.getElem?_set_ne h]
/-- b is p with other senses from i on -/
def Spr (lex : List PE) (i : Nat) (p b : List PPt) : Prop := b.length = p.length ∧ ∀ j, j < p.length → (b.getD j pt0).e = (p.getD j pt0).e ∧ (b.getD j pt0).a = (p.getD j pt0).a ∧ (j < i → (b.getD j pt0).s = (p.getD j pt0).s) ∧
  (i ≤ j → 0 ≤ (b.getD j pt0).s ∧ (b.getD j pt0).s < ((sensesP lex (p.getD j pt0).e).length : Int))
theorem spread_iff (lex : List PE) : ∀ (k i : Nat) (p b : List PPt), p.length = i + k → (b ∈ spreadL lex k i p ↔ Spr lex i p b)
  | 0, i, p, b, h => by
    rw [spreadL, List.mem_singleton]
    constructor
    · rintro rfl
      exact ⟨rfl, fun j hj => ⟨rfl, rfl, fun _ => rfl, fun hi => by omega⟩⟩
    · rintro ⟨hl, hb⟩
      refine List.ext_getElem hl fun j h1 h2 => ?_
      obtain ⟨e1, e2, e3, _⟩ := hb j h2
      have e4 := e3 (by omega)
      rw [gd h1, gd h2] at e1 e2 e4
      cases hx : b[j]
      cases hy : p[j]
      simp_all
  | k + 1, i, p, b, h => by
    have hip : i < p.length := by omega
    rw [spreadL_succ, List.mem_flatMap]
    constructor
    · rintro ⟨s, hs, hb⟩
      rw [List.mem_range] at hs
      have hb2 := (spread_iff lex k (i + 1) _ b (by rw [List.length_set]; omega)).1 hb
      obtain ⟨hl, hb3⟩ := hb2
      rw [List.length_set] at hl hb3
      refine ⟨hl, fun j hj => ?_⟩
      obtain ⟨e1, e2, e3, e4⟩ := hb3 j hj
      by_cases hji : i = j
      · subst hji
        rw [gset_eq hip] at e1 e2 e3 e4
        have e5 := e3 (by omega)
        simp only at e1 e2 e5
        exact ⟨e1, e2, fun h => by omega, fun _ => by rw [e5]; omega⟩
      · rw [gset_ne hji] at e1 e2 e3 e4
        exact ⟨e1, e2, fun h => e3 (by omega), fun h => e4 (by omega)⟩
    · rintro ⟨hl, hb⟩
      obtain ⟨f1, f2, _, f4⟩ := hb i hip
      have f5 := f4 (Nat.le_refl _)
      refine ⟨(b.getD i pt0).s.toNat, by rw [List.mem_range]; omega, (spread_iff lex k (i + 1) _ b (by rw [List.length_set]; omega)).2 ⟨by rw [List.length_set]; exact hl, fun j hj => ?_⟩⟩
      rw [List.length_set] at hj
      obtain ⟨e1, e2, e3, e4⟩ := hb j hj
      by_cases hji : i = j
      · subst hji
        rw [gset_eq hip]
        exact ⟨e1, e2, fun _ => by simp only; omega, fun h => by omega⟩
      · rw [gset_ne hji]
        exact ⟨e1, e2, fun h => e3 (by omega), fun h => e4 (by omega)⟩
def ea (p : PPt) : Int × Int := (p.e, p.a)
theorem Spr.ea {lex : List PE} {i : Nat} {p b : List PPt} (h : Spr lex i p b) : b.map ea = p.map ea := by
  obtain ⟨hl, hb⟩ := h
  refine List.ext_getElem (by simpa using hl) fun j h1 h2 => ?_
  simp only [List.length_map] at h1 h2
  obtain ⟨e1, e2, _, _⟩ := hb j h2
  rw [gd h1, gd h2] at e1 e2
  simp [Go.Proofs.YtiopgbbggeimaaaGreat.ea, e1, e2]
theorem formAt_ea {lex : List PE} {p q : PPt} (h : ea p = ea q) : formAt lex p = formAt lex q := by
  simp only [ea, Prod.mk.injEq] at h
  unfold formAt
  rw [h.1, h.2]
theorem ea_cons {p q : PPt} {l m : List PPt} (h : (p :: l).map ea = (q :: m).map ea) : ea p = ea q ∧ l.map ea = m.map ea := by simpa using h
theorem baseA_ea {lex : List PE} : ∀ (a b : List PPt), a.map ea = b.map ea → baseA lex a = baseA lex b
  | [], [], _ => rfl
  | [], _ :: _, h => by cases h
  | _ :: _, [], h => by cases h
  | p :: l, q :: m, h => by
    obtain ⟨h1, h2⟩ := ea_cons h
    have ih := baseA_ea (lex := lex) l m h2
    rw [baseA_eq, baseA_eq] at ih ⊢
    rw [List.flatMap_cons, List.flatMap_cons, ih, formOf, formOf, formAt_ea h1]
theorem clsA_ea {lex : List PE} : ∀ (a b : List PPt), a.map ea = b.map ea → clsA lex a = clsA lex b
  | [], [], _ => rfl
  | [], _ :: _, h => by cases h
  | _ :: _, [], h => by cases h
  | p :: l, q :: m, h => by
    obtain ⟨h1, h2⟩ := ea_cons h
    have ih := clsA_ea (lex := lex) l m h2
    unfold clsA at ih ⊢
    rw [List.filterMap_cons, List.filterMap_cons, ih, formAt_ea h1]
theorem partsC_iff {lex : List PE} : ∀ {a : List PPt}, partsC lex a = 0 ↔ ∀ p ∈ a, partC lex p = 0
  | [] => by simp [partsC]
  | p :: l => by
    rw [partsC]
    by_cases h : partC lex p = 0
    · rw [if_neg (by simp [h]), partsC_iff]
      simp [h]
    · rw [if_pos h]
      simp [h]
theorem partC_iff {lex : List PE} {p : PPt} : partC lex p = 0 ↔ ∃ e, getP lex p.e = some e ∧ 0 ≤ p.a ∧ p.a < ((formsP e).length : Int) ∧ 0 ≤ p.s ∧ p.s < ((sensesP lex p.e).length : Int) := by
  unfold partC
  cases getP lex p.e with
  | none => simp
  | some e =>
    simp only [Option.some.injEq, exists_eq_left']
    split
    · rename_i h1
      split
      · rename_i h2
        simp [h1, h2]
      · rename_i h2
        simp only [h1, true_and]
        constructor
        · intro h; cases h
        · intro h; exact absurd ⟨h.1, h.2⟩ h2
    · rename_i h1
      constructor
      · intro h; cases h
      · intro h; exact absurd ⟨h.1, h.2.1⟩ h1
theorem rightC_iff {G : PLang} {a : List PPt} : rightC G a = 0 ↔ 0 < a.length ∧ a.length ≤ 4 ∧ (∀ p ∈ a, partC G.lex p = 0) ∧ accF G.net (clsA G.lex a) = true ∧ (baseA G.lex a).length ≤ 24 := by
  rw [← partsC_iff]
  unfold rightC
  by_cases h1 : a.length = 0
  · simp [h1]
  by_cases h2 : 4 < a.length
  · rw [if_neg h1, if_pos h2]
    constructor
    · intro h; cases h
    · intro h; omega
  by_cases h3 : partsC G.lex a = 0
  · rw [if_neg h1, if_neg h2, if_neg (by simp [h3])]
    cases h4 : accF G.net (clsA G.lex a)
    · simp
    · by_cases h5 : 24 < (baseA G.lex a).length
      · rw [if_neg (by simp), if_pos h5]
        constructor
        · intro h; cases h
        · intro h; omega
      · rw [if_neg (by simp), if_neg h5]
        exact ⟨fun _ => ⟨by omega, by omega, h3, rfl, by omega⟩, fun _ => rfl⟩
  · rw [if_neg h1, if_neg h2, if_pos h3]
    simp [h3]
theorem lexL_mem {rec : Rec} {G : PLang} {ws : List Int} {parts : List PPt} {now : Nat} {base : List Int} {b : List PPt} : ∀ {L : List PE}, b ∈ lexL rec G ws parts now base L ↔ ∃ q ∈ L, afterF G.net.steps now q.cls ≠ 0 ∧ b ∈ stepF rec G ws q parts (afterF G.net.steps now q.cls) base
  | [] => by simp [lexL]
  | p :: L => by
    rw [lexL_cons, List.mem_append, lexL_mem]
    simp only [List.mem_cons, exists_eq_or_imp]
    by_cases h : afterF G.net.steps now p.cls = 0
    · simp [h]
    · simp [h]
theorem formL_mem {rec : Rec} {G : PLang} {ws : List Int} {id : Int} {parts : List PPt} {nx : Nat} {base : List Int} {b : List PPt} : ∀ {l : List (List Int)} {i : Nat}, b ∈ formL rec G ws id parts nx base i l ↔ ∃ j f, l[j]? = some f ∧ tooB G ws (base.length + f.length) = false ∧ b ∈ rec (parts ++ [⟨id, ((i + j : Nat) : Int), 0⟩]) nx (base ++ f)
  | [], i => by simp [formL]
  | f :: l, i => by
    rw [formL_cons, List.mem_append, formL_mem]
    constructor
    · rintro (h | ⟨j, g, h1, h2, h3⟩)
      · cases ht : tooB G ws (base.length + f.length)
        · rw [ht] at h
          exact ⟨0, f, rfl, ht, by simpa using h⟩
        · rw [ht] at h
          simp at h
      · exact ⟨j + 1, g, by simpa using h1, h2, by rw [show i + (j + 1) = i + 1 + j by omega]; exact h3⟩
    · rintro ⟨j, g, h1, h2, h3⟩
      cases j with
      | zero =>
        simp only [List.getElem?_cons_zero, Option.some.injEq] at h1
        subst h1
        left
        rw [h2]
        simpa using h3
      | succ j =>
        right
        exact ⟨j, g, by simpa using h1, h2, by rw [show i + 1 + j = i + (j + 1) by omega]; exact h3⟩
end Go.Proofs.YtiopgbbggeimaaaGreat

/-
  The analyses of a word: all right ones, and no other.
-/
namespace Go.Proofs.YtiopgbbggeimaaaGreat
/-! what keeps the length -/
theorem toF_nz {x : Int} (hx : x ≠ 0) : ∀ (fr tto : List Int), hasBQ tto 0 = false → toF fr tto x ≠ 0
  | [], _, _ => by simpa [toF] using hx
  | _ :: _, [], _ => by simpa [toF] using hx
  | f :: fr, t :: tto, h => by
    rw [hasB_cons] at h
    simp only [Bool.or_eq_false_iff, beq_eq_false_iff_ne] at h
    rw [toF]
    split
    · exact fun h2 => h.1 h2.symm
    · exact toF_nz hx fr tto h.2
theorem applyK_eq (I : List PPh) (R : PRule) (l : List Int) (h : hasBQ R.tto 0 = false) (hl : ∀ x ∈ l, x ≠ 0) : ∀ k, k ≤ l.length → (applyK I R l k).length = k
  | 0, _ => by simp [applyK]
  | k + 1, hk => by
    rw [applyK_succ, List.length_append, applyK_eq I R l h hl k (by omega)]
    have hx : l.getD k 0 ≠ 0 := by
      have h1 : k < l.length := by omega
      simp only [List.getD, List.getElem?_eq_getElem h1, Option.getD_some]
      exact hl _ (List.getElem_mem h1)
    have ho : outB I R l k ≠ 0 := by
      unfold outB
      split
      · exact toF_nz hx _ _ h
      · exact hx
    unfold sym
    rw [if_neg ho]
    rfl
theorem lastF_eq (I : List PPh) (Rs : List PRule) (l : List Int) (h : shrB Rs = false) (hl : ∀ x ∈ l, x ≠ 0) : (lastF I Rs l).length = l.length := by
  unfold lastF
  have key : ∀ k, k ≤ Rs.length → (lastK I Rs l k).length = l.length ∧ ∀ x ∈ lastK I Rs l k, x ≠ 0 := by
    intro k
    induction k with
    | zero => intro _; exact ⟨rfl, by simpa [lastK] using hl⟩
    | succ k ih =>
      intro hk
      obtain ⟨h1, h2⟩ := ih (by omega)
      rw [lastK_succ I l (List.drop_eq_getElem_cons (show k < Rs.length by omega))]
      have hR : hasBQ (Rs[k]'(by omega)).tto 0 = false := by
        unfold shrB at h
        rw [List.any_eq_false] at h
        simpa using h _ (List.getElem_mem (show k < Rs.length by omega))
      exact ⟨by rw [applyF, applyK_eq I _ _ hR h2 _ (Nat.le_refl _), h1], applyK_nz I _ _ _⟩
  exact (key _ (Nat.le_refl _)).1
/-! no state is reached from none -/
theorem afz (L : List PStep) (c : Int) : afterF L 0 c = 0 := by
  have : fromL L 0 = [] := by simp [fromL, bitI]
  rw [afterF, this]
  rfl
theorem run_zero (L : List PStep) : ∀ l : List Int, runF L 0 l = 0
  | [] => rfl
  | c :: l => by
    have h := run_zero L l
    unfold runF at h ⊢
    rw [List.foldl_cons, afz]
    exact h
theorem run_snoc (L : List PStep) (m : Nat) (l : List Int) (c : Int) : runF L m (l ++ [c]) = afterF L (runF L m l) c := by simp [runF]
theorem run_app (L : List PStep) (m : Nat) (l r : List Int) : runF L m (l ++ r) = runF L (runF L m l) r := by simp [runF]
theorem getP_ide {lex : List PE} {id : Int} {e : PE} (h : getP lex id = some e) : e.id = id := by
  unfold getP at h
  have := List.find?_some h
  simpa using this
section
variable {G : PLang} (hl : LightOk G) {w : List Int}
include hl
theorem form_new {q : PE} (hq : q ∈ G.lex) {j : Nat} {f : List Int} (hf : (formsP q)[j]? = some f) (s : Int) : formAt G.lex ⟨q.id, (j : Int), s⟩ = some (q, f) := by
  have hj := List.getElem?_eq_some_iff.1 hf
  rw [formAt_some (p := ⟨q.id, (j : Int), s⟩) (getP_up hl.lex.up hq)]
  simp only
  rw [if_pos ⟨by omega, by have := hj.1; omega⟩]
  simp [List.getD, hf]
theorem part_new {q : PE} (hq : q ∈ G.lex) {j : Nat} {f : List Int} (hf : (formsP q)[j]? = some f) (hs : (sensesP G.lex q.id).length ≠ 0) : partC G.lex ⟨q.id, (j : Int), 0⟩ = 0 := by
  have hj := List.getElem?_eq_some_iff.1 hf
  exact partC_iff.2 ⟨q, getP_up hl.lex.up hq, by simp only; omega, by simp only; have := hj.1; omega, by simp, by simp only; omega⟩
/-- what the search finds is right -/
theorem hits_sound : ∀ (k : Nat) (parts b : List PPt), parts.length + k = 4 → (∀ p ∈ parts, partC G.lex p = 0) → (baseA G.lex parts).length ≤ 24 → b ∈ hits G w k parts (runF G.net.steps 1 (clsA G.lex parts)) (baseA G.lex parts) → rightC G b = 0 ∧ formF G b = (w, 0) := by
  have here : ∀ (parts b : List PPt), parts.length ≤ 4 → (∀ p ∈ parts, partC G.lex p = 0) → (baseA G.lex parts).length ≤ 24 → b ∈ hereL G w parts (runF G.net.steps 1 (clsA G.lex parts)) (baseA G.lex parts) → rightC G b = 0 ∧ formF G b = (w, 0) := by
    intro parts b h4 hp h24 hb
    unfold hereL at hb
    cases hh : hereB G w parts (runF G.net.steps 1 (clsA G.lex parts)) (baseA G.lex parts)
    · rw [hh] at hb; simp at hb
    rw [hh, if_pos rfl, spread_iff _ _ _ _ _ (by omega)] at hb
    have hea := hb.ea
    obtain ⟨hlen, hb2⟩ := hb
    simp only [hereB, fitsF, Bool.and_eq_true, decide_eq_true_eq] at hh
    obtain ⟨⟨⟨g1, g2⟩, g3⟩, g4, g5⟩ := hh
    rw [sameB_iff] at g5
    have hB : baseA G.lex b = baseA G.lex parts := baseA_ea _ _ hea
    have hC : clsA G.lex b = clsA G.lex parts := clsA_ea _ _ hea
    have hr : rightC G b = 0 := by
      rw [rightC_iff, hB, hC]
      refine ⟨by omega, by omega, fun p hpb => ?_, g2, h24⟩
      obtain ⟨j, hj, rfl⟩ := List.getElem_of_mem hpb
      have hjp : j < parts.length := by omega
      obtain ⟨e1, e2, _, e4⟩ := hb2 j hjp
      rw [gd hj, gd hjp] at e1 e2 e4
      obtain ⟨e, q1, q2, q3, _, _⟩ := partC_iff.1 (hp _ (List.getElem_mem hjp))
      have e5 := e4 (Nat.zero_le _)
      exact partC_iff.2 ⟨e, by rw [e1]; exact q1, by rw [e2]; exact q2, by rw [e2]; exact q3, e5.1, by rw [e1]; exact e5.2⟩
    refine ⟨hr, ?_⟩
    unfold formF
    rw [hr, if_neg (by simp), hB, if_neg (by omega), g5]
  intro k
  induction k with
  | zero => intro parts b h hp h24 hb; exact here parts b (by omega) hp h24 hb
  | succ k ih =>
    intro parts b h hp h24 hb
    rw [hits_succ, List.mem_append] at hb
    rcases hb with hb | hb
    · exact here parts b (by omega) hp h24 hb
    · obtain ⟨q, hq, hz, hs⟩ := lexL_mem.1 hb
      unfold stepF at hs
      split at hs
      · cases hs
      rename_i hsn
      obtain ⟨j, f, hj, ht, hr⟩ := formL_mem.1 hs
      rw [Nat.zero_add] at hr
      have hfa := form_new hl hq hj 0
      have hbs : baseA G.lex parts ++ f = baseA G.lex (parts ++ [⟨q.id, (j : Int), 0⟩]) := by rw [baseA_snoc, formOf_some hfa]
      have hcs : afterF G.net.steps (runF G.net.steps 1 (clsA G.lex parts)) q.cls = runF G.net.steps 1 (clsA G.lex (parts ++ [⟨q.id, (j : Int), 0⟩])) := by rw [clsA_snoc, clsOf_some hfa, run_snoc]
      rw [hbs, hcs] at hr
      refine ih _ b (by rw [List.length_append]; simp; omega) ?_ ?_ hr
      · intro p hpm
        rcases List.mem_append.1 hpm with h1 | h1
        · exact hp p h1
        · rw [List.mem_singleton.1 h1]; exact part_new hl hq hj hsn
      · rw [← hbs, List.length_append]
        simp only [tooB, Bool.or_eq_false_iff, decide_eq_false_iff_not] at ht
        omega
/-- what is right is found -/
theorem hits_whole {a : List PPt} (hr : rightC G a = 0) (hf : lastF G.inv G.rules (baseA G.lex a) = w) (hw : w ≠ []) : ∀ (k : Nat) (u v z : List PPt), a = u ++ v → u.length + k = 4 → z.map ea = u.map ea → a ∈ hits G w k z (runF G.net.steps 1 (clsA G.lex z)) (baseA G.lex z) := by
  obtain ⟨r1, r2, r3, r4, r5⟩ := rightC_iff.1 hr
  have here : ∀ z : List PPt, z.map ea = a.map ea → a ∈ hereL G w z (runF G.net.steps 1 (clsA G.lex z)) (baseA G.lex z) := by
    intro z hz
    have hB : baseA G.lex z = baseA G.lex a := baseA_ea _ _ hz
    have hC : clsA G.lex z = clsA G.lex a := clsA_ea _ _ hz
    have hlen : z.length = a.length := by simpa using congrArg List.length hz
    have hh : hereB G w z (runF G.net.steps 1 (clsA G.lex z)) (baseA G.lex z) = true := by
      simp only [hereB, fitsF, Bool.and_eq_true, decide_eq_true_eq]
      rw [hB, hC, hf, sameB_iff]
      exact ⟨⟨⟨by omega, r4⟩, by rw [← hf]; exact lastF_len _ _ _⟩, List.length_pos_iff.2 hw, rfl⟩
    rw [hereL, hh, if_pos rfl, spread_iff _ _ _ _ _ (by omega)]
    refine ⟨hlen.symm, fun j hj => ?_⟩
    have hja : j < a.length := by omega
    have he : ea (z[j]) = ea (a[j]) := by
      have h1 : (z.map ea)[j]? = (a.map ea)[j]? := by rw [hz]
      simpa [List.getElem?_map, List.getElem?_eq_getElem hj, List.getElem?_eq_getElem hja] using h1
    simp only [ea, Prod.mk.injEq] at he
    obtain ⟨e, _, _, _, q1, q2⟩ := partC_iff.1 (r3 _ (List.getElem_mem hja))
    rw [gd hj, gd hja]
    exact ⟨he.1.symm, he.2.symm, fun h => by omega, fun _ => ⟨q1, by rw [he.1]; exact q2⟩⟩
  intro k
  induction k with
  | zero =>
    intro u v z ha hk hz
    have hv : v = [] := by
      rw [ha, List.length_append] at r2
      exact List.length_eq_zero_iff.1 (by omega)
    subst hv
    rw [List.append_nil] at ha
    subst ha
    exact here z hz
  | succ k ih =>
    intro u v z ha hk hz
    rw [hits_succ, List.mem_append]
    cases v with
    | nil =>
      rw [List.append_nil] at ha
      subst ha
      exact .inl (here z hz)
    | cons p v =>
      right
      have hpa : p ∈ a := by rw [ha]; simp
      obtain ⟨e, q1, q2, q3, q4, q5⟩ := partC_iff.1 (r3 p hpa)
      obtain ⟨j, hj⟩ : ∃ j : Nat, p.a = (j : Int) := ⟨p.a.toNat, by omega⟩
      have hjl : j < (formsP e).length := by omega
      have hje : (formsP e)[j]? = some ((formsP e)[j]) := List.getElem?_eq_getElem hjl
      have hfa : formAt G.lex p = some (e, (formsP e)[j]) := by
        rw [formAt_some q1, if_pos ⟨q2, q3⟩, hj]
        simp [List.getD, hjl]
      obtain ⟨_, _, _, _, hem, hfm⟩ := formAt_mem hfa
      simp only at hem hfm
      have hid : e.id = p.e := getP_ide q1
      have hz2 : (z ++ [(⟨e.id, (j : Int), 0⟩ : PPt)]).map ea = (u ++ [p]).map ea := by
        rw [List.map_append, List.map_append, hz]
        simp [ea, hid, hj]
      have ha2 : a = (u ++ [p]) ++ v := by rw [ha]; simp
      have hres := ih (u ++ [p]) v (z ++ [(⟨e.id, (j : Int), 0⟩ : PPt)]) ha2 (by rw [List.length_append]; simp; omega) hz2
      have hfn := form_new hl hem hje 0
      have hcs : runF G.net.steps 1 (clsA G.lex (z ++ [(⟨e.id, (j : Int), 0⟩ : PPt)])) = afterF G.net.steps (runF G.net.steps 1 (clsA G.lex z)) e.cls := by rw [clsA_snoc, clsOf_some hfn, run_snoc]
      have hbs : baseA G.lex (z ++ [(⟨e.id, (j : Int), 0⟩ : PPt)]) = baseA G.lex z ++ (formsP e)[j] := by rw [baseA_snoc, formOf_some hfn]
      have hCz : clsA G.lex (z ++ [(⟨e.id, (j : Int), 0⟩ : PPt)]) = clsA G.lex (u ++ [p]) := clsA_ea _ _ hz2
      have hBz : baseA G.lex (z ++ [(⟨e.id, (j : Int), 0⟩ : PPt)]) = baseA G.lex (u ++ [p]) := baseA_ea _ _ hz2
      have hle : (baseA G.lex z ++ (formsP e)[j]).length ≤ (baseA G.lex a).length := by
        rw [← hbs, hBz, ha2, baseA_eq, baseA_eq, List.flatMap_append (xs := u ++ [p])]
        simp
      refine lexL_mem.2 ⟨e, hem, ?_, ?_⟩
      · intro h0
        rw [h0, hCz] at hcs
        have h1 : runF G.net.steps 1 (clsA G.lex a) = 0 := by
          have h2 : clsA G.lex a = clsA G.lex (u ++ [p]) ++ clsA G.lex v := by rw [ha2, clsA, List.filterMap_append]; rfl
          rw [h2, run_app, hcs, run_zero]
        unfold accF at r4
        rw [h1] at r4
        simp at r4
      · rw [stepF, if_neg (by rw [hid]; omega)]
        refine formL_mem.2 ⟨j, (formsP e)[j], hje, ?_, ?_⟩
        · rw [List.length_append] at hle
          simp only [tooB, Bool.or_eq_false_iff, decide_eq_false_iff_not, Bool.and_eq_false_iff, Bool.not_eq_false']
          refine ⟨by omega, ?_⟩
          cases hsh : shrB G.rules
          · right
            have h2 := lastF_eq G.inv G.rules (baseA G.lex a) hsh (hl.nz a)
            rw [hf] at h2
            omega
          · exact .inl rfl
        · rw [Nat.zero_add, ← hbs, ← hcs]
          exact hres
end
end Go.Proofs.YtiopgbbggeimaaaGreat

/-
  What Of answers at a spelled analysis.
-/
namespace Go.Proofs.YtiopgbbggeimaaaGreat
theorem toF_in {I : List PPh} {x : Int} (hx : isB I x = true) : ∀ (fr tto : List Int), (∀ y ∈ tto, y = 0 ∨ isB I y = true) → toF fr tto x = 0 ∨ isB I (toF fr tto x) = true
  | [], _, _ => .inr (by simpa [toF] using hx)
  | _ :: _, [], _ => .inr (by simpa [toF] using hx)
  | f :: fr, t :: tto, h => by
    rw [toF]
    split
    · exact h t (by simp)
    · exact toF_in hx fr tto (fun y hy => h y (by simp [hy]))
theorem applyF_in {I : List PPh} {R : PRule} (hR : RGood I R) {l : List Int} (hl : ∀ x ∈ l, isB I x = true) : ∀ x ∈ applyF I R l, isB I x = true := by
  intro x hx
  unfold applyF applyK at hx
  obtain ⟨i, hi, hs⟩ := List.mem_flatMap.1 hx
  rw [List.mem_range] at hi
  have hnz := sym_nz _ _ hs
  have hxi : isB I (l.getD i 0) = true := by
    simp only [List.getD, List.getElem?_eq_getElem hi, Option.getD_some]
    exact hl _ (List.getElem_mem hi)
  have ho : outB I R l i = 0 ∨ isB I (outB I R l i) = true := by
    unfold outB
    split
    · exact toF_in hxi _ _ hR.tto
    · exact .inr hxi
  unfold sym at hs
  split at hs
  · simp at hs
  · rename_i h0
    rw [List.mem_singleton] at hs
    rw [hs]
    rcases ho with ho | ho
    · exact absurd ho h0
    · exact ho
theorem lastF_in {I : List PPh} {Rs : List PRule} (hR : ∀ R ∈ Rs, RGood I R) {l : List Int} (hl : ∀ x ∈ l, isB I x = true) : ∀ x ∈ lastF I Rs l, isB I x = true := by
  unfold lastF
  have key : ∀ k, k ≤ Rs.length → ∀ x ∈ lastK I Rs l k, isB I x = true := by
    intro k
    induction k with
    | zero => intro _; simpa [lastK] using hl
    | succ k ih =>
      intro hk
      rw [lastK_succ I l (List.drop_eq_getElem_cons (show k < Rs.length by omega))]
      exact applyF_in (hR _ (List.getElem_mem _)) (ih (by omega))
  exact key _ (Nat.le_refl _)
theorem exact_ok {us : List PU} {w : List Int} (h : exactF us w = true) : (spellF us w).2.2 = 0 ∧ (readF us (spellF us w).1).2.2 = 0 ∧ (readF us (spellF us w).1).1 = w := by
  simp only [exactF, Bool.and_eq_true, beq_iff_eq] at h
  exact ⟨h.1.1, h.1.2, (sameB_iff _ _).1 h.2⟩
section
variable {G : PLang} (hl : LightOk G)
include hl
theorem form_right {a : List PPt} (h : (formF G a).2 = 0) : rightC G a = 0 ∧ lastF G.inv G.rules (baseA G.lex a) = (formF G a).1 ∧ (formF G a).1 ≠ [] ∧ wordC G.inv (formF G a).1 = 0 := by
  unfold formF at h ⊢
  by_cases hr : rightC G a = 0
  · rw [if_neg (by simp [hr])] at h ⊢
    by_cases h0 : (lastF G.inv G.rules (baseA G.lex a)).length = 0
    · rw [if_pos h0] at h; cases h
    · rw [if_neg h0]
      have hne : lastF G.inv G.rules (baseA G.lex a) ≠ [] := fun e => h0 (by rw [e]; rfl)
      refine ⟨hr, rfl, hne, ?_⟩
      have h24 := (rightC_iff.1 hr).2.2.2.2
      have hle := lastF_len G.inv G.rules (baseA G.lex a)
      exact wordC_ok.2 ⟨hne, Nat.le_trans hle h24, lastF_in hl.rules (hl.seg a)⟩
  · rw [if_pos hr] at h; exact absurd h hr
theorem all_sound {w : List Int} : ∀ b ∈ (allF G w).1, rightC G b = 0 ∧ formF G b = (w, 0) := by
  intro b hb
  unfold allF at hb
  split at hb
  · cases hb
  rcases Nat.lt_or_ge 200 (hits G w 4 [] 1 []).length with h | h
  · obtain ⟨Ls, hL⟩ := foldE_many (hits G w 4 [] 1 []) [] false (by simp) (by simpa using h)
    rw [hL] at hb
    simp at hb
  · obtain ⟨Ls, hL, _, hm⟩ := foldE_few (hits G w 4 [] 1 []) [] false (by simpa using h)
    rw [hL] at hb
    simp only [Bool.false_eq_true, if_false] at hb
    have h2 := (hm b).1 hb
    simp only [List.not_mem_nil, false_or] at h2
    exact hits_sound hl 4 [] b rfl (by simp) (by simp [baseA]) h2
theorem all_whole {a : List PPt} (h : (formF G a).2 = 0) : ((allF G (formF G a).1).2 = 0 ∧ a ∈ (allF G (formF G a).1).1) ∨ allF G (formF G a).1 = ([], 11) := by
  obtain ⟨hr, hf, hne, hw⟩ := form_right hl h
  generalize (formF G a).1 = w at hf hne hw ⊢
  unfold allF
  rw [if_neg (by simp [hw])]
  have ha : a ∈ hits G w 4 [] 1 [] := hits_whole hl hr hf hne 4 [] a [] rfl rfl rfl
  rcases Nat.lt_or_ge 200 (hits G w 4 [] 1 []).length with h | h
  · obtain ⟨Ls, hL⟩ := foldE_many (hits G w 4 [] 1 []) [] false (by simp) (by simpa using h)
    rw [hL]
    exact .inr rfl
  · obtain ⟨Ls, hL, _, hm⟩ := foldE_few (hits G w 4 [] 1 []) [] false (by simpa using h)
    rw [hL]
    exact .inl ⟨rfl, (hm a).2 (.inr ha)⟩
end
/-- the orthography plays no part -/
def withO (G : PLang) (o : PO) : PLang := ⟨G.inv, o, G.rules, G.net, G.lex⟩
theorem formL_ort (rec : Rec) (G : PLang) (o : PO) (ws : List Int) (id : Int) (parts : List PPt) (nx : Nat) (base : List Int) : ∀ (l : List (List Int)) (i : Nat), formL rec (withO G o) ws id parts nx base i l = formL rec G ws id parts nx base i l
  | [], _ => rfl
  | f :: l, i => by rw [formL_cons, formL_cons, formL_ort rec G o ws id parts nx base l (i + 1)]; rfl
theorem lexL_ort (rec : Rec) (G : PLang) (o : PO) (ws : List Int) (parts : List PPt) (now : Nat) (base : List Int) : ∀ (L : List PE), lexL rec (withO G o) ws parts now base L = lexL rec G ws parts now base L
  | [] => rfl
  | p :: L => by
    rw [lexL_cons, lexL_cons, lexL_ort rec G o ws parts now base L]
    have : ∀ nx, stepF rec (withO G o) ws p parts nx base = stepF rec G ws p parts nx base := fun nx => by
      unfold stepF
      rw [formL_ort]
      rfl
    rw [this]
    rfl
theorem hits_ort (G : PLang) (o : PO) (ws : List Int) : ∀ (k : Nat) (parts : List PPt) (now : Nat) (base : List Int), hits (withO G o) ws k parts now base = hits G ws k parts now base
  | 0, _, _, _ => rfl
  | k + 1, parts, now, base => by
    rw [hits_succ, hits_succ, lexL_ort]
    have h : hits (withO G o) ws k = hits G ws k := by
      funext a b c
      exact hits_ort G o ws k a b c
    rw [h]
    rfl
theorem allF_ort (G : PLang) (o : PO) (w : List Int) : allF (withO G o) w = allF G w := by
  unfold allF
  rw [hits_ort]
  rfl
theorem LightOk.ort {G : PLang} (h : LightOk G) {o : PO} (ho : GoodO o.units) : LightOk (withO G o) := ⟨h.segs, ho, h.rules, h.rlen, h.net, h.lex, h.five, h.alts⟩
end Go.Proofs.YtiopgbbggeimaaaGreat
