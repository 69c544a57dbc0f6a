/-
  Part of variants; with of the reference; a copy of senses.
-/
import Derived.Test.YtnjniganlielcaaV8
namespace Go.Proofs.Ytnjniganlielcaa
open Go.ChangeShapes Go.WideShapes Go.ChangeAt Go.RowKit
def partK (K : List EK) (id : Int) : Int := match getK K id with
  | none => 9
  | some e => if e.main = 0 then 1 else if e.ns = 0 then 4 else 0
def partE (L : List EV) (id : Int) : List EV := if partK (keys L) id = 0 then setE L id 0 else []
set_option maxHeartbeats 1000000 in
set_option maxRecDepth 100000 in
theorem part_any (v : Value) (L : List EV) (id : Int) (w : World) (hv : RdV w v L) (hl : L.length ≤ 100000) :
    Calls Try.prog 26 #[v, .int .i64 id] w fun e w' => (∃ v', e = .returned (.tuple #[v', .int .i64 (partK (keys L) id)]) ∧ OwnV w' w.heap.size v' (partE L id)) ∧ Below w.heap.size w w' := by
  obtain ⟨A, n, c, rfl, h1, h2, HN, _⟩ := hv.op
  have HV := Lib.hid hv
  have HL := Lib.hid hl
  clear hv hl
  have HK := Lib.hid (getK_keys L id)
  go_enter Try.func26, Try.ntmps26
  go_wp2_with fail
  refine (get_any _ L id _ HV.out).mono ?_
  rintro e' w1 ⟨rfl, hb⟩
  have HB1 := Lib.hid hb
  clear hb
  rcases hg : getE L id with _ | e
  · have HG : Hid (getV L id = .tuple #[.agg #[.int .i64 evz.id, .slice evz.f.A evz.f.n evz.f.c, .int .i64 evz.cls, .slice evz.a.A evz.a.n evz.a.c, .int .i64 evz.main, .slice evz.s.A evz.s.n evz.s.c, .slice evz.l.A evz.l.n evz.l.c, .slice evz.r.A evz.r.n evz.r.c], .bool false]) := by rw [Hid, getV, hg]; rfl
    have HP : Hid (partK (keys L) id = 9) := by rw [Hid, partK, HK.out, hg]; rfl
    have HE : Hid (partE L id = []) := by rw [Hid, partE, HP.out]; rfl
    clear hg
    rw [HG.out]
    go_wp2_with fail
    go_ret2
    refine ⟨⟨_, by rw [HP.out]; rfl, ?_⟩, HB1.out.alloc HB1.out.size _⟩
    rw [HE.out]
    exact World.ownsRow_nil _ _ _ _
  have HG : Hid (getV L id = .tuple #[.agg #[.int .i64 e.id, .slice e.f.A e.f.n e.f.c, .int .i64 e.cls, .slice e.a.A e.a.n e.a.c, .int .i64 e.main, .slice e.s.A e.s.n e.s.c, .slice e.l.A e.l.n e.l.c, .slice e.r.A e.r.n e.r.c], .bool true]) := by rw [Hid, getV, hg]; rfl
  have HP : Hid (partK (keys L) id = if e.main = 0 then 1 else if e.s.n = 0 then 4 else 0) := by rw [Hid, partK, HK.out, hg]; rfl
  clear hg
  rw [HG.out]
  by_cases hm : e.main = 0
  · have hm0 : (e.main == 0) = true := by simpa using hm
    have HP2 : Hid (partK (keys L) id = 1) := by rw [Hid, HP.out, if_pos hm]
    have HE : Hid (partE L id = []) := by rw [Hid, partE, HP2.out]; rfl
    clear hm
    go_wp2_with fail
    go_ret2
    refine ⟨⟨_, by rw [HP2.out]; rfl, ?_⟩, HB1.out.alloc HB1.out.size _⟩
    rw [HE.out]
    exact World.ownsRow_nil _ _ _ _
  have hm0 : (e.main == 0) = false := by simpa using hm
  by_cases hs : e.s.n = 0
  · have hs0 : ((e.s.n : Int) == 0) = true := by simpa using hs
    have HP2 : Hid (partK (keys L) id = 4) := by rw [Hid, HP.out, if_neg hm, if_pos hs]
    have HE : Hid (partE L id = []) := by rw [Hid, partE, HP2.out]; rfl
    clear hm hs
    go_wp2_with fail
    go_ret2
    refine ⟨⟨_, by rw [HP2.out]; rfl, ?_⟩, HB1.out.alloc HB1.out.size _⟩
    rw [HE.out]
    exact World.ownsRow_nil _ _ _ _
  have hs0 : ((e.s.n : Int) == 0) = false := by simpa using hs
  have HP2 : Hid (partK (keys L) id = 0) := by rw [Hid, HP.out, if_neg hm, if_neg hs]
  have HE : Hid (partE L id = setE L id 0) := by rw [Hid, partE, if_pos HP2.out]
  clear hm hs
  go_wp2_with fail
  refine (set_any _ L id 0 _ (HV.out.below (HB1.out.alloc HB1.out.size _)) HL.out).mono ?_
  rintro e' w2 ⟨⟨v2, rfl, ho⟩, hb⟩
  have HB2 := Lib.hid (bchain (HB1.out.alloc HB1.out.size _) hb)
  have HO := Lib.hid ho
  obtain ⟨A2, n2, c2, rfl, _, _, _, _⟩ := ho.rd.op
  clear ho hb
  go_wp2_with fail
  go_ret2
  refine ⟨⟨_, by rw [HP2.out]; rfl, ?_⟩, HB2.out⟩
  rw [HE.out]
  exact own_base HO.out (by have := HB1.out.size; simp; omega)
def OwnSe (w : World) (base : Nat) (v : Value) (l : List PSe) : Prop := w.ownsRow base 41 2 v l.length (l.flatMap seCells)
theorem OwnSe.rd {w : World} {base : Nat} {v : Value} {l : List PSe} (h : OwnSe w base v l) : RdSe w v l := Rd.own h
theorem oneCell_se (l : List PSe) : ∀ u ∈ l.flatMap seCells, u.oneCell' = true := by
  intro u hu
  obtain ⟨e, _, he⟩ := List.mem_flatMap.1 hu
  simp only [seCells, List.mem_cons, List.not_mem_nil, or_false] at he
  rcases he with rfl | rfl <;> rfl
set_option maxHeartbeats 400000 in
theorem cloneS_any (v : Value) (l : List PSe) (w : World) (hv : RdSe w v l) (hl : l.length ≤ 100000) :
    Calls Try.prog 40 #[v] w fun e w' => (∃ v', e = .returned v' ∧ OwnSe w' w.heap.size v' l) ∧ Below w.heap.size w w' := by
  have HV := Lib.hid hv
  have HL := Lib.hid hl
  obtain ⟨A, n, c, rfl, _, _, HN, hr⟩ := hv.op
  clear hl
  cases A with
  | none =>
    have hxs : l = [] := by
      have hv2 := hv
      unfold RdSe at hv2
      rw [HN.out] at hv2
      exact List.length_eq_zero_iff.1 (HN.out.trans (rd_none _ _ _ _ _ hv2).1)
    have HXS := Lib.hid hxs
    clear hxs hv
    have q : ∀ W : World, (binOp .eql 30 (.slice none n c) (.slice none 0 0)).run Try.prog W = .ok (.bool true) W := fun W => Lib.run_eql_slice_nil W _ _ none n c 0 0 Try.underlying30
    go_enter Try.func40, Try.ntmps40
    go_wp2_with fail
    go_ret
    refine ⟨⟨_, rfl, ?_⟩, Below.refl _ _⟩
    rw [HXS.out]
    exact World.ownsRow_nil _ _ _ _
  | some ad =>
    clear hv
    have q : ∀ W : World, (binOp .eql 30 (.slice (some ad) n c) (.slice none 0 0)).run Try.prog W = .ok (.bool false) W := fun W => Lib.run_eql_slice_nil W _ _ (some ad) n c 0 0 Try.underlying30
    go_enter Try.func40, Try.ntmps40
    go_wp2_with (at_builtin; refine wpList_app_rd rfl (.tmp 5) (.tmp 6) 30 rfl w.heap.size 41 _ 2 32 Try.underlying30 infoS rfl (by decide) (.slice (some ⟨w.heap.size, 0, none⟩) 0 0) 0 [] rfl (own_newR w w.heap.size _ _ 2 rfl (Nat.le_refl _)) (.slice (some ad) n c) l.length (l.flatMap seCells) rfl (Rd.alloc HV.out _) (oneCell_se l) (by have := HL.out; simp only [maxLen]; omega) (by have := HL.out; omega) (by simp) ?_; intro vc w2 ho hg _; have HO := Lib.hid ho; have HG := Lib.hid hg; clear ho hg)
    go_ret
    refine ⟨⟨_, rfl, by simpa [OwnSe] using HO.out⟩, ((Below.refl _ _).alloc (Nat.le_refl _) _).grown HG.out (by simp) (fun k hk => by simp [Value.ownBlock] at hk; omega)⟩
theorem with_facts {w W w2 : World} {L : List EV} {n k : Nat} {x : EV} {m : Int} {vc : Value} (HN : L.length = n) (HX : L[k]? = some x) (hkn : k < n) (ho : w2.ownsRow w.heap.size 34 8 vc L.length (evs L)) (hb : Below w.heap.size w W) (hg : W.grownBy w2 (some w.heap.size)) :
    ∃ g cap, vc = .slice (some ⟨g, 0, none⟩) n cap ∧ w.heap.size ≤ g ∧ OwnV w2 w.heap.size (.slice (some ⟨g, 0, none⟩) n cap) L ∧ Below w.heap.size w w2 ∧ w2.frozen? ⟨g, k * 8 + 4, none⟩ = false ∧ w2.cell? ⟨g, k * 8 + 4, none⟩ = some (.int .i64 x.main) ∧
      OwnV (w2.setCell ⟨g, k * 8 + 4, none⟩ (.int .i64 m)) w.heap.size (.slice (some ⟨g, 0, none⟩) n cap) (L.set k (withMain m x)) := by
  rw [HN] at ho
  obtain ⟨g, cap, rfl, hg1, hg2⟩ := World.ownsRow.form ho (by omega)
  have hov : OwnV w2 w.heap.size (.slice (some ⟨g, 0, none⟩) n cap) L := by rw [OwnV, HN]; exact ho
  refine ⟨g, cap, rfl, hg1, hov, hb.grown hg hb.size (fun k hk => by cases hk; exact Nat.le_refl _), World.ownsRow.frozenAt ho _, ?_, ?_⟩
  · rw [World.ownsRow.cellAt ho _ (by omega), evs_at L k (by omega) 4 (by omega), (List.getElem?_eq_some_iff.1 HX).2]
    rfl
  · have := own_withMain hov HN (by omega : k < L.length) m
    rw [(List.getElem?_eq_some_iff.1 HX).2] at this
    exact this
set_option maxHeartbeats 1000000 in
theorem with_any (v : Value) (L : List EV) (k : Nat) (x : EV) (m : Int) (w : World) (hv : RdV w v L) (hl : L.length ≤ 100000) (hx : L[k]? = some x) :
    Calls Try.prog 42 #[v, .int .i64 (k : Int), .int .i64 m] w fun e w' => (∃ v', e = .returned v' ∧ OwnV w' w.heap.size v' (L.set k (withMain m x))) ∧ Below w.heap.size w w' := by
  have HV := Lib.hid hv
  have HL := Lib.hid hl
  obtain ⟨A, n, c, rfl, _, _, HN, hr⟩ := hv.op
  have hkl := (List.getElem?_eq_some_iff.1 hx).1
  have hkn : k < n := by rw [← HN.out]; exact hkl
  have hnl : n ≤ 100000 := by rw [← HN.out]; exact hl
  have HX := Lib.hid hx
  clear hl hv hx hkl
  go_enter Try.func42, Try.ntmps42
  go_wp2_with (at_builtin; refine wpList_app_rd rfl (.tmp 8) (.tmp 9) 22 rfl w.heap.size 34 _ 8 144 Try.underlying22 infoE rfl (by decide) (.slice (some ⟨w.heap.size, 0, none⟩) 0 0) 0 [] rfl (own_newR w w.heap.size _ _ 8 rfl (Nat.le_refl _)) (.slice A n c) L.length (evs L) rfl (Rd.alloc HV.out _) (oneCell_evs L) (by have := HL.out; simp only [maxLen]; omega) (by have := HL.out; omega) (by simp) ?_; intro vc w2 ho hg _; obtain ⟨g, cap, hf1, hg1, hv1, hb1, f4, c4, hw1⟩ := with_facts (m := m) HN.out HX.out hkn (by simpa using ho) ((Below.refl w.heap.size _).alloc (Nat.le_refl _) _) hg; subst hf1; have HBW := Lib.hid hb1; have HW := Lib.hid hw1; clear hb1 hw1 ho hg hv1)
  go_ret
  exact ⟨⟨_, rfl, HW.out⟩, HBW.out.setCell (p := ⟨g, k * 8 + 4, none⟩) hg1 _⟩
end Go.Proofs.Ytnjniganlielcaa
