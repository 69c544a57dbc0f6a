/-
  Less (package surface): cmp.Or, compare, slices.CompareFunc.
-/
import Derived.Test.YtiopgbbggeimaaaGreatKZ
namespace Go.Proofs.YtiopgbbggeimaaaGreat
open Go.ChangeShapes Go.WideShapes Go.ChangeAt Go.RowKit
/-- the first that is not 0 -/
def orF : List Int → Int
  | [] => 0
  | x :: l => if x = 0 then orF l else x
set_option maxHeartbeats 2000000 in
set_option maxRecDepth 100000 in
theorem or_any (v : Value) (l : List Int) (w : World) (hv : RdI w v l) :
    Calls Tryz.prog 112 #[v] w fun e w' => e = .returned (.int .i64 (orF l)) ∧ Below w.heap.size w w' := by
  obtain ⟨A, n, c, rfl, _, _, HN, HR⟩ := hv.op
  clear hv
  go_enter Tryz.func112, Tryz.ntmps112
  go_wp2_with fail
  go_loopw [8] (fun v8 wr => ∃ k : Nat, k ≤ n ∧ v8 = .int .i64 k ∧ Hid (orF l = orF (l.drop k)) ∧ Hid (Below w.heap.size w wr)) (fun v8 _ => n - (intOf v8).toNat)
  case atStart => exact ⟨0, Nat.zero_le _, rfl, rfl, Below.refl _ _⟩
  case round =>
    obtain ⟨k, hk, rfl, HK, HBR⟩ := hrel
    by_cases hlt : k < n
    · obtain ⟨b, off, x, rfl, hb, hd, c0⟩ := (HR.out k hlt).below HBR.out
      have HK2 : Hid (orF l = if x = 0 then orF (l.drop (k + 1)) else x) := by rw [Hid, HK.out, hd.out]; rfl
      have hk0 : (0 : Int) ≤ (k : Int) := by omega
      by_cases hx : x = 0
      · have HK3 : Hid (orF l = orF (l.drop (k + 1))) := by rw [Hid, HK2.out, if_pos hx]
        have d1 : (x != 0) = false := by simp [hx]
        clear hx
        go_wp2_with fail
        go_roundw
        case rel => exact ⟨k + 1, by omega, by go_num, HK3.out, HBR.out⟩
        case measure => simp [intOf]; omega
      · have HK3 : Hid (orF l = x) := by rw [Hid, HK2.out, if_neg hx]
        have d1 : (x != 0) = true := by simp [hx]
        clear hx
        go_wp2_with fail
        go_ret
        exact ⟨by rw [HK3.out]; rfl, HBR.out⟩
    · have HK3 : Hid (orF l = 0) := by rw [Hid, HK.out, List.drop_of_length_le (by rw [HN.out]; omega)]; rfl
      go_wp2_with fail
      go_ret
      exact ⟨by rw [HK3.out]; rfl, HBR.out⟩
def cmp3 (p q : PPt) : Int := orF [Lib.compareInt p.e q.e, Lib.compareInt p.a q.a, Lib.compareInt p.s q.s]
theorem rd_new3 (w : World) (a b c : Int) : RdI (w.alloc (.cells #[.int .i64 a, .int .i64 b, .int .i64 c] 3)) (.slice (some ⟨w.heap.size, 0, none⟩) 3 3) [a, b, c] := by
  refine ⟨_, 3, rfl, by simp, by decide, rfl, fun _ => ⟨w.heap.size, 0, rfl, by simp, fun j u hu => ?_⟩⟩
  have h := cell_of_row _ w.heap.size (0 + j) _ _ (0, 0) (heap_alloc_new w (.cells #[.int .i64 a, .int .i64 b, .int .i64 c] 3))
  rw [h]
  match j, hu with
  | 0, hu => simpa using hu
  | 1, hu => simpa using hu
  | 2, hu => simpa using hu
set_option maxHeartbeats 4000000 in
set_option maxRecDepth 100000 in
theorem compare_any (p q : PPt) (w : World) :
    Calls Tryz.prog 92 #[.agg #[.int .i64 p.e, .int .i64 p.a, .int .i64 p.s], .agg #[.int .i64 q.e, .int .i64 q.a, .int .i64 q.s]] w fun e w' => e = .returned (.int .i64 (cmp3 p q)) ∧ Below w.heap.size w w' := by
  go_enter Tryz.func92, Tryz.ntmps92
  go_upto_region 1 with (fail)
  generalize hW : World.alloc (World.alloc w _) _ = W
  have HBW : Hid (Below w.heap.size w W) := by rw [← hW]; exact bchain (al_below _ _) (al_below _ _)
  have HP : Hid (PtBlk W w.heap.size p) := by rw [← hW]; exact PtBlk.below (heap_alloc_new w _) (al_below _ _)
  have HQ : Hid (PtBlk W (w.heap.size + 1) q) := by
    have h := heap_alloc_new (w.alloc (.cells #[.int .i64 p.e, .int .i64 p.a, .int .i64 p.s] 65)) (.cells #[.int .i64 q.e, .int .i64 q.a, .int .i64 q.s] 65)
    rw [World.size_alloc] at h
    rw [← hW]; exact h
  clear hW
  refine wp_region_ord 14 [0, 1, 2, 3, 4, 5, 6, 7, 8, 9, 10, 11, 12, 13] [] [0, 1, 2, 3, 5, 6, 7, 8, 10, 11, 12, 13] [4, 9, 14, 15, 16, 17] (fun w' => Below W.heap.size W w') (by kernel_rfl) (by kernel_rfl) ?_
  rintro Z hZ
  have HSZ : Hid (Below W.heap.size W Z) := by rw [hZ]; exact (Below.refl _ _).drew
  clear hZ
  refine ⟨HSZ.out, ?_⟩
  have HS : Hid (∀ w' : World, Below W.heap.size W w' → (w'.cell? ⟨w.heap.size, 0, none⟩ = some (.int .i64 p.e) ∧ w'.cell? ⟨w.heap.size, 1, none⟩ = some (.int .i64 p.a) ∧ w'.cell? ⟨w.heap.size, 2, none⟩ = some (.int .i64 p.s) ∧ w.heap.size < w'.heap.size) ∧
      (w'.cell? ⟨w.heap.size + 1, 0, none⟩ = some (.int .i64 q.e) ∧ w'.cell? ⟨w.heap.size + 1, 1, none⟩ = some (.int .i64 q.a) ∧ w'.cell? ⟨w.heap.size + 1, 2, none⟩ = some (.int .i64 q.s) ∧ w.heap.size + 1 < w'.heap.size)) :=
    fun w' h => ⟨(HP.out.below h).facts, (HQ.out.below h).facts⟩
  iterate 12 (refine wpHead_cons (v := ?_) rfl rfl (fun w' hS => ?_) ?_; rotate_left; (focus ((try obtain ⟨⟨s0, s1, s2, s3⟩, t0, t1, t2, t3⟩ := HS.out _ (hS rfl)); clear hS; go_simp; try with_reducible rfl; done)); (try simp only [Act.put, List.setIfInBounds_toArray, List.set_cons_zero, List.set_cons_succ]))
  refine wpHead_nil ?_
  refine wpTail_cons rfl rfl (fun K hK => ?_)
  go_simp
  refine (cmp_Compare_int p.e q.e _).mono ?_
  rintro e w1 ⟨rfl, rfl⟩
  refine hK.out _ _ (fun _ => HSZ.out) ?_
  clear hK K
  (try simp only [Act.put, List.setIfInBounds_toArray, List.set_cons_zero, List.set_cons_succ])
  refine wpTail_cons rfl rfl (fun K hK => ?_)
  go_simp
  refine (cmp_Compare_int p.a q.a _).mono ?_
  rintro e w1 ⟨rfl, rfl⟩
  refine hK.out _ _ (fun _ => HSZ.out) ?_
  clear hK K
  (try simp only [Act.put, List.setIfInBounds_toArray, List.set_cons_zero, List.set_cons_succ])
  refine wpTail_cons rfl rfl (fun K hK => ?_)
  go_simp
  refine (cmp_Compare_int p.s q.s _).mono ?_
  rintro e w1 ⟨rfl, rfl⟩
  refine hK.out _ _ (fun h => absurd h (by decide)) ?_
  clear hK K HS
  (try simp only [Act.put, List.setIfInBounds_toArray, List.set_cons_zero, List.set_cons_succ])
  refine wpTail_rest 15 rfl ?_
  simp only [List.drop_succ_cons, List.drop_zero]
  go_wp2_with fail
  refine (or_any _ [Lib.compareInt p.e q.e, Lib.compareInt p.a q.a, Lib.compareInt p.s q.s] _ (rd_new3 _ _ _ _)).mono ?_
  rintro e w2 ⟨rfl, hb2⟩
  have HB2 : Hid (Below W.heap.size W w2) := bchain (HSZ.out.alloc HSZ.out.size _) hb2
  clear hb2
  go_wp2_with fail
  refine NoPanic.normal ?_
  go_wp2_with fail
  go_ret
  exact ⟨rfl, bchain HBW.out HB2.out⟩
theorem cmpI_zero {x y : Int} : Lib.compareInt x y = 0 ↔ x = y := by
  rw [Lib.compareInt]
  split
  · constructor <;> intro h <;> omega
  · split
    · constructor <;> intro h <;> omega
    · constructor
      · intro _; omega
      · intro _; rfl
theorem cmpI_neg {x y : Int} : Lib.compareInt x y < 0 ↔ x < y := by
  rw [Lib.compareInt]
  split
  · constructor
    · intro _; assumption
    · intro _; decide
  · split
    · constructor <;> intro h <;> omega
    · constructor <;> intro h <;> omega
theorem cmp3_zero {p q : PPt} : cmp3 p q = 0 ↔ p = q := by
  obtain ⟨a, b, c⟩ := p
  obtain ⟨d, e, f⟩ := q
  simp only [cmp3, orF, PPt.mk.injEq]
  by_cases h1 : Lib.compareInt a d = 0
  · rw [if_pos h1]
    by_cases h2 : Lib.compareInt b e = 0
    · rw [if_pos h2]
      by_cases h3 : Lib.compareInt c f = 0
      · rw [if_pos h3]; simp [cmpI_zero.1 h1, cmpI_zero.1 h2, cmpI_zero.1 h3]
      · rw [if_neg h3]
        constructor
        · intro h; exact absurd h h3
        · intro h; exact absurd (cmpI_zero.2 h.2.2) h3
    · rw [if_neg h2]
      constructor
      · intro h; exact absurd h h2
      · intro h; exact absurd (cmpI_zero.2 h.2.1) h2
  · rw [if_neg h1]
    constructor
    · intro h; exact absurd h h1
    · intro h; exact absurd (cmpI_zero.2 h.1) h1
theorem cmp3_neg {p q : PPt} (hne : p ≠ q) : decide (cmp3 p q < 0) = ltP p q := by
  obtain ⟨a, b, c⟩ := p
  obtain ⟨d, e, f⟩ := q
  by_cases h1 : a = d
  · by_cases h2 : b = e
    · by_cases h3 : c = f
      · exact absurd (by rw [h1, h2, h3]) hne
      · have hv : cmp3 ⟨a, b, c⟩ ⟨d, e, f⟩ = Lib.compareInt c f := by
          simp only [cmp3, orF]
          rw [if_pos (cmpI_zero.2 h1), if_pos (cmpI_zero.2 h2), if_neg (fun h => h3 (cmpI_zero.1 h))]
        rw [hv, ltP, if_pos h1, if_pos h2]
        exact decide_eq_decide.2 cmpI_neg
    · have hv : cmp3 ⟨a, b, c⟩ ⟨d, e, f⟩ = Lib.compareInt b e := by
        simp only [cmp3, orF]
        rw [if_pos (cmpI_zero.2 h1), if_neg (fun h => h2 (cmpI_zero.1 h))]
      rw [hv, ltP, if_pos h1, if_neg h2]
      exact decide_eq_decide.2 cmpI_neg
  · have hv : cmp3 ⟨a, b, c⟩ ⟨d, e, f⟩ = Lib.compareInt a d := by
      simp only [cmp3, orF]
      rw [if_neg (fun h => h1 (cmpI_zero.1 h))]
    rw [hv, ltP, if_neg h1]
    exact decide_eq_decide.2 cmpI_neg
def cmpL : List PPt → List PPt → Int
  | [], [] => 0
  | [], _ :: _ => -1
  | _ :: _, [] => 1
  | p :: l, q :: m => if cmp3 p q = 0 then cmpL l m else cmp3 p q
theorem cmpL_less : ∀ (a b : List PPt), decide (cmpL a b < 0) = lessA a b
  | [], [] => by simp [cmpL, lessA]
  | [], _ :: _ => by simp [cmpL, lessA]
  | _ :: _, [] => by simp [cmpL, lessA]
  | p :: l, q :: m => by
    rw [cmpL, lessA_cons]
    by_cases h : p = q
    · rw [if_pos (cmp3_zero.2 h), if_pos h]; exact cmpL_less l m
    · rw [if_neg (fun h' => h (cmp3_zero.1 h')), if_neg h]; exact cmp3_neg h
set_option maxHeartbeats 8000000 in
set_option maxRecDepth 100000 in
theorem compareF_any (v u : Value) (a b : List PPt) (w : World) (hv : RdPt w v a) (hu : RdPt w u b) :
    Calls Tryz.prog 91 #[v, u, .func (.func 92) #[] #[]] w fun e w' => e = .returned (.int .i64 (cmpL a b)) ∧ Below w.heap.size w w' := by
  obtain ⟨A, n, c, rfl, _, hc1, HN, HR⟩ := hv.op
  obtain ⟨A', n', c', rfl, _, hc2, HN', HR'⟩ := hu.op
  clear hv hu
  go_enter Tryz.func91, Tryz.ntmps91
  go_wp2_with fail
  go_loopw [13] (fun v13 wr => ∃ k : Nat, k ≤ n ∧ k ≤ n' ∧ v13 = .int .i64 k ∧ Hid (cmpL a b = cmpL (a.drop k) (b.drop k)) ∧ Hid (Below w.heap.size w wr)) (fun v13 _ => n - (intOf v13).toNat)
  case atStart => exact ⟨0, Nat.zero_le _, Nat.zero_le _, rfl, rfl, Below.refl _ _⟩
  case round =>
    obtain ⟨k, hk, hk', rfl, HK, HBR⟩ := hrel
    by_cases hlt : k < n
    · obtain ⟨b1, off, p, rfl, hb, hd, c0, c1, c2⟩ := (HR.out k hlt).below HBR.out
      have hk0 : (0 : Int) ≤ (k : Int) := by omega
      obtain ⟨wo, rfl⟩ : ∃ wo : World, wo = wr := ⟨_, rfl⟩
      go_upto_region 4 with (fail)
      generalize hX : World.alloc wo _ = X
      have HXB : Hid (Below w.heap.size w X) := by rw [← hX]; exact bchain HBR.out (al_below _ _)
      have HXP : Hid (PtBlk X wo.heap.size p) := by rw [← hX]; exact heap_alloc_new wo _
      clear hX c0 c1 c2
      generalize wo.heap.size = gx at HXP ⊢
      by_cases hlt' : k < n'
      · have l2 : decide ((n' : Int) ≤ (k : Int)) = false := by simp; omega
        have l2' : decide (n' ≤ k) = false := by simp; omega
        obtain ⟨b2, off', q, rfl, hb', hd', d0, d1, d2⟩ := (HR'.out k hlt').below HXB.out
        have HK2 : Hid (cmpL a b = if cmp3 p q = 0 then cmpL (a.drop (k + 1)) (b.drop (k + 1)) else cmp3 p q) := by rw [Hid, HK.out, hd.out, hd'.out, cmpL]
        obtain ⟨wo2, rfl⟩ : ∃ wo : World, wo = X := ⟨_, rfl⟩
        go_upto_region 7 with (fail)
        generalize hX : World.alloc wo2 _ = Y
        have HYB : Hid (Below w.heap.size w Y) := by rw [← hX]; exact bchain HXB.out (al_below _ _)
        have HYP : Hid (PtBlk Y gx p) := by rw [← hX]; exact HXP.out.below (al_below _ _)
        have HYQ : Hid (PtBlk Y wo2.heap.size q) := by rw [← hX]; exact heap_alloc_new wo2 _
        clear hX d0 d1 d2
        generalize wo2.heap.size = gy at HYQ ⊢
        obtain ⟨p0, p1, p2, pl⟩ := HYP.out.facts
        obtain ⟨q0, q1, q2, ql⟩ := HYQ.out.facts
        go_wp2_with fail
        refine (compare_any p q _).mono ?_
        rintro e w2 ⟨rfl, hb2⟩
        have HB2 := Lib.hid (bchain HYB.out hb2)
        clear hb2 p0 p1 p2 pl q0 q1 q2 ql
        obtain ⟨x, hx⟩ : ∃ x, cmp3 p q = x := ⟨_, rfl⟩
        rw [hx] at HK2 ⊢
        clear hx
        by_cases hx0 : x = 0
        · have HK3 : Hid (cmpL a b = cmpL (a.drop (k + 1)) (b.drop (k + 1))) := by rw [Hid, HK2.out, if_pos hx0]
          subst hx0
          go_wp2_with fail
          go_roundw
          case rel => exact ⟨k + 1, by omega, by omega, by go_num, HK3.out, HB2.out⟩
          case measure => simp [intOf]; omega
        · have HK3 : Hid (cmpL a b = x) := by rw [Hid, HK2.out, if_neg hx0]
          have dx : (x != 0) = true := by simp [hx0]
          clear hx0
          go_wp2_with fail
          go_ret
          exact ⟨by rw [HK3.out]; rfl, HB2.out⟩
      · have l2 : decide ((n' : Int) ≤ (k : Int)) = true := by simp; omega
        have l2' : decide (n' ≤ k) = true := by simp; omega
        have HK3 : Hid (cmpL a b = 1) := by rw [Hid, HK.out, hd.out, List.drop_of_length_le (l := b) (by rw [HN'.out]; omega)]; rfl
        go_wp2_with fail
        go_ret
        exact ⟨by rw [HK3.out]; rfl, HXB.out⟩
    · obtain rfl : n = k := by omega
      by_cases hnn : n < n'
      · have e1 : decide ((n : Int) < (n' : Int)) = true := by simp; omega
        have e1' : decide (n < n') = true := by simp; omega
        have HK3 : Hid (cmpL a b = -1) := by
          rw [Hid, HK.out, List.drop_of_length_le (l := a) (by rw [HN.out]; omega)]
          have : (b.drop n).length ≠ 0 := by rw [List.length_drop, HN'.out]; omega
          match b.drop n, this with
          | q :: m, _ => rfl
        go_wp2_with fail
        go_ret
        exact ⟨by rw [HK3.out]; rfl, HBR.out⟩
      · have e1 : decide ((n : Int) < (n' : Int)) = false := by simp; omega
        have e1' : decide (n < n') = false := by simp; omega
        have HK3 : Hid (cmpL a b = 0) := by rw [Hid, HK.out, List.drop_of_length_le (l := a) (by rw [HN.out]; omega), List.drop_of_length_le (l := b) (by rw [HN'.out]; omega)]; rfl
        go_wp2_with fail
        go_ret
        exact ⟨by rw [HK3.out]; rfl, HBR.out⟩
set_option maxHeartbeats 2000000 in
set_option maxRecDepth 100000 in
theorem less_any (v u : Value) (a b : List PPt) (w : World) (hv : RdPt w v a) (hu : RdPt w u b) :
    Calls Tryz.prog 54 #[.agg #[v], .agg #[u]] w fun e w' => e = .returned (.bool (lessA a b)) ∧ Below w.heap.size w w' := by
  have HV := Lib.hid hv
  have HU := Lib.hid hu
  obtain ⟨A, n, c, rfl, _, _, _, _⟩ := hv.op
  obtain ⟨A', n', c', rfl, _, _, _, _⟩ := hu.op
  clear hv hu
  go_enter Tryz.func54, Tryz.ntmps54
  go_upto_region 1 with (fail)
  generalize hW : World.alloc (World.alloc w _) _ = W
  have HBW : Hid (Below w.heap.size w W) := by rw [← hW]; exact bchain (al_below _ _) (al_below _ _)
  have HP : Hid (AnBlk W w.heap.size (.slice A n c)) := by rw [← hW]; exact AnBlk.below (heap_alloc_new w _) (al_below _ _)
  have HQ : Hid (AnBlk W (w.heap.size + 1) (.slice A' n' c')) := by
    have h := heap_alloc_new (w.alloc (.cells #[.slice A n c] 39)) (.cells #[.slice A' n' c'] 39)
    rw [World.size_alloc] at h
    rw [← hW]; exact h
  clear hW
  have pc := HP.out.cell
  have qc := HQ.out.cell
  go_wp2_with fail
  refine (compareF_any _ _ a b _ (HV.out.below HBW.out) (HU.out.below HBW.out)).mono ?_
  rintro e w1 ⟨rfl, hb⟩
  have HB1 := Lib.hid (bchain HBW.out hb)
  have HL := Lib.hid (cmpL_less a b)
  clear hb
  go_wp2_with fail
  go_ret
  exact ⟨by rw [← HL.out]; rfl, HB1.out⟩
end Go.Proofs.YtiopgbbggeimaaaGreat
