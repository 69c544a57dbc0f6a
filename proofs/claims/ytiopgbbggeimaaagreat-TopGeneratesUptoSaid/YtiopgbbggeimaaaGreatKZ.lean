/-
  Less and Same of the reference; sameAll.
-/
import Derived.Test.YtiopgbbggeimaaaGreatKV
namespace Go.Proofs.YtiopgbbggeimaaaGreat
open Go.ChangeShapes Go.WideShapes Go.ChangeAt Go.RowKit
set_option maxHeartbeats 2000000 in
set_option maxRecDepth 100000 in
theorem before29_any (p q : PPt) (w : World) :
    Calls Tryz.prog 97 #[.agg #[.int .i64 p.e, .int .i64 p.a, .int .i64 p.s], .agg #[.int .i64 q.e, .int .i64 q.a, .int .i64 q.s]] w fun e w' => e = .returned (.bool (ltP p q)) ∧ Below w.heap.size w w' := by
  obtain ⟨r, hr⟩ : ∃ r, ltP p q = r := ⟨_, rfl⟩
  rw [hr]
  unfold ltP at hr
  go_enter Tryz.func97, Tryz.ntmps97
  go_upto_region 1 with (fail)
  generalize hW : World.alloc (World.alloc w _) _ = W
  have HBW : Hid (Below w.heap.size w W) := by rw [← hW]; exact bchain (al_below _ _) (al_below _ _)
  have HP : Hid (PtBlk W w.heap.size p) := by rw [← hW]; exact PtBlk.below (heap_alloc_new w _) (al_below _ _)
  have HQ : Hid (PtBlk W (w.heap.size + 1) q) := by
    have h := heap_alloc_new (w.alloc (.cells #[.int .i64 p.e, .int .i64 p.a, .int .i64 p.s] 65)) (.cells #[.int .i64 q.e, .int .i64 q.a, .int .i64 q.s] 65)
    rw [World.size_alloc] at h
    rw [← hW]; exact h
  clear hW
  obtain ⟨p0, p1, p2, pl⟩ := HP.out.facts
  obtain ⟨q0, q1, q2, ql⟩ := HQ.out.facts
  by_cases h1 : p.e = q.e
  · have d1 : (p.e != q.e) = false := by simp [h1]
    rw [if_pos h1] at hr
    by_cases h2 : p.a = q.a
    · have d2 : (p.a != q.a) = false := by simp [h2]
      rw [if_pos h2] at hr
      have HR := Lib.hid hr
      clear hr h1 h2
      go_wp2_with fail
      go_ret
      exact ⟨by rw [← HR.out]; rfl, HBW.out⟩
    · have d2 : (p.a != q.a) = true := by simp [h2]
      rw [if_neg h2] at hr
      have HR := Lib.hid hr
      clear hr h1 h2
      go_wp2_with fail
      go_ret
      exact ⟨by rw [← HR.out]; rfl, HBW.out⟩
  · have d1 : (p.e != q.e) = true := by simp [h1]
    rw [if_neg h1] at hr
    have HR := Lib.hid hr
    clear hr h1
    go_wp2_with fail
    go_ret
    exact ⟨by rw [← HR.out]; rfl, HBW.out⟩
theorem lessA_nil (a : List PPt) : lessA a [] = false := by cases a <;> rfl
theorem lessA_end (b : List PPt) : lessA [] b = decide (0 < b.length) := by cases b <;> simp [lessA]
theorem lessA_cons (p q : PPt) (l m : List PPt) : lessA (p :: l) (q :: m) = if p = q then lessA l m else ltP p q := rfl
set_option maxHeartbeats 8000000 in
set_option maxRecDepth 100000 in
theorem rless_any (v u : Value) (a b : List PPt) (w : World) (hv : RdPt w v a) (hu : RdPt w u b) :
    Calls Tryz.prog 66 #[.agg #[v], .agg #[u]] w fun e w' => e = .returned (.bool (lessA a b)) ∧ Below w.heap.size w w' := by
  obtain ⟨A, n, c, rfl, _, _, HN, HR⟩ := hv.op
  obtain ⟨A', n', c', rfl, _, _, HN', HR'⟩ := hu.op
  clear hv hu
  go_enter Tryz.func66, Tryz.ntmps66
  go_upto_region 1 with (fail)
  generalize hW : World.alloc (World.alloc w _) _ = W
  have HBW : Hid (Below w.heap.size w W) := by rw [← hW]; exact bchain (al_below _ _) (al_below _ _)
  have HP : Hid (AnBlk W w.heap.size (.slice A n c)) := by rw [← hW]; exact AnBlk.below (heap_alloc_new w _) (al_below _ _)
  have HQ : Hid (AnBlk W (w.heap.size + 1) (.slice A' n' c')) := by
    have h := heap_alloc_new (w.alloc (.cells #[.slice A n c] 39)) (.cells #[.slice A' n' c'] 39)
    rw [World.size_alloc] at h
    rw [← hW]; exact h
  clear hW
  go_wp2_with fail
  go_loopw [5] (fun v5 wr => ∃ k : Nat, k ≤ n ∧ k ≤ n' ∧ v5 = .int .i64 k ∧ Hid (lessA a b = lessA (a.drop k) (b.drop k)) ∧ Hid (Below W.heap.size W wr)) (fun v5 _ => n - (intOf v5).toNat)
  case atStart => exact ⟨0, Nat.zero_le _, Nat.zero_le _, rfl, rfl, Below.refl _ _⟩
  case round =>
    obtain ⟨k, hk, hk', rfl, HK, HBR⟩ := hrel
    have pc := (HP.out.below HBR.out).cell
    have qc := (HQ.out.below HBR.out).cell
    have HBX := Lib.hid (bchain HBW.out HBR.out)
    by_cases hlt : k < n
    · have l1 : decide ((k : Int) < (n : Int)) = true := by simp; omega
      have l1' : decide (k < n) = true := by simp; omega
      by_cases hlt' : k < n'
      · have l2 : decide ((k : Int) < (n' : Int)) = true := by simp; omega
        have l2' : decide (k < n') = true := by simp; omega
        obtain ⟨b1, off, p, hA, hb, hd, c0, c1, c2⟩ := (HR.out k hlt).below HBX.out
        obtain ⟨b2, off', q, hA', hb', hd', d0, d1, d2⟩ := (HR'.out k hlt').below HBX.out
        subst hA hA'
        have hk0 : (0 : Int) ≤ (k : Int) := by omega
        have HS2 : Hid (lessA a b = if p = q then lessA (a.drop (k + 1)) (b.drop (k + 1)) else ltP p q) := by rw [Hid, HK.out, hd.out, hd'.out, lessA_cons]
        have HS : Hid (∀ w' : World, Below wr.heap.size wr w' → w'.cell? ⟨w.heap.size, 0, none⟩ = some (.slice (some ⟨b1, off, none⟩) n c) ∧ w'.cell? ⟨w.heap.size + 1, 0, none⟩ = some (.slice (some ⟨b2, off', none⟩) n' c') ∧ w'.cell? ⟨b1, off + k * 3, none⟩ = some (.int .i64 p.e) ∧ w'.cell? ⟨b1, off + k * 3 + 1, none⟩ = some (.int .i64 p.a) ∧ w'.cell? ⟨b1, off + k * 3 + 2, none⟩ = some (.int .i64 p.s) ∧
            w'.cell? ⟨b2, off' + k * 3, none⟩ = some (.int .i64 q.e) ∧ w'.cell? ⟨b2, off' + k * 3 + 1, none⟩ = some (.int .i64 q.a) ∧ w'.cell? ⟨b2, off' + k * 3 + 2, none⟩ = some (.int .i64 q.s)) :=
          fun w' h => ⟨(HP.out.below (bchain HBR.out h)).cell, (HQ.out.below (bchain HBR.out h)).cell, (h.cell (p := ⟨b1, off + k * 3, none⟩) hb).trans c0, (h.cell (p := ⟨b1, off + k * 3 + 1, none⟩) hb).trans c1, (h.cell (p := ⟨b1, off + k * 3 + 2, none⟩) hb).trans c2,
            (h.cell (p := ⟨b2, off' + k * 3, none⟩) hb').trans d0, (h.cell (p := ⟨b2, off' + k * 3 + 1, none⟩) hb').trans d1, (h.cell (p := ⟨b2, off' + k * 3 + 2, none⟩) hb').trans d2⟩
        have heq := fun W => neqPt W p q
        have hgd := fun (W : World) x y xs ys => run_eqGuard_agg (P := Tryz.prog) W .neq 65 x y xs ys (by kernel_rfl)
        by_cases hpq : p = q
        · have HS3 : Hid (lessA a b = lessA (a.drop (k + 1)) (b.drop (k + 1))) := by rw [Hid, HS2.out, if_pos hpq]
          rw [show decide (p = q) = true from decide_eq_true hpq] at heq
          clear hpq HS2
          go_wp2_with fail
          go_quiet (fail)
          clear heq hgd
          go_wp2_with fail
          go_roundw
          case rel => exact ⟨k + 1, by omega, by omega, by go_num, HS3.out, by rw [Hid]; have := HBR.out; repeat (first | assumption | exact Below.refl _ _ | refine Below.alloc ?_ (by first | omega | (simp; done) | (simp; omega)) _ | refine Below.drew ?_ | refine below_drewN ?_ _ | refine Below.setCell ?_ (by first | omega | (simp; done) | (simp; omega)) _)⟩
          case measure => simp [intOf]; omega
        · have HS3 : Hid (lessA a b = ltP p q) := by rw [Hid, HS2.out, if_neg hpq]
          rw [show decide (p = q) = false from decide_eq_false hpq] at heq
          clear hpq HS2
          go_wp2_with fail
          go_quiet (fail)
          clear heq hgd
          go_upto_region 5 with (fail)
          clear pc qc c0 c1 c2 d0 d1 d2
          refine wp_region_ord 10 [0, 1, 2, 3, 4, 5, 6, 7, 8, 9] [] [0, 1, 2, 3, 4, 5, 6, 7, 8, 9] [10, 11] (fun w' => Below wr.heap.size wr w') (by kernel_rfl) (by kernel_rfl) ?_
          rintro Z hZ
          have HSZ : Hid (Below wr.heap.size wr Z) := by rw [hZ]; have := Below.refl wr.heap.size wr; repeat (first | assumption | exact Below.refl _ _ | refine Below.alloc ?_ (by first | omega | (simp; done) | (simp; omega)) _ | refine Below.drew ?_ | refine below_drewN ?_ _ | refine Below.setCell ?_ (by first | omega | (simp; done) | (simp; omega)) _)
          clear hZ
          refine ⟨HSZ.out, ?_⟩
          iterate 10 (refine wpHead_cons (v := ?_) rfl rfl (fun w' hS => ?_) ?_; rotate_left; (focus ((try obtain ⟨s0, s1, s2, s3, s4, s5, s6, s7⟩ := HS.out _ (hS rfl)); clear hS; go_simp; try with_reducible rfl; done)); (try simp only [Act.put, List.setIfInBounds_toArray, List.set_cons_zero, List.set_cons_succ]))
          refine wpHead_nil ?_
          refine wpTail_cons rfl rfl (fun K hK => ?_)
          go_simp
          refine (before29_any p q _).mono ?_
          rintro e w2 ⟨rfl, hb2⟩
          have HB2 := Lib.hid (bchain HSZ.out hb2)
          refine hK.out _ _ (fun h => absurd h (by decide)) ?_
          clear hK K hb2 HS
          (try simp only [Act.put, List.setIfInBounds_toArray, List.set_cons_zero, List.set_cons_succ])
          refine wpTail_rest 11 rfl ?_
          simp only [List.drop_succ_cons, List.drop_zero]
          go_wp2_with fail
          refine NoPanic.normal ?_
          go_wp2_with fail
          go_ret
          exact ⟨by rw [HS3.out]; rfl, bchain HBX.out HB2.out⟩
      · have l2 : decide ((k : Int) < (n' : Int)) = false := by simp; omega
        have l2' : decide (k < n') = false := by simp; omega
        have e1 : decide ((n : Int) < (n' : Int)) = false := by simp; omega
        have e1' : decide (n < n') = false := by simp; omega
        have HS3 : Hid (lessA a b = false) := by rw [Hid, HK.out, List.drop_of_length_le (l := b) (by rw [HN'.out]; omega), lessA_nil]
        go_wp2_with fail
        go_ret
        exact ⟨by rw [HS3.out]; rfl, HBX.out⟩
    · have l1 : decide ((k : Int) < (n : Int)) = false := by simp; omega
      have l1' : decide (k < n) = false := by simp; omega
      have HS3 : Hid (lessA a b = decide (n < n')) := by
        rw [Hid, HK.out, List.drop_of_length_le (l := a) (by rw [HN.out]; omega), lessA_end, List.length_drop, HN'.out]
        by_cases h : n < n'
        · rw [decide_eq_true h, decide_eq_true (by omega)]
        · rw [decide_eq_false h, decide_eq_false (by omega)]
      by_cases hnn : n < n'
      · have e1 : decide ((n : Int) < (n' : Int)) = true := by simp; omega
        have e1' : decide (n < n') = true := by simp; omega
        have HS4 : Hid (lessA a b = true) := by rw [Hid, HS3.out, e1']
        go_wp2_with fail
        go_ret
        exact ⟨by rw [HS4.out]; rfl, HBX.out⟩
      · have e1 : decide ((n : Int) < (n' : Int)) = false := by simp; omega
        have e1' : decide (n < n') = false := by simp; omega
        have HS4 : Hid (lessA a b = false) := by rw [Hid, HS3.out, e1']
        go_wp2_with fail
        go_ret
        exact ⟨by rw [HS4.out]; rfl, HBX.out⟩
theorem lessA_self (a : List PPt) : lessA a a = false := by
  induction a with
  | nil => rfl
  | cons p l ih => rw [lessA_cons, if_pos rfl]; exact ih
set_option maxHeartbeats 2000000 in
set_option maxRecDepth 100000 in
theorem rsameP_any (v u : Value) (a : List PPt) (w : World) (hv : RdPt w v a) (hu : RdPt w u a) :
    Calls Tryz.prog 34 #[.agg #[v], .agg #[u]] w fun e w' => e = .returned (.bool true) ∧ Below w.heap.size w w' := by
  have HV := Lib.hid hv
  have HU := Lib.hid hu
  obtain ⟨A, n, c, rfl, _, _, _, _⟩ := hv.op
  obtain ⟨A', n', c', rfl, _, _, _, _⟩ := hu.op
  clear hv hu
  go_enter Tryz.func34, Tryz.ntmps34
  go_upto_region 1 with (fail)
  generalize hW : World.alloc (World.alloc w _) _ = W
  have HBW : Hid (Below w.heap.size w W) := by rw [← hW]; exact bchain (al_below _ _) (al_below _ _)
  have HP : Hid (AnBlk W w.heap.size (.slice A n c)) := by rw [← hW]; exact AnBlk.below (heap_alloc_new w _) (al_below _ _)
  have HQ : Hid (AnBlk W (w.heap.size + 1) (.slice A' n' c')) := by
    have h := heap_alloc_new (w.alloc (.cells #[.slice A n c] 39)) (.cells #[.slice A' n' c'] 39)
    rw [World.size_alloc] at h
    rw [← hW]; exact h
  clear hW
  have pc := HP.out.cell
  have qc := HQ.out.cell
  go_wp2_with fail
  refine (rless_any _ _ a a _ (HV.out.below HBW.out) (HU.out.below HBW.out)).mono ?_
  rintro e w1 ⟨rfl, hb⟩
  have HB1 := Lib.hid hb
  clear hb pc qc
  have pc := (HP.out.below HB1.out).cell
  have qc := (HQ.out.below HB1.out).cell
  rw [lessA_self]
  go_wp2_with fail
  refine (rless_any _ _ a a _ (HU.out.below (bchain HBW.out HB1.out)) (HV.out.below (bchain HBW.out HB1.out))).mono ?_
  rintro e w2 ⟨rfl, hb⟩
  have HB2 := Lib.hid (bchain HBW.out (bchain HB1.out hb))
  clear hb
  rw [lessA_self]
  go_wp2_with fail
  go_ret
  exact ⟨rfl, HB2.out⟩
set_option maxHeartbeats 4000000 in
set_option maxRecDepth 100000 in
theorem sameAll_any (v u : Value) (Ls : List (List PPt)) (w : World) (hv : RdAs w v Ls) (hu : RdAs w u Ls) :
    Calls Tryz.prog 14 #[v, u] w fun e w' => e = .returned (.bool true) ∧ Below w.heap.size w w' := by
  obtain ⟨A, n, c, rfl, _, _, HN, HR⟩ := hv.op
  obtain ⟨A', n', c', rfl, _, _, HN', HR'⟩ := hu.op
  clear hv hu
  obtain rfl : n = n' := by rw [← HN.out, ← HN'.out]
  have hne : ((n : Int) != (n : Int)) = false := by simp
  go_enter Tryz.func14, Tryz.ntmps14
  go_wp2_with fail
  clear hne
  go_loopw [5] (fun v5 wr => ∃ k : Nat, k ≤ n ∧ v5 = .int .i64 k ∧ Hid (Below w.heap.size w wr)) (fun v5 _ => n - (intOf v5).toNat)
  case atStart => exact ⟨0, Nat.zero_le _, rfl, Below.refl _ _⟩
  case round =>
    obtain ⟨k, hk, rfl, HBR⟩ := hrel
    by_cases hlt : k < n
    · obtain ⟨b, off, B, m, cm, l, rfl, hb, hd, c0, HL⟩ := (HR.out k hlt).below HBR.out
      obtain ⟨b', off', B', m', cm', l', rfl, hb', hd', c0', HL'⟩ := (HR'.out k hlt).below HBR.out
      have hll : l' = l := by
        have h := hd'.out
        rw [hd.out] at h
        exact (List.cons.inj h).1.symm
      subst hll
      have hk0 : (0 : Int) ≤ (k : Int) := by omega
      have HS : Hid (∀ w' : World, Below wr.heap.size wr w' → w'.cell? ⟨b, off + k, none⟩ = some (.slice B m cm) ∧ w'.cell? ⟨b', off' + k, none⟩ = some (.slice B' m' cm')) :=
        fun w' h => ⟨(h.cell (p := ⟨b, off + k, none⟩) hb).trans c0, (h.cell (p := ⟨b', off' + k, none⟩) hb').trans c0'⟩
      go_upto_region 6 with (fail)
      clear c0 c0'
      refine wp_region_ord 8 [0, 1, 2, 3, 4, 5, 6, 7] [] [0, 1, 2, 3, 4, 5, 6, 7] [8, 9] (fun w' => Below wr.heap.size wr w') (by kernel_rfl) (by kernel_rfl) ?_
      rintro Z hZ
      have HSZ : Hid (Below wr.heap.size wr Z) := by rw [hZ]; exact (Below.refl _ _).drew
      clear hZ
      refine ⟨HSZ.out, ?_⟩
      iterate 8 (refine wpHead_cons (v := ?_) rfl rfl (fun w' hS => ?_) ?_; rotate_left; (focus ((try obtain ⟨s0, s1⟩ := HS.out _ (hS rfl)); clear hS; go_simp; try with_reducible rfl; done)); (try simp only [Act.put, List.setIfInBounds_toArray, List.set_cons_zero, List.set_cons_succ]))
      refine wpHead_nil ?_
      refine wpTail_cons rfl rfl (fun K hK => ?_)
      go_simp
      refine (rsameP_any _ _ l' _ (HL.out.below HSZ.out) (HL'.out.below HSZ.out)).mono ?_
      rintro e w2 ⟨rfl, hb2⟩
      have HB2 := Lib.hid (bchain HSZ.out hb2)
      refine hK.out _ _ (fun h => absurd h (by decide)) ?_
      clear hK K hb2 HS
      (try simp only [Act.put, List.setIfInBounds_toArray, List.set_cons_zero, List.set_cons_succ])
      refine wpTail_rest 9 rfl ?_
      simp only [List.drop_succ_cons, List.drop_zero]
      go_wp2_with fail
      refine NoPanic.normal ?_
      go_wp2_with fail
      go_roundw
      case rel => exact ⟨k + 1, by omega, by go_num, bchain HBR.out HB2.out⟩
      case measure => simp [intOf]; omega
    · go_wp2_with fail
      go_ret
      exact ⟨rfl, HBR.out⟩
end Go.Proofs.YtiopgbbggeimaaaGreat
