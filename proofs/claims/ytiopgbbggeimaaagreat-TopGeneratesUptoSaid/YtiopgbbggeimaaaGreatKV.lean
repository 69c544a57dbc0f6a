/-
  Same of analyses, and Among.
-/
import Derived.Test.YtiopgbbggeimaaaGreatKW
namespace Go.Proofs.YtiopgbbggeimaaaGreat
open Go.ChangeShapes Go.WideShapes Go.ChangeAt Go.RowKit
theorem fieldsPt : Tryz.prog.underlying 65 = some (.struct (Tryz.prog.fieldsOf 65)) := by kernel_rfl
set_option maxRecDepth 10000 in
theorem neqPt (w : World) (p q : PPt) : (binOp .neq 65 (.agg #[.int .i64 p.e, .int .i64 p.a, .int .i64 p.s]) (.agg #[.int .i64 q.e, .int .i64 q.a, .int .i64 q.s])).run Tryz.prog w = .ok (.bool (!decide (p = q))) w := by
  rw [run_neq_struct, run_equalIn_agg w 9999 _ _ _ fieldsPt (by kernel_rfl)]
  have hf : (Tryz.prog.fieldsOf 65).toList = (match Tryz.prog.underlying 65 with | some (.struct fs) => fs | _ => #[]).toList := rfl
  rw [hf, Tryz.underlying65]
  simp only [Op.eqFields]
  obtain ⟨a, b, c⟩ := p
  obtain ⟨d, e, f⟩ := q
  by_cases h0 : a = d
  · by_cases h1 : b = e
    · by_cases h2 : c = f <;> simp_all [go_sem, Tryz.underlying3]
    · simp_all [go_sem, Tryz.underlying3]
  · simp_all [go_sem, Tryz.underlying3]
/-- are two lists equal from here on? (a word that the walk does not look into) -/
def eqL (a b : List PPt) : Bool := decide (a = b)
theorem eqL_cons (p q : PPt) (l m : List PPt) : eqL (p :: l) (q :: m) = if p = q then eqL l m else false := by
  unfold eqL
  by_cases h : p = q
  · rw [if_pos h]; simp [h]
  · rw [if_neg h]; simp [h]
set_option maxHeartbeats 2000000 in
set_option maxRecDepth 100000 in
theorem equalP_any (v u : Value) (a b : List PPt) (w : World) (hv : RdPt w v a) (hu : RdPt w u b) :
    Calls Tryz.prog 41 #[v, u] w fun e w' => e = .returned (.bool (eqL a b)) ∧ Below w.heap.size w w' := by
  obtain ⟨A, n, c, rfl, h1, h2, HN, hr⟩ := hv.op
  obtain ⟨A', n', c', rfl, h1', h2', HN', hr'⟩ := hu.op
  clear hv hu
  by_cases hn : n = n'
  · subst hn
    have hne : ((n : Int) != (n : Int)) = false := by simp
    go_enter Tryz.func41, Tryz.ntmps41
    go_wp2_with fail
    clear hne
    go_loopw [13] (fun i wr => ∃ k nq : Nat, k ≤ n ∧ i = .int .i64 k ∧ wr = w.drewN nq ∧ Hid (eqL a b = eqL (a.drop k) (b.drop k))) (fun i _ => n - (intOf i).toNat)
    case atStart => exact ⟨0, 0, Nat.zero_le _, rfl, rfl, rfl⟩
    case round =>
      obtain ⟨k, nq, hk, rfl, rfl, HP⟩ := hrel
      by_cases hlt : k < n
      · obtain ⟨b1, off, p, rfl, hb, hd, c0, c1, c2⟩ := hr.out k hlt
        obtain ⟨b2, off', q, rfl, hb', hd', d0, d1, d2⟩ := hr'.out k hlt
        have HS : Hid (eqL a b = if p = q then eqL (a.drop (k + 1)) (b.drop (k + 1)) else false) := by rw [Hid, HP.out, hd.out, hd'.out, eqL_cons]
        have hk0 : (0 : Int) ≤ (k : Int) := by omega
        have heq := fun W => neqPt W p q
        have hgd := fun (W : World) x y xs ys => run_eqGuard_agg (P := Tryz.prog) W .neq 65 x y xs ys (by kernel_rfl)
        by_cases hpq : p = q
        · have HS2 : Hid (eqL a b = eqL (a.drop (k + 1)) (b.drop (k + 1))) := by rw [Hid, HS.out, if_pos hpq]
          rw [show decide (p = q) = true from decide_eq_true hpq] at heq
          clear hpq HS
          go_wp2_with fail
          go_quiet (fail)
          clear heq hgd
          go_wp2_with fail
          go_roundw
          case rel => exact ⟨k + 1, _, by omega, by go_num, rfl, HS2.out⟩
          case measure => simp [intOf]; omega
        · have HS2 : Hid (eqL a b = false) := by rw [Hid, HS.out, if_neg hpq]
          rw [show decide (p = q) = false from decide_eq_false hpq] at heq
          clear hpq HS
          go_wp2_with fail
          go_quiet (fail)
          clear heq hgd
          go_wp2_with fail
          go_ret
          exact ⟨by rw [HS2.out]; rfl, below_drewN (below_drewN (Below.refl _ _) _) _⟩
      · go_wp2_with fail
        go_ret
        refine ⟨?_, below_drewN (Below.refl _ _) _⟩
        have : eqL a b = true := by rw [HP.out, List.drop_of_length_le (by rw [HN.out]; omega), List.drop_of_length_le (by rw [HN'.out]; omega)]; rfl
        rw [this]; rfl
  · have hne : ((n : Int) != (n' : Int)) = true := by simp; omega
    have HS2 : Hid (eqL a b = false) := by
      rw [Hid, eqL]
      refine decide_eq_false fun h => hn ?_
      rw [← HN.out, ← HN'.out, h]
    clear hn
    go_enter Tryz.func41, Tryz.ntmps41
    go_wp2_with fail
    go_ret
    exact ⟨by rw [HS2.out]; rfl, Below.refl _ _⟩
set_option maxHeartbeats 2000000 in
set_option maxRecDepth 100000 in
theorem sameP_any (v u : Value) (a b : List PPt) (w : World) (hv : RdPt w v a) (hu : RdPt w u b) :
    Calls Tryz.prog 18 #[.agg #[v], .agg #[u]] w fun e w' => e = .returned (.bool (eqL a b)) ∧ Below w.heap.size w w' := by
  have HV := Lib.hid hv
  have HU := Lib.hid hu
  obtain ⟨A, n, c, rfl, _, _, _, _⟩ := hv.op
  obtain ⟨A', n', c', rfl, _, _, _, _⟩ := hu.op
  clear hv hu
  go_enter Tryz.func18, Tryz.ntmps18
  go_upto_region 1 with (fail)
  generalize hW : World.alloc (World.alloc w _) _ = W
  have HBW : Hid (Below w.heap.size w W) := by rw [← hW]; exact bchain (al_below _ _) (al_below _ _)
  have HP : Hid (AnBlk W w.heap.size (.slice A n c)) := by rw [← hW]; exact AnBlk.below (heap_alloc_new w _) (al_below _ _)
  have HQ : Hid (AnBlk W (w.heap.size + 1) (.slice A' n' c')) := by
    have h := heap_alloc_new (w.alloc (.cells #[.slice A n c] 39)) (.cells #[.slice A' n' c'] 39)
    rw [World.size_alloc] at h
    rw [← hW]; exact h
  clear hW
  have pc := HP.out.cell
  have qc := HQ.out.cell
  go_wp2_with fail
  refine (equalP_any _ _ a b _ (HV.out.below HBW.out) (HU.out.below HBW.out)).mono ?_
  rintro e w1 ⟨rfl, hb⟩
  have HB1 := Lib.hid (bchain HBW.out hb)
  clear hb
  go_wp2_with fail
  go_ret
  exact ⟨rfl, HB1.out⟩
def anyEq (Ls : List (List PPt)) (a : List PPt) : Bool := Ls.any fun b => eqL a b
theorem anyEq_iff {Ls : List (List PPt)} {a : List PPt} : anyEq Ls a = true ↔ a ∈ Ls := by
  simp [anyEq, eqL]
set_option maxHeartbeats 4000000 in
set_option maxRecDepth 100000 in
theorem among_any (v u : Value) (Ls : List (List PPt)) (a : List PPt) (w : World) (hv : RdAs w v Ls) (hu : RdPt w u a) :
    Calls Tryz.prog 10 #[v, .agg #[u]] w fun e w' => e = .returned (.bool (anyEq Ls a)) ∧ Below w.heap.size w w' := by
  have HU := Lib.hid hu
  obtain ⟨A, n, c, rfl, _, _, HN, HR⟩ := hv.op
  obtain ⟨A', n', c', rfl, _, _, _, _⟩ := hu.op
  clear hv hu
  go_enter Tryz.func10, Tryz.ntmps10
  go_upto_region 1 with (fail)
  generalize hW : World.alloc w _ = W
  have HBW : Hid (Below w.heap.size w W) := by rw [← hW]; exact al_below _ _
  have HP : Hid (AnBlk W w.heap.size (.slice A' n' c')) := by rw [← hW]; exact heap_alloc_new w _
  clear hW
  go_wp2_with fail
  go_loopw [9] (fun v9 wr => ∃ k : Nat, k ≤ n ∧ v9 = .int .i64 k ∧ Hid (anyEq Ls a = anyEq (Ls.drop k) a) ∧ Hid (Below W.heap.size W wr)) (fun v9 _ => n - (intOf v9).toNat)
  case atStart => exact ⟨0, Nat.zero_le _, rfl, rfl, Below.refl _ _⟩
  case round =>
    obtain ⟨k, hk, rfl, HK, HBR⟩ := hrel
    by_cases hlt : k < n
    · obtain ⟨b, off, B, m, cm, l, rfl, hb, hd, c0, HL⟩ := (HR.out k hlt).below (bchain HBW.out HBR.out)
      have HK2 : Hid (anyEq Ls a = (eqL a l || anyEq (Ls.drop (k + 1)) a)) := by rw [Hid, HK.out, hd.out]; rfl
      obtain ⟨wo, rfl⟩ : ∃ wo : World, wo = wr := ⟨_, rfl⟩
      go_upto_region 4 with (fail)
      generalize hX : World.alloc wo _ = X
      have HXB : Hid (Below W.heap.size W X) := by rw [← hX]; exact bchain HBR.out (al_below _ _)
      have HXP : Hid (AnBlk X wo.heap.size (.slice B m cm)) := by rw [← hX]; exact heap_alloc_new wo _
      have HXL : Hid (RdPt X (.slice B m cm) l) := by rw [← hX]; exact HL.out.below (al_below _ _)
      clear hX c0
      generalize wo.heap.size = gx at HXP ⊢
      have pc := (HP.out.below HXB.out).cell
      have qc := HXP.out.cell
      go_wp2_with fail
      refine (sameP_any _ _ a l _ (HU.out.below (bchain HBW.out HXB.out)) HXL.out).mono ?_
      rintro e w1 ⟨rfl, hb1⟩
      have HB1 := Lib.hid (bchain HXB.out hb1)
      clear hb1
      cases he : eqL a l
      · have HK3 : Hid (anyEq Ls a = anyEq (Ls.drop (k + 1)) a) := by rw [Hid, HK2.out, he, Bool.false_or]
        clear he
        go_wp2_with fail
        go_roundw
        case rel => exact ⟨k + 1, by omega, by go_num, HK3.out, HB1.out⟩
        case measure => simp [intOf]; omega
      · have HK3 : Hid (anyEq Ls a = true) := by rw [Hid, HK2.out, he, Bool.true_or]
        clear he
        go_wp2_with fail
        go_ret
        exact ⟨by rw [HK3.out]; rfl, bchain HBW.out HB1.out⟩
    · have HK3 : Hid (anyEq Ls a = false) := by rw [Hid, HK.out, List.drop_of_length_le (by rw [HN.out]; omega)]; rfl
      go_wp2_with fail
      go_ret
      exact ⟨by rw [HK3.out]; rfl, bchain HBW.out HBR.out⟩
end Go.Proofs.YtiopgbbggeimaaaGreat
