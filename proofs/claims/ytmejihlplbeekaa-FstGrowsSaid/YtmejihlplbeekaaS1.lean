/-
  Same of fst and of the reference 20.
-/
import Derived.Test.YtmejihlplbeekaaG5
import Derived.Test.YtmejihlplbeekaaL1
import Derived.Laws.StructEq
namespace Go.Proofs.Ytmejihlplbeekaa
open Go.ChangeShapes Go.WideShapes Go.ChangeAt Go.RowKit
/-- whether something holds -/
noncomputable def pB (p : Prop) : Bool := @decide p (Classical.propDecidable p)
theorem pB_yes {p : Prop} (h : p) : pB p = true := by unfold pB; exact @decide_eq_true p (Classical.propDecidable p) h
theorem pB_no {p : Prop} (h : ¬ p) : pB p = false := by unfold pB; exact @decide_eq_false p (Classical.propDecidable p) h
theorem pB_iff {p : Prop} : pB p = true ↔ p := by unfold pB; exact @decide_eq_true_iff p (Classical.propDecidable p)
theorem pB_congr {p q : Prop} (h : p ↔ q) : pB p = pB q := by
  rw [Bool.eq_iff_iff, pB_iff, pB_iff, h]
theorem fieldsAr : Try.prog.underlying 42 = some (.struct (Try.prog.fieldsOf 42)) := by kernel_rfl
set_option maxHeartbeats 1000000 in
set_option maxRecDepth 100000 in
theorem neqAr (w : World) (x0 x1 x2 x3 y0 y1 y2 y3 : Int) : (binOp .neq 42 (.agg #[.int .i64 x0, .int .i64 x1, .int .i64 x2, .int .i64 x3]) (.agg #[.int .i64 y0, .int .i64 y1, .int .i64 y2, .int .i64 y3])).run Try.prog w = .ok (.bool (!(x0 == y0 && (x1 == y1 && (x2 == y2 && x3 == y3))))) w := by
  rw [run_neq_struct, run_equalIn_agg w 9999 _ _ _ fieldsAr (by kernel_rfl)]
  have hf : (Try.prog.fieldsOf 42).toList = (match Try.prog.underlying 42 with | some (.struct fs) => fs | _ => #[]).toList := rfl
  rw [hf, Try.underlying42]
  simp only [Op.eqFields]
  by_cases h0 : x0 = y0
  · subst h0
    by_cases h1 : x1 = y1
    · subst h1
      by_cases h2 : x2 = y2
      · subst h2
        by_cases h3 : x3 = y3 <;> simp_all [go_sem, Try.underlying3]
      · simp_all [go_sem, Try.underlying3]
    · simp_all [go_sem, Try.underlying3]
  · simp_all [go_sem, Try.underlying3]
theorem arc_eq_iff (x0 x1 x2 x3 y0 y1 y2 y3 : Int) : (x0 == y0 && (x1 == y1 && (x2 == y2 && x3 == y3))) = true ↔ (⟨x0, x1, x2, x3⟩ : PArc) = ⟨y0, y1, y2, y3⟩ := by
  simp only [Bool.and_eq_true, beq_iff_eq, PArc.mk.injEq]
theorem takes_differ {α : Type} {a b : List α} {k : Nat} {x y : α} {r s : List α} (ha : a.drop k = x :: r) (hb : b.drop k = y :: s) (hne : x ≠ y) : a ≠ b := by
  rintro rfl
  rw [ha] at hb
  exact hne (List.cons.inj hb).1
set_option maxHeartbeats 1000000 in
theorem equalA_any (v u : Value) (a b : List PArc) (w : World) (hv : RdA w v a) (hu : RdA w u b) :
    Calls Try.prog 50 #[v, u] w fun e w' => e = .returned (.bool (pB (a = b))) ∧ Below w.heap.size w w' := by
  obtain ⟨A, n, c, rfl, h1, h2, HN, hr⟩ := hv.op
  obtain ⟨A', n', c', rfl, h1', h2', HN', hr'⟩ := hu.op
  clear hv hu
  go_enter Try.func50, Try.ntmps50
  by_cases hn : n = n'
  · subst hn
    have hne : ((n : Int) != (n : Int)) = false := by simp
    go_wp2_with fail
    clear hne
    go_loopw [13] (fun i wr => ∃ k nq : Nat, k ≤ n ∧ i = .int .i64 k ∧ wr = w.drewN nq ∧ Hid (a.take k = b.take k)) (fun i _ => n - (intOf i).toNat)
    case atStart => exact ⟨0, 0, Nat.zero_le _, rfl, rfl, rfl⟩
    case round =>
      obtain ⟨k, nq, hk, rfl, rfl, HP⟩ := hrel
      by_cases hlt : k < n
      · obtain ⟨p, off, x0, x1, x2, x3, rfl, hb, hd, e0, e1, e2, e3⟩ := hr.out k hlt
        obtain ⟨p', off', y0, y1, y2, y3, rfl, hb', hd', f0, f1, f2, f3⟩ := hr'.out k hlt
        have HT := Lib.hid (take_drop_eq hd.out hd'.out)
        have hk0 : (0 : Int) ≤ (k : Int) := by omega
        have heq := fun W => neqAr W x0 x1 x2 x3 y0 y1 y2 y3
        have hgd := fun (W : World) x y xs ys => run_eqGuard_agg (P := Try.prog) W .neq 42 x y xs ys (by kernel_rfl)
        have HBB := Lib.hid (arc_eq_iff x0 x1 x2 x3 y0 y1 y2 y3)
        generalize (x0 == y0 && (x1 == y1 && (x2 == y2 && x3 == y3))) = bb at heq HBB
        cases bb
        · have HNE : Hid (a ≠ b) := takes_differ hd.out hd'.out (fun h => by have := HBB.out.2 h; cases this)
          go_wp2_with fail
          go_quiet (fail)
          clear heq hgd
          go_wp2_with fail
          go_ret
          exact ⟨by rw [pB_no HNE.out]; rfl, by repeat (first | assumption | exact Below.refl _ _ | refine Below.alloc ?_ (by first | omega | (simp; done) | (simp; omega)) _ | refine Below.drew ?_ | refine below_drewN ?_ _ | refine Below.setCell ?_ (by first | omega | (simp; done) | (simp; omega)) _)⟩
        · have HS2 : Hid (a.take (k + 1) = b.take (k + 1)) := HT.out.2 ⟨HP.out, HBB.out.1 rfl⟩
          go_wp2_with fail
          go_quiet (fail)
          clear heq hgd
          go_wp2_with fail
          go_roundw
          case rel => exact ⟨k + 1, _, by omega, by go_num, rfl, HS2.out⟩
          case measure => simp [intOf]; omega
      · have HS2 : Hid (a = b) := by
          have h3 := HP.out
          rwa [List.take_of_length_le (by rw [HN.out]; omega), List.take_of_length_le (by rw [HN'.out]; omega)] at h3
        go_wp2_with fail
        go_ret
        exact ⟨by rw [pB_yes HS2.out]; rfl, by repeat (first | assumption | exact Below.refl _ _ | refine Below.alloc ?_ (by first | omega | (simp; done) | (simp; omega)) _ | refine Below.drew ?_ | refine below_drewN ?_ _ | refine Below.setCell ?_ (by first | omega | (simp; done) | (simp; omega)) _)⟩
  · have hne : ((n : Int) != (n' : Int)) = true := by simp; omega
    have HS2 : Hid (a ≠ b) := by rintro rfl; exact hn (HN.out.symm.trans HN'.out)
    clear hn
    go_wp2_with fail
    go_ret
    exact ⟨by rw [pB_no HS2.out]; rfl, by repeat (first | assumption | exact Below.refl _ _ | refine Below.alloc ?_ (by first | omega | (simp; done) | (simp; omega)) _ | refine Below.drew ?_ | refine below_drewN ?_ _ | refine Below.setCell ?_ (by first | omega | (simp; done) | (simp; omega)) _)⟩
theorem fst_eq_iff (F G : PFst) : F = G ↔ F.states = G.states ∧ F.arcs = G.arcs ∧ F.final = G.final := by
  cases F; cases G; simp
set_option maxHeartbeats 1000000 in
set_option maxRecDepth 100000 in
theorem fsame_any (v u : Value) (F G : PFst) (w : World) (hv : RdF w v F) (hu : RdF w u G) :
    Calls Try.prog 30 #[v, u] w fun e w' => e = .returned (.bool (pB (F = G))) ∧ Below w.heap.size w w' := by
  obtain ⟨va, vf, rfl, ha, hf⟩ := hv
  obtain ⟨ua, uf, rfl, ka, kf⟩ := hu
  obtain ⟨A1, n1, c1, rfl, _, _, _, _⟩ := ha.op
  obtain ⟨A2, n2, c2, rfl, _, _, _, _⟩ := hf.op
  obtain ⟨B1, m1, d1, rfl, _, _, _, _⟩ := ka.op
  obtain ⟨B2, m2, d2, rfl, _, _, _, _⟩ := kf.op
  have HA := Lib.hid ha
  have HFF := Lib.hid hf
  have KA := Lib.hid ka
  have KF := Lib.hid kf
  have HE := Lib.hid (fst_eq_iff F G)
  clear ha hf ka kf
  go_enter Try.func30, Try.ntmps30
  by_cases hs : F.states = G.states
  · have hb : (F.states == G.states) = true := by simpa using hs
    have HSS := Lib.hid hs
    clear hs
    go_wp2_with fail
    generalize hW : World.alloc (World.alloc w _) _ = W
    have HBW : Hid (Below w.heap.size w W) := by rw [← hW]; repeat (first | assumption | exact Below.refl _ _ | refine Below.alloc ?_ (by first | omega | (simp; done) | (simp; omega)) _ | refine Below.drew ?_ | refine below_drewN ?_ _ | refine Below.setCell ?_ (by first | omega | (simp; done) | (simp; omega)) _)
    have HP2 : Hid (FBlk W (w.heap.size + 1) (.int .i64 G.states) (.slice B1 m1 d1) (.slice B2 m2 d2)) := by
      rw [Hid, FBlk, ← hW]
      have := heap_alloc_new (w.alloc (.cells #[.int .i64 F.states, .slice A1 n1 c1, .slice A2 n2 c2] 25)) (.cells #[.int .i64 G.states, .slice B1 m1 d1, .slice B2 m2 d2] 25)
      simpa using this
    have HP1 : Hid (FBlk W w.heap.size (.int .i64 F.states) (.slice A1 n1 c1) (.slice A2 n2 c2)) := by
      rw [← hW]; exact (Below.heap_alloc _ _ _ (by simp)).trans (heap_alloc_new w _)
    clear hW
    refine (equalA_any _ _ F.arcs G.arcs _ (HA.out.below HBW.out) (KA.out.below HBW.out)).mono ?_
    rintro e W2 ⟨rfl, hb2⟩
    have HB2 : Hid (Below w.heap.size w W2) := bchain HBW.out hb2
    have hp1 := HP1.out.below hb2
    have hp2 := HP2.out.below hb2
    clear hb2
    by_cases hq : F.arcs = G.arcs
    · rw [pB_yes hq]
      have HQ := Lib.hid hq
      clear hq
      obtain ⟨p0, p1, p2, _, _, _⟩ := hp1.facts
      obtain ⟨q0, q1, q2, _, _, _⟩ := hp2.facts
      have hl1 := hp1.lt
      have hl2 := hp2.lt
      clear hp1 hp2
      go_wp2_with fail
      refine (equal_any _ _ F.final G.final _ (HFF.out.below HB2.out) (KF.out.below HB2.out)).mono ?_
      rintro e W3 ⟨rfl, nq, rfl⟩
      go_wp2_with fail
      go_ret
      refine ⟨?_, below_drewN HB2.out _⟩
      have : sameB F.final G.final = pB (F = G) := by
        rw [Bool.eq_iff_iff, sameB_iff, pB_iff, HE.out]
        exact ⟨fun h => ⟨HSS.out, HQ.out, h⟩, fun h => h.2.2⟩
      rw [← this]; rfl
    · rw [pB_no hq]
      have HNE : Hid (¬ F = G) := fun h => hq (HE.out.1 h).2.1
      clear hq hp1 hp2
      go_wp2_with fail
      go_ret
      exact ⟨by rw [pB_no HNE.out]; rfl, HB2.out⟩
  · have hb : (F.states == G.states) = false := by simpa using hs
    have HNE : Hid (¬ F = G) := fun h => hs (HE.out.1 h).1
    clear hs
    go_wp2_with fail
    go_ret
    exact ⟨by rw [pB_no HNE.out]; rfl, by repeat (first | assumption | exact Below.refl _ _ | refine Below.alloc ?_ (by first | omega | (simp; done) | (simp; omega)) _ | refine Below.drew ?_ | refine below_drewN ?_ _ | refine Below.setCell ?_ (by first | omega | (simp; done) | (simp; omega)) _)⟩
set_option maxHeartbeats 4000000 in
set_option maxRecDepth 100000 in
theorem rfsame_any (v u : Value) (F G : PFst) (w : World) (hv : RdF w v F) (hu : RdF w u G) :
    Calls Try.prog 25 #[v, u] w fun e w' => e = .returned (.bool (pB (F = G))) ∧ Below w.heap.size w w' := by
  obtain ⟨va, vf, rfl, ha, hf⟩ := hv
  obtain ⟨ua, uf, rfl, ka, kf⟩ := hu
  obtain ⟨A1, n1, c1, rfl, _, _, HN1, HR1⟩ := ha.op
  obtain ⟨A2, n2, c2, rfl, _, _, HN2, HR2⟩ := hf.op
  obtain ⟨B1, m1, d1, rfl, _, _, HM1, KR1⟩ := ka.op
  obtain ⟨B2, m2, d2, rfl, _, _, HM2, KR2⟩ := kf.op
  have HE := Lib.hid (fst_eq_iff F G)
  clear ha hf ka kf
  go_enter Try.func25, Try.ntmps25
  go_upto_region 1 with (fail)
  generalize hW : World.alloc (World.alloc w _) _ = W
  have HBR : Hid (Below w.heap.size w W) := by rw [← hW]; repeat (first | assumption | exact Below.refl _ _ | refine Below.alloc ?_ (by first | omega | (simp; done) | (simp; omega)) _ | refine Below.drew ?_ | refine below_drewN ?_ _ | refine Below.setCell ?_ (by first | omega | (simp; done) | (simp; omega)) _)
  have HP2 : Hid (FBlk W (w.heap.size + 1) (.int .i64 G.states) (.slice B1 m1 d1) (.slice B2 m2 d2)) := by
    rw [Hid, FBlk, ← hW]
    have := heap_alloc_new (w.alloc (.cells #[.int .i64 F.states, .slice A1 n1 c1, .slice A2 n2 c2] 25)) (.cells #[.int .i64 G.states, .slice B1 m1 d1, .slice B2 m2 d2] 25)
    simpa using this
  have HP1 : Hid (FBlk W w.heap.size (.int .i64 F.states) (.slice A1 n1 c1) (.slice A2 n2 c2)) := by
    rw [← hW]; exact (Below.heap_alloc _ _ _ (by simp)).trans (heap_alloc_new w _)
  clear hW
  obtain ⟨p0, p1, p2, _, _, _⟩ := HP1.out.facts
  obtain ⟨q0, q1, q2, _, _, _⟩ := HP2.out.facts
  have hl1 := HP1.out.lt
  have hl2 := HP2.out.lt
  by_cases hs : F.states = G.states
  · have hb : (F.states != G.states) = false := by simpa using hs
    have HSS := Lib.hid hs
    clear hs
    by_cases hn : n1 = m1
    · have hbn : ((n1 : Int) != (m1 : Int)) = false := by simp; omega
      have hbm : (n1 != m1) = false := by simp; omega
      by_cases hm : n2 = m2
      · have hcn : ((n2 : Int) != (m2 : Int)) = false := by simp; omega
        have hcm : (n2 != m2) = false := by simp; omega
        subst hn
        subst hm
        go_wp2_with fail
        clear p0 p1 p2 q0 q1 q2 hl1 hl2 hb hbn hbm hcn hcm
        go_loopw [5] (fun i wr => ∃ k nq : Nat, k ≤ n1 ∧ i = .int .i64 k ∧ wr = W.drewN nq ∧ Hid (F.arcs.take k = G.arcs.take k)) (fun i _ => n1 - (intOf i).toNat)
        case atStart => exact ⟨0, 0, Nat.zero_le _, rfl, rfl, rfl⟩
        case round =>
          obtain ⟨k, nq, hk, rfl, rfl, HP⟩ := hrel
          obtain ⟨p0, p1, p2, _, _, _⟩ := HP1.out.facts
          obtain ⟨q0, q1, q2, _, _, _⟩ := HP2.out.facts
          have hl1 := HP1.out.lt
          have hl2 := HP2.out.lt
          by_cases hlt : k < n1
          · obtain ⟨p, off, x0, x1, x2, x3, rfl, hb, hd, e0, e1, e2, e3⟩ := (HR1.out k hlt).below HBR.out
            obtain ⟨p', off', y0, y1, y2, y3, rfl, hb', hd', f0, f1, f2, f3⟩ := (KR1.out k hlt).below HBR.out
            have HT := Lib.hid (take_drop_eq hd.out hd'.out)
            have hk0 : (0 : Int) ≤ (k : Int) := by omega
            have heq := fun W => neqAr W x0 x1 x2 x3 y0 y1 y2 y3
            have hgd := fun (W : World) x y xs ys => run_eqGuard_agg (P := Try.prog) W .neq 42 x y xs ys (by kernel_rfl)
            have HBB := Lib.hid (arc_eq_iff x0 x1 x2 x3 y0 y1 y2 y3)
            generalize (x0 == y0 && (x1 == y1 && (x2 == y2 && x3 == y3))) = bb at heq HBB
            cases bb
            · have HNE : Hid (¬ F = G) := fun h => takes_differ hd.out hd'.out (fun h => by have := HBB.out.2 h; cases this) (HE.out.1 h).2.1
              go_wp2_with fail
              go_quiet (fail)
              clear heq hgd
              go_wp2_with fail
              go_ret
              exact ⟨by rw [pB_no HNE.out]; rfl, by have := HBR.out; repeat (first | assumption | exact Below.refl _ _ | refine Below.alloc ?_ (by first | omega | (simp; done) | (simp; omega)) _ | refine Below.drew ?_ | refine below_drewN ?_ _ | refine Below.setCell ?_ (by first | omega | (simp; done) | (simp; omega)) _)⟩
            · have HS2 : Hid (F.arcs.take (k + 1) = G.arcs.take (k + 1)) := HT.out.2 ⟨HP.out, HBB.out.1 rfl⟩
              go_wp2_with fail
              go_quiet (fail)
              clear heq hgd
              go_wp2_with fail
              go_roundw
              case rel => exact ⟨k + 1, _, by omega, by go_num, rfl, HS2.out⟩
              case measure => simp [intOf]; omega
          · have HQ : Hid (F.arcs = G.arcs) := by
              have h3 := HP.out
              rwa [List.take_of_length_le (by rw [HN1.out]; omega), List.take_of_length_le (by rw [HM1.out]; omega)] at h3
            go_wp2_with fail
            clear p0 p1 p2 q0 q1 q2 hl1 hl2
            go_loopw [6] (fun i wr => ∃ k nq : Nat, k ≤ n2 ∧ i = .int .i64 k ∧ wr = W.drewN nq ∧ Hid (F.final.take k = G.final.take k)) (fun i _ => n2 - (intOf i).toNat)
            case atStart => exact ⟨0, _, Nat.zero_le _, rfl, rfl, rfl⟩
            case round =>
              obtain ⟨j, nr, hj, rfl, rfl, HP'⟩ := hrel
              obtain ⟨p0, p1, p2, _, _, _⟩ := HP1.out.facts
              obtain ⟨q0, q1, q2, _, _, _⟩ := HP2.out.facts
              have hl1 := HP1.out.lt
              have hl2 := HP2.out.lt
              by_cases hlt2 : j < n2
              · obtain ⟨p, off, x, rfl, hb, hd, e0⟩ := (HR2.out j hlt2).below HBR.out
                obtain ⟨p', off', y, rfl, hb', hd', f0⟩ := (KR2.out j hlt2).below HBR.out
                have HT := Lib.hid (take_drop_eq hd.out hd'.out)
                have hj0 : (0 : Int) ≤ (j : Int) := by omega
                by_cases hxy : x = y
                · have hb1 : (x != y) = false := by simpa using hxy
                  have HS2 : Hid (F.final.take (j + 1) = G.final.take (j + 1)) := HT.out.2 ⟨HP'.out, hxy⟩
                  clear hxy
                  go_wp2_with fail
                  go_quiet (fail)
                  go_wp2_with fail
                  go_roundw
                  case rel => exact ⟨j + 1, _, by omega, by go_num, rfl, HS2.out⟩
                  case measure => simp [intOf]; omega
                · have hb1 : (x != y) = true := by simpa using hxy
                  have HNE : Hid (¬ F = G) := fun h => takes_differ hd.out hd'.out hxy (HE.out.1 h).2.2
                  clear hxy
                  go_wp2_with fail
                  go_quiet (fail)
                  go_wp2_with fail
                  go_ret
                  exact ⟨by rw [pB_no HNE.out]; rfl, by have := HBR.out; repeat (first | assumption | exact Below.refl _ _ | refine Below.alloc ?_ (by first | omega | (simp; done) | (simp; omega)) _ | refine Below.drew ?_ | refine below_drewN ?_ _ | refine Below.setCell ?_ (by first | omega | (simp; done) | (simp; omega)) _)⟩
              · have HEQ : Hid (F = G) := HE.out.2 ⟨HSS.out, HQ.out, by
                  have h3 := HP'.out
                  rwa [List.take_of_length_le (by rw [HN2.out]; omega), List.take_of_length_le (by rw [HM2.out]; omega)] at h3⟩
                go_wp2_with fail
                go_ret
                exact ⟨by rw [pB_yes HEQ.out]; rfl, by have := HBR.out; repeat (first | assumption | exact Below.refl _ _ | refine Below.alloc ?_ (by first | omega | (simp; done) | (simp; omega)) _ | refine Below.drew ?_ | refine below_drewN ?_ _ | refine Below.setCell ?_ (by first | omega | (simp; done) | (simp; omega)) _)⟩
      · have hcn : ((n2 : Int) != (m2 : Int)) = true := by simp; omega
        have hcm : (n2 != m2) = true := by simp; omega
        have HNE : Hid (¬ F = G) := fun h => by
          have := congrArg List.length (HE.out.1 h).2.2
          rw [HN2.out, HM2.out] at this
          exact hm this
        clear hm hn
        go_wp2_with fail
        go_ret
        exact ⟨by rw [pB_no HNE.out]; rfl, HBR.out⟩
    · have hbn : ((n1 : Int) != (m1 : Int)) = true := by simp; omega
      have hbm : (n1 != m1) = true := by simp; omega
      have HNE : Hid (¬ F = G) := fun h => by
        have := congrArg List.length (HE.out.1 h).2.1
        rw [HN1.out, HM1.out] at this
        exact hn this
      clear hn
      go_wp2_with fail
      go_ret
      exact ⟨by rw [pB_no HNE.out]; rfl, HBR.out⟩
  · have hb : (F.states != G.states) = true := by simpa using hs
    have HNE : Hid (¬ F = G) := fun h => hs (HE.out.1 h).1
    clear hs
    go_wp2_with fail
    go_ret
    exact ⟨by rw [pB_no HNE.out]; rfl, HBR.out⟩
end Go.Proofs.Ytmejihlplbeekaa
