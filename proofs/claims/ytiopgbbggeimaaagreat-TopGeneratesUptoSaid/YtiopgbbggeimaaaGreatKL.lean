/-
  Light of the reference: what it grants.
-/
import Derived.Test.YtiopgbbggeimaaaGreatKG
namespace Go.Proofs.YtiopgbbggeimaaaGreat
open Go.ChangeShapes Go.WideShapes Go.ChangeAt Go.RowKit
def SmallPQ (P : List PE) (b : Bool) : Prop := b = true → P.length ≤ 5 ∧ ∀ p ∈ P, p.alts.length ≤ 1
theorem SmallPQ.no {P : List PE} : SmallPQ P false := fun h => absurd h (by decide)
set_option maxHeartbeats 8000000 in
set_option maxRecDepth 100000 in
theorem small_any (v : Value) (P : List PE) (w : World) (hv : RdP w v P) :
    Calls Tryz.prog 15 #[v] w fun e' w' => RetB (SmallPQ P) e' ∧ Below w.heap.size w w' := by
  obtain ⟨A, n, c, rfl, h1, h2, HN, HR⟩ := hv.op
  clear hv
  by_cases h5 : 5 < n
  · have d3 : decide ((5 : Int) < (n : Int)) = true := by simp; omega
    go_enter Tryz.func15, Tryz.ntmps15
    go_wp2_with fail
    go_ret
    exact ⟨RetB.mk SmallPQ.no, Below.refl _ _⟩
  have d3 : decide ((5 : Int) < (n : Int)) = false := by simp; omega
  have HLN : Hid (P.length ≤ 5) := by rw [Hid, HN.out]; omega
  go_enter Tryz.func15, Tryz.ntmps15
  go_wp2_with fail
  clear d3
  go_loopw [3] (fun v3 wr => ∃ k : Nat, k ≤ n ∧ v3 = .int .i64 k ∧ Hid (∀ p ∈ P.take k, p.alts.length ≤ 1) ∧ Hid (Below w.heap.size w wr)) (fun v3 _ => n - (intOf v3).toNat)
  case atStart => exact ⟨0, Nat.zero_le _, rfl, (by simp [Hid]), Below.refl _ _⟩
  case round =>
    obtain ⟨k, hk, rfl, HT, HBR⟩ := hrel
    by_cases hlt : k < n
    · obtain ⟨b, off, e, p, hA, hb, hd, HDE, hce⟩ := HR.out k hlt
      subst hA
      have HCE := Lib.hid hce
      obtain ⟨f0, f1, f2, f3, f4, f5, f6, f7⟩ := hce.below HBR.out hb
      have hk0 : (0 : Int) ≤ (k : Int) := by omega
      clear hce
      by_cases hf : 3 < e.f.n
      · have d1 : decide ((3 : Int) < (e.f.n : Int)) = true := by simp; omega
        go_wp2_with fail
        go_ret
        exact ⟨RetB.mk SmallPQ.no, HBR.out⟩
      have d1 : decide ((3 : Int) < (e.f.n : Int)) = false := by simp; omega
      by_cases ha : 1 < e.a.n
      · have d2 : decide ((1 : Int) < (e.a.n : Int)) = true := by simp; omega
        have d2' : decide (1 < e.a.n) = true := by simp; omega
        go_wp2_with fail
        go_ret
        exact ⟨RetB.mk SmallPQ.no, HBR.out⟩
      have d2 : decide ((1 : Int) < (e.a.n : Int)) = false := by simp; omega
      have d2' : decide (1 < e.a.n) = false := by simp; omega
      have HT2 : Hid (∀ p ∈ P.take (k + 1), p.alts.length ≤ 1) := @take_all PE (fun p => p.alts.length ≤ 1) P k p hd.out HT.out (by rw [← HDE.out.na]; omega)
      obtain ⟨_, _, _, h0, _, hcm, HNA, HRA⟩ := HDE.out.a.op
      cases h0
      go_wp2_with fail
      clear f0 f1 f2 f3 f4 f5 f6 f7 d1 d2 d2'
      go_loopw [4] (fun v4 wr => ∃ j : Nat, j ≤ e.a.n ∧ v4 = .int .i64 j ∧ Hid (Below w.heap.size w wr)) (fun v4 _ => e.a.n - (intOf v4).toNat)
      case atStart => exact ⟨0, Nat.zero_le _, rfl, HBR.out⟩
      case round =>
        obtain ⟨j, hj, rfl, HBQ⟩ := hrel
        obtain ⟨f0, f1, f2, f3, f4, f5, f6, f7⟩ := HCE.out.below HBQ.out hb
        by_cases hjt : j < e.a.n
        · obtain ⟨b2, off2, B, m, cm, l, hA2, hbl, hdl, e0, HRL⟩ := (HRA.out j hjt).below HBQ.out
          rw [hA2] at f3
          have HZA := Lib.hid hA2
          have hj0 : (0 : Int) ≤ (j : Int) := by omega
          clear hA2
          by_cases hm : 3 < m
          · have d1 : decide ((3 : Int) < (m : Int)) = true := by simp; omega
            go_wp2_with fail
            go_ret
            exact ⟨RetB.mk SmallPQ.no, HBQ.out⟩
          · have d1 : decide ((3 : Int) < (m : Int)) = false := by simp; omega
            go_wp2_with fail
            go_roundw
            case rel => exact ⟨j + 1, by omega, by go_num, HBQ.out⟩
            case measure => simp [intOf]; omega
        · go_wp2_with fail
          go_roundw
          case rel => exact ⟨k + 1, by omega, by go_num, HT2.out, HBQ.out⟩
          case measure => simp [intOf]; omega
    · obtain rfl : n = k := by omega
      have HA : Hid (∀ p ∈ P, p.alts.length ≤ 1) := by
        have h := HT.out
        rw [← HN.out, List.take_length] at h
        exact h
      go_wp2_with fail
      go_ret
      exact ⟨RetB.mk fun _ => ⟨HLN.out, HA.out⟩, HBR.out⟩
def RulesQ (G : PLang) (x : Int) : Prop := x = 0 → ∀ R ∈ G.rules, RGood G.inv R
theorem RulesQ.no {G : PLang} {x : Int} (h : x ≠ 0) : RulesQ G x := fun h' => absurd h' h
set_option maxHeartbeats 8000000 in
set_option maxRecDepth 100000 in
theorem rules_any (g : GV) (G : PLang) (w : World) (hg : DpG w g G) (hi : G.inv.length ≤ 1000000) :
    Calls Tryz.prog 36 #[.agg #[.slice g.i.A g.i.n g.i.c, .string g.on, .slice g.u.A g.u.n g.u.c, .slice g.l.A g.l.n g.l.c, .slice g.r.A g.r.n g.r.c, .int .i64 g.q, .slice g.s.A g.s.n g.s.c, .slice g.f.A g.f.n g.f.c, .slice g.x.A g.x.n g.x.c]] w fun e' w' => RetE (RulesQ G) e' ∧ Below w.heap.size w w' := by
  have HG := Lib.hid hg
  have HII := Lib.hid hi
  obtain ⟨_, _, _, h0, h1, h2, HN, HR⟩ := hg.r
  cases h0
  clear hg hi
  go_enter Tryz.func36, Tryz.ntmps36
  go_upto_region 1 with (fail)
  generalize hW : World.alloc w _ = W
  have HBW : Hid (Below w.heap.size w W) := by rw [← hW]; exact al_below _ _
  have HQ : Hid (LgBlk W w.heap.size g) := by rw [← hW]; exact heap_alloc_new w _
  clear hW
  obtain ⟨z0, z1, z2, z3, z4, z5, z6, z7, z8, zl⟩ := HQ.out.facts
  by_cases hc3 : 12 < g.r.n
  · have d3 : decide ((12 : Int) < (g.r.n : Int)) = true := by simp; omega
    go_wp2_with fail
    go_ret
    exact ⟨RetE.mk (RulesQ.no (by decide)), HBW.out⟩
  have d3 : decide ((12 : Int) < (g.r.n : Int)) = false := by simp; omega
  go_wp2_with fail
  clear z0 z1 z2 z3 z4 z5 z6 z7 z8 zl d3
  go_loopw [3] (fun v3 wr => ∃ k : Nat, k ≤ g.r.n ∧ v3 = .int .i64 k ∧ Hid (∀ R ∈ G.rules.take k, RGood G.inv R) ∧ Hid (Below W.heap.size W wr)) (fun v3 _ => g.r.n - (intOf v3).toNat)
  case atStart => exact ⟨0, Nat.zero_le _, rfl, (by simp [Hid]), Below.refl _ _⟩
  case round =>
    obtain ⟨k, hk, rfl, HT, HBR⟩ := hrel
    have HBX := Lib.hid (bchain HBW.out HBR.out)
    obtain ⟨z0, z1, z2, z3, z4, z5, z6, z7, z8, zl⟩ := (HQ.out.below HBR.out).facts
    by_cases hlt : k < g.r.n
    · obtain ⟨b, off, vf, vt, vl, vr, R, hA, hb, hd, hcell, HRR⟩ := (HR.out k hlt).below HBX.out
      obtain ⟨A1, n1, c1, A2, n2, c2, A3, n3, c3, A4, n4, c4, rfl, rfl, rfl, rfl⟩ := rdR_form HRR.out
      obtain ⟨c0, c1', c2', c3', c4', c5'⟩ := hcell
      have hk0 : (0 : Int) ≤ (k : Int) := by omega
      have HZA := Lib.hid hA
      have HS : Hid (∀ w' : World, Below wr.heap.size wr w' → w'.cell? ⟨w.heap.size, 0, none⟩ = some (.slice g.i.A g.i.n g.i.c) ∧ w'.cell? ⟨w.heap.size, 4, none⟩ = some (.slice (some ⟨b, off, none⟩) g.r.n g.r.c) ∧
          w'.cell? ⟨b, off + k * 6, none⟩ = some (.slice A1 n1 c1) ∧ w'.cell? ⟨b, off + k * 6 + 1, none⟩ = some (.slice A2 n2 c2) ∧ w'.cell? ⟨b, off + k * 6 + 2, none⟩ = some (.slice A3 n3 c3) ∧ w'.cell? ⟨b, off + k * 6 + 3, none⟩ = some (.slice A4 n4 c4) ∧
          w'.cell? ⟨b, off + k * 6 + 4, none⟩ = some (.bool R.beg) ∧ w'.cell? ⟨b, off + k * 6 + 5, none⟩ = some (.bool R.fin)) :=
        fun w' h => ⟨(h.cell (p := ⟨w.heap.size, 0, none⟩) zl).trans z0, by rw [← hA]; exact (h.cell (p := ⟨w.heap.size, 4, none⟩) zl).trans z4, (h.cell (p := ⟨b, off + k * 6, none⟩) hb).trans c0, (h.cell (p := ⟨b, off + k * 6 + 1, none⟩) hb).trans c1', (h.cell (p := ⟨b, off + k * 6 + 2, none⟩) hb).trans c2',
          (h.cell (p := ⟨b, off + k * 6 + 3, none⟩) hb).trans c3', (h.cell (p := ⟨b, off + k * 6 + 4, none⟩) hb).trans c4', (h.cell (p := ⟨b, off + k * 6 + 5, none⟩) hb).trans c5'⟩
      go_upto_region 6 with (fail)
      clear hA z0 z1 z2 z3 z4 z5 z6 z7 z8 zl c0 c1' c2' c3' c4' c5'
      refine wp_region_ord 7 [0, 1, 2, 3, 4, 5, 6] [] [0, 1, 2, 3, 4, 5, 6] [7, 8] (fun w' => Below wr.heap.size wr w') (by kernel_rfl) (by kernel_rfl) ?_
      rintro Z hZ
      have HSZ : Hid (Below wr.heap.size wr Z) := by rw [hZ]; exact (Below.refl _ _).drew
      clear hZ
      refine ⟨HSZ.out, ?_⟩
      iterate 7 (refine wpHead_cons (v := ?_) rfl rfl (fun w' hS => ?_) ?_; rotate_left; (focus ((try obtain ⟨s0, s1, s2, s3, s4, s5, s6, s7⟩ := HS.out _ (hS rfl)); clear hS; go_simp; try with_reducible rfl; done)); (try simp only [Act.put, List.setIfInBounds_toArray, List.set_cons_zero, List.set_cons_succ]))
      refine wpHead_nil ?_
      refine wpTail_cons rfl rfl (fun K hK => ?_)
      go_simp
      refine (rchkR_any _ _ G.inv R _ (HG.out.inv.below (bchain HBX.out HSZ.out)) (HRR.out.below HSZ.out) HII.out).mono ?_
      rintro e' w2 ⟨rfl, hb2⟩
      have HB2 := Lib.hid (bchain HSZ.out hb2)
      refine hK.out _ _ (fun _ => HB2.out) ?_
      clear hK K hb2 HS
      (try simp only [Act.put, List.setIfInBounds_toArray, List.set_cons_zero, List.set_cons_succ])
      refine wpTail_rest 8 rfl ?_
      simp only [List.drop_succ_cons, List.drop_zero]
      by_cases hx : chkR G.inv R = 0
      · have HT2 : Hid (∀ R ∈ G.rules.take (k + 1), RGood G.inv R) := take_all hd.out HT.out (rgood_of hx)
        rw [hx]
        clear hx
        go_wp2_with fail
        refine NoPanic.normal ?_
        go_wp2_with fail
        go_roundw
        case rel => exact ⟨k + 1, by omega, by go_num, HT2.out, bchain HBR.out HB2.out⟩
        case measure => simp [intOf]; omega
      · have HNZ := Lib.hid hx
        have d1 : (chkR G.inv R != 0) = true := by simp [hx]
        generalize chkR G.inv R = x at d1 HNZ ⊢
        clear hx
        go_wp2_with fail
        refine NoPanic.normal ?_
        go_wp2_with fail
        go_ret
        exact ⟨RetE.mk (RulesQ.no HNZ.out), bchain HBX.out HB2.out⟩
    · obtain rfl : g.r.n = k := by omega
      have HA : Hid (∀ R ∈ G.rules, RGood G.inv R) := by
        have h := HT.out
        rw [HG.out.nr, List.take_length] at h
        exact h
      go_wp2_with fail
      go_ret
      exact ⟨RetE.mk fun _ => HA.out, HBX.out⟩
end Go.Proofs.YtiopgbbggeimaaaGreat
