/-
  The reference's Check of an entry, second part: senses, links and references.
-/
import Derived.Test.YtiopgbbggeimaaaGreatK4
namespace Go.Proofs.YtiopgbbggeimaaaGreat
open Go.ChangeShapes Go.WideShapes Go.ChangeAt Go.RowKit
set_option maxHeartbeats 1000000 in
theorem hasG_any (v : Value) (l : List PSe) (g : ByteArray) (w : World) (hv : RdSe w v l) :
    Calls Tryz.prog 136 #[v, .string g] w fun e w' => RetB AnyB e ∧ Below w.heap.size w w' := by
  obtain ⟨A, n, c, rfl, _, hc63, HN, HR⟩ := hv.op
  clear hv
  go_enter Tryz.func136, Tryz.ntmps136
  go_wp2_with fail
  go_loopw [5] (fun vi wr => ∃ k : Nat, k ≤ n ∧ vi = .int .i64 k ∧ Hid (Below w.heap.size w wr)) (fun vi _ => n - (intOf vi).toNat)
  case atStart => exact ⟨0, Nat.zero_le _, rfl, Below.refl _ _⟩
  case round =>
    obtain ⟨k, hk, rfl, HBR⟩ := hrel
    by_cases hlt : k < n
    · obtain ⟨b, off, p, rfl, hb, hd, c0, c1⟩ := (HR.out k hlt).below HBR.out
      have hk0 : (0 : Int) ≤ (k : Int) := by omega
      cases hx : (p.g.toList == g.toList)
      · go_wp2_with fail
        go_roundw
        case rel => exact ⟨k + 1, by omega, by go_num, HBR.out⟩
        case measure => simp [intOf]; omega
      · go_wp2_with fail
        go_ret
        exact ⟨RetB.mk trivial, HBR.out⟩
    · go_wp2_with fail
      go_ret
      exact ⟨RetB.mk trivial, HBR.out⟩
def SeBlk (w : World) (B : Nat) (g d : ByteArray) : Prop := w.heap[B]? = some (.cells #[.string g, .string d] 99 (0, 0))
theorem SeBlk.facts {w : World} {B : Nat} {g d : ByteArray} (h : SeBlk w B g d) : w.cell? ⟨B, 0, none⟩ = some (.string g) ∧ w.cell? ⟨B, 1, none⟩ = some (.string d) ∧ B < w.heap.size := by
  refine ⟨?_, ?_, (Array.getElem?_eq_some_iff.1 h).1⟩ <;> rw [cell_of_row w B _ _ _ (0, 0) h] <;> rfl
theorem SeBlk.below {w w' : World} {B : Nat} {g d : ByteArray} (h : SeBlk w B g d) (hb : Below w.heap.size w w') : SeBlk w' B g d := (hb.block B h.facts.2.2).trans h
set_option maxHeartbeats 2000000 in
set_option maxRecDepth 100000 in
theorem sense_any (v : Value) (l : List PSe) (g d : ByteArray) (w : World) (hv : RdSe w v l) (hg : g.size ≤ 1048576) (hd : d.size ≤ 1048576) :
    Calls Tryz.prog 123 #[v, .agg #[.string g, .string d]] w fun e w' => RetE AnyE e ∧ Below w.heap.size w w' := by
  have HV := Lib.hid hv
  obtain ⟨A, n, c, rfl, _⟩ := hv.op
  have HG := Lib.hid hg
  have HD := Lib.hid hd
  clear hv hg hd
  go_enter Tryz.func123, Tryz.ntmps123
  go_upto_region 1 with (fail)
  generalize hW : World.alloc w _ = W
  have HBW : Hid (Below w.heap.size w W) := by rw [← hW]; exact al_below _ _
  have HP : Hid (SeBlk W w.heap.size g d) := by rw [← hW]; exact heap_alloc_new w _
  clear hW
  obtain ⟨y0, y1, yl⟩ := HP.out.facts
  go_wp2_with fail
  refine (gloss_any g _ HG.out).mono ?_
  rintro e w1 ⟨⟨b, rfl, _⟩, hb⟩
  have HB1 := Lib.hid hb
  clear hb y0 y1 yl
  obtain ⟨y0, y1, yl⟩ := (HP.out.below HB1.out).facts
  cases b
  · go_wp2_with fail
    go_ret
    exact ⟨RetE.mk trivial, bchain HBW.out HB1.out⟩
  go_wp2_with fail
  refine (text12_any d _ HD.out).mono ?_
  rintro e w2 ⟨⟨x, rfl, _⟩, hb⟩
  have HB2 := Lib.hid (bchain HB1.out hb)
  clear hb y0 y1 yl
  obtain ⟨y0, y1, yl⟩ := (HP.out.below HB2.out).facts
  cases hx : (x != 0)
  rotate_left
  · go_wp2_with fail
    go_ret
    exact ⟨RetE.mk trivial, bchain HBW.out HB2.out⟩
  go_wp2_with fail
  refine (hasG_any _ l g _ (HV.out.below (bchain HBW.out HB2.out))).mono ?_
  rintro e w3 ⟨⟨b, rfl, _⟩, hb⟩
  have HB3 := Lib.hid (bchain HBW.out (bchain HB2.out hb))
  clear hb
  cases b
  · go_wp2_with fail
    go_ret
    exact ⟨RetE.mk trivial, HB3.out⟩
  · go_wp2_with fail
    go_ret
    exact ⟨RetE.mk trivial, HB3.out⟩
/-- no text of an entry's senses is large -/
def SmPE (p : PE) : Prop := ∀ s ∈ p.senses, s.g.size ≤ 1048576 ∧ s.d.size ≤ 1048576
theorem RdSe.take {w : World} {A : Option Addr} {n c : Nat} {l : List PSe} (h : RdSe w (.slice A n c) l) (k : Nat) (hk : k ≤ n) : RdSe w (.slice A k c) (l.take k) := by
  have hn : n = l.length := rd_len h
  obtain ⟨A', c', he, h1, h2, h3, h4⟩ := h
  cases he
  have hl : (l.take k).length = k := by rw [List.length_take]; omega
  have e : l.flatMap seCells = (l.take k).flatMap seCells ++ (l.drop k).flatMap seCells := by rw [← List.flatMap_append, List.take_append_drop]
  refine ⟨A, c, by rw [hl], by rw [hl]; omega, h2, ?_, fun hp => ?_⟩
  · rw [hl]
    clear h4 e
    have : ∀ l : List PSe, (l.flatMap seCells).length = l.length * 2 := by
      intro l
      induction l with
      | nil => rfl
      | cons a l ih => rw [List.flatMap_cons, List.length_append, ih, List.length_cons]; simp [seCells]; omega
    rw [this, hl]
  · obtain ⟨b, off, hA, hb, hc⟩ := h4 (by rw [hl] at hp; omega)
    refine ⟨b, off, hA, hb, fun j u hu => hc j u ?_⟩
    rw [e, List.getElem?_append_left (List.getElem?_eq_some_iff.1 hu).1]
    exact hu
def SensQ (p : PE) (x : Int) : Prop := x = 0 → p.senses.length ≤ 5
theorem SensQ.no {p : PE} {x : Int} (h : x ≠ 0) : SensQ p x := fun h' => absurd h' h
set_option maxHeartbeats 8000000 in
set_option maxRecDepth 100000 in
theorem rsens_any (e : EV) (p : PE) (w : World) (he : DpE w e p) (hsm : SmPE p) :
    Calls Tryz.prog 101 #[.agg #[.int .i64 e.id, .slice e.f.A e.f.n e.f.c, .int .i64 e.cls, .slice e.a.A e.a.n e.a.c, .int .i64 e.main, .slice e.s.A e.s.n e.s.c, .slice e.l.A e.l.n e.l.c, .slice e.r.A e.r.n e.r.c]] w fun e' w' => RetE (SensQ p) e' ∧ Below w.heap.size w w' := by
  have HE := Lib.hid he
  have HSM := Lib.hid hsm
  clear he hsm
  go_enter Tryz.func101, Tryz.ntmps101
  go_upto_region 1 with (fail)
  generalize hW : World.alloc w _ = W
  have HBW : Hid (Below w.heap.size w W) := by rw [← hW]; exact al_below _ _
  have HQ : Hid (EBlk W w.heap.size e) := by rw [← hW]; exact heap_alloc_new w _
  clear hW
  obtain ⟨z0, z1, z2, z3, z4, z5, z6, z7, zl⟩ := HQ.out.facts
  go_cut [13] (fun s13 wx => ∃ b : Bool, s13 = .bool b ∧ W = wx)
  case first =>
    cases hm : (e.main != 0)
    · go_wp2_with fail
      go_meet
      exact ⟨_, rfl, rfl⟩
    · go_wp2_with fail
      refine (ident_any e.main _).mono ?_
      rintro e' w1 ⟨rfl, rfl⟩
      cases idB e.main
      · go_wp2_with fail
        go_meet
        exact ⟨_, rfl, rfl⟩
      · go_wp2_with fail
        go_meet
        exact ⟨_, rfl, rfl⟩
  case rest =>
    obtain ⟨b, rfl, rfl⟩ := hcut
    cases b
    rotate_left
    · go_wp2_with fail
      go_ret
      exact ⟨RetE.mk (SensQ.no (by decide)), HBW.out⟩
    cases hm2 : (e.main == e.id)
    rotate_left
    · go_wp2_with fail
      go_ret
      exact ⟨RetE.mk (SensQ.no (by decide)), HBW.out⟩
    by_cases hc3 : 5 < e.s.n
    · have d3 : decide ((5 : Int) < (e.s.n : Int)) = true := by simp; omega
      go_wp2_with fail
      go_ret
      exact ⟨RetE.mk (SensQ.no (by decide)), HBW.out⟩
    have d3 : decide ((5 : Int) < (e.s.n : Int)) = false := by simp; omega
    have HOK : Hid (p.senses.length ≤ 5) := by rw [Hid, ← HE.out.ns]; omega
    go_upto_region 7 with (fail)
    clear d3 hm2
    go_cut [31] (fun s31 wx => ∃ b : Bool, s31 = .bool b ∧ W = wx)
    case first =>
      cases hm : ((e.s.n : Int) == 0)
      · go_wp2_with fail
        go_meet
        exact ⟨_, rfl, rfl⟩
      · cases hm3 : (e.main == 0)
        · go_wp2_with fail
          go_meet
          exact ⟨_, rfl, rfl⟩
        · go_wp2_with fail
          go_meet
          exact ⟨_, rfl, rfl⟩
    case rest =>
      obtain ⟨b, rfl, rfl⟩ := hcut
      cases b
      rotate_left
      · go_wp2_with fail
        go_ret
        exact ⟨RetE.mk (SensQ.no (by decide)), HBW.out⟩
      go_wp2_with fail
      clear z0 z1 z2 z3 z4 z5 z6 z7 zl
      obtain ⟨_, _, _, h0, _, hcm, HN, HR⟩ := (HE.out.s.below HBW.out).op
      cases h0
      go_loopw [3] (fun vi wr => ∃ k : Nat, k ≤ e.s.n ∧ vi = .int .i64 k ∧ Hid (Below W.heap.size W wr)) (fun vi _ => e.s.n - (intOf vi).toNat)
      case atStart => exact ⟨0, Nat.zero_le _, rfl, Below.refl _ _⟩
      case round =>
        obtain ⟨k, hk, rfl, HBR⟩ := hrel
        have HBX := Lib.hid (bchain HBW.out HBR.out)
        obtain ⟨z0, z1, z2, z3, z4, z5, z6, z7, zl⟩ := (HQ.out.below HBR.out).facts
        by_cases hlt : k < e.s.n
        · obtain ⟨b, off, q, hA, hbl, hdl, c0, c1⟩ := (HR.out k hlt).below HBR.out
          have hk0 : (0 : Int) ≤ (k : Int) := by omega
          have hk5 : k < 5 := by omega
          have HQM : Hid (q.g.size ≤ 1048576 ∧ q.d.size ≤ 1048576) := HSM.out q (List.mem_of_mem_drop (by rw [hdl.out]; exact List.mem_cons_self))
          have HRS : Hid (RdSe wr (.slice e.s.A k e.s.c) (p.senses.take k)) := (HE.out.s.below HBX.out).take k hk
          rw [hA] at HRS
          have hkc : (k : Int) ≤ (e.s.c : Int) := by
            have := hcm
            omega
          have HS : Hid (∀ w' : World, Below wr.heap.size wr w' → w'.cell? ⟨w.heap.size, 5, none⟩ = some (.slice (some ⟨b, off, none⟩) e.s.n e.s.c) ∧
              w'.cell? ⟨b, off + k * 2, none⟩ = some (.string q.g) ∧ w'.cell? ⟨b, off + k * 2 + 1, none⟩ = some (.string q.d)) :=
            fun w' h => ⟨by rw [← hA]; exact (h.cell (p := ⟨w.heap.size, 5, none⟩) zl).trans z5, (h.cell (p := ⟨b, off + k * 2, none⟩) hbl).trans c0, (h.cell (p := ⟨b, off + k * 2 + 1, none⟩) hbl).trans c1⟩
          have HZA := Lib.hid hA
          go_upto_region 12 with (fail)
          clear hA z0 z1 z2 z3 z4 z5 z6 z7 zl c0 c1
          refine wp_region_ord 9 [0, 1, 2, 3, 4, 5, 6, 7, 8] [] [0, 1, 2, 3, 4, 5, 6, 7, 8] [9, 10] (fun w' => Below wr.heap.size wr w') (by kernel_rfl) (by kernel_rfl) ?_
          rintro Z hZ
          have HSZ : Hid (Below wr.heap.size wr Z) := by rw [hZ]; exact (Below.refl _ _).drew
          clear hZ
          refine ⟨HSZ.out, ?_⟩
          iterate 9 (refine wpHead_cons (v := ?_) rfl rfl (fun w' hS => ?_) ?_; rotate_left; (focus ((try obtain ⟨s0, s1, s2⟩ := HS.out _ (hS rfl)); clear hS; go_simp; try with_reducible rfl; done)); (try simp only [Act.put, List.setIfInBounds_toArray, List.set_cons_zero, List.set_cons_succ]))
          refine wpHead_nil ?_
          refine wpTail_cons rfl rfl (fun K hK => ?_)
          go_simp
          refine (sense_any _ (p.senses.take k) q.g q.d _ (HRS.out.below HSZ.out) HQM.out.1 HQM.out.2).mono ?_
          rintro e' w2 ⟨⟨x, rfl, _⟩, hb2⟩
          have HB2 := Lib.hid (bchain HSZ.out hb2)
          refine hK.out _ _ (fun _ => HB2.out) ?_
          clear hK K hb2 HS
          (try simp only [Act.put, List.setIfInBounds_toArray, List.set_cons_zero, List.set_cons_succ])
          refine wpTail_rest 10 rfl ?_
          simp only [List.drop_succ_cons, List.drop_zero]
          cases hx : (x != 0)
          · go_wp2_with fail
            refine NoPanic.normal ?_
            go_wp2_with fail
            go_roundw
            case rel => exact ⟨k + 1, by omega, by go_num, bchain HBR.out HB2.out⟩
            case measure => simp [intOf]; omega
          · go_wp2_with fail
            refine NoPanic.normal ?_
            go_wp2_with fail
            go_ret
            exact ⟨RetE.mk (fun _ => HOK.out), bchain HBX.out HB2.out⟩
        · obtain rfl : e.s.n = k := by omega
          go_wp2_with fail
          go_ret
          exact ⟨RetE.mk (fun _ => HOK.out), HBX.out⟩
end Go.Proofs.YtiopgbbggeimaaaGreat
