/-
  Check and Main of variants.
-/
import Derived.Test.YtnjniganlielcaaVP1
namespace Go.Proofs.Ytnjniganlielcaa
open Go.ChangeShapes Go.WideShapes Go.ChangeAt Go.RowKit Go.Shelf
set_option maxHeartbeats 2000000 in
set_option maxRecDepth 100000 in
theorem main_any (v : Value) (L : List EV) (id : Int) (w : World) (hv : RdV w v L) (hl : L.length ≤ 100000) :
    Calls Try.prog 17 #[v, .int .i64 id] w fun e w' => e = .returned (.int .i64 (mainK (keys L) id)) ∧ Below w.heap.size w w' := by
  obtain ⟨A, n, c, rfl, h1, h2, HN, _⟩ := hv.op
  have HV := Lib.hid hv
  have HL := Lib.hid hl
  clear hv hl
  have HM := Lib.hid (main_keys L id)
  go_enter Try.func17, Try.ntmps17
  go_wp2_with fail
  refine (last_any _ L id _ HV.out HL.out).mono ?_
  rintro e w1 ⟨rfl, hb⟩
  have HB := Lib.hid hb
  clear hb
  simp only [EV.val]
  go_wp2_with fail
  go_ret
  exact ⟨by rw [← HM.out]; rfl, HB.out.alloc HB.out.size _⟩
set_option maxHeartbeats 4000000 in
set_option maxRecDepth 100000 in
theorem check_any (v : Value) (L : List EV) (w : World) (hv : RdV w v L) (hl : L.length ≤ 100000) :
    Calls Try.prog 12 #[v] w fun e w' => e = .returned (.int .i64 (chkK (keys L))) ∧ Below w.heap.size w w' := by
  obtain ⟨A, n, c, rfl, h1, h2, HN, HR⟩ := hv.op
  have HV := Lib.hid hv
  have HL := Lib.hid hl
  have hln := hl
  rw [HN.out] at hln
  clear hv hl
  go_enter Try.func12, Try.ntmps12
  go_wp2_with fail
  go_loopw [13] (fun i wr => ∃ k : Nat, k ≤ n ∧ i = .int .i64 k ∧ Hid (chk1 (keys L) (keys L) = chk1 (keys L) (keys (L.drop k))) ∧ Hid (Below w.heap.size w wr)) (fun i _ => n - (intOf i).toNat)
  case atStart => exact ⟨0, Nat.zero_le _, rfl, rfl, Below.refl _ _⟩
  case round =>
    obtain ⟨k, hk, rfl, HC, HB⟩ := hrel
    by_cases hlt : k < n
    · obtain ⟨b, off, e, rfl, hb, hd, c0, c1, c2, c3, c4, c5, c6, c7⟩ := (HR.out k hlt).below HB.out
      have HC2 : Hid (chk1 (keys L) (keys L) = if e.main ≠ 0 ∧ getK (keys L) e.main = none then 9 else chk1 (keys L) (keys (L.drop (k + 1)))) := by rw [Hid, HC.out, hd.out]; rfl
      have HGK := Lib.hid (getK_keys L e.main)
      go_wp2_with fail
      generalize hX : World.alloc wr _ = X
      have HXB : Hid (Below w.heap.size w X) := by rw [← hX]; exact HB.out.alloc HB.out.size _
      have HXE : Hid (EBlk X wr.heap.size e) := by rw [← hX]; exact heap_alloc_new wr _
      clear hX c0 c1 c2 c3 c4 c5 c6 c7
      refine (get_any _ L e.main _ (HV.out.below HXB.out)).mono ?_
      rintro e' w2 ⟨rfl, hb2⟩
      have HB2 := Lib.hid (bchain HXB.out hb2)
      obtain ⟨z0, z1, z2, z3, z4, z5, z6, z7, zl⟩ := (HXE.out.below hb2).facts
      have hz2 : wr.heap.size < w2.heap.size := zl
      clear hb2
      have HXB := Lib.hid HXB
      clear HXE
      generalize wr.heap.size = gx at z0 z1 z2 z3 z4 z5 z6 z7 zl hz2 ⊢
      rcases hg : getE L e.main with _ | e2
      · have HG : Hid (getV L e.main = .tuple #[.agg #[.int .i64 evz.id, .slice evz.f.A evz.f.n evz.f.c, .int .i64 evz.cls, .slice evz.a.A evz.a.n evz.a.c, .int .i64 evz.main, .slice evz.s.A evz.s.n evz.s.c, .slice evz.l.A evz.l.n evz.l.c, .slice evz.r.A evz.r.n evz.r.c], .bool false]) := by rw [Hid, getV, hg]; rfl
        have HGN : Hid (getK (keys L) e.main = none) := by rw [Hid, HGK.out, hg]; rfl
        clear hg
        rw [HG.out]
        by_cases hm : e.main = 0
        · have hm0 : (e.main != 0) = false := by simpa using hm
          have HC3 : Hid (chk1 (keys L) (keys L) = chk1 (keys L) (keys (L.drop (k + 1)))) := by rw [Hid, HC2.out, if_neg (by simp [hm])]
          clear hm
          go_wp2_with fail
          go_roundw
          case rel => exact ⟨k + 1, by omega, by go_num, HC3.out, HB2.out.alloc HB2.out.size _⟩
          case measure => simp [intOf]; omega
        · have hm0 : (e.main != 0) = true := by simpa using hm
          have HC3 : Hid (chk1 (keys L) (keys L) = 9) := by rw [Hid, HC2.out, if_pos ⟨hm, HGN.out⟩]
          clear hm
          go_wp2_with fail
          go_ret
          exact ⟨by rw [chkK, if_pos (by rw [HC3.out]; decide)]; rfl, HB2.out.alloc HB2.out.size _⟩
      · have HG : Hid (getV L e.main = .tuple #[.agg #[.int .i64 e2.id, .slice e2.f.A e2.f.n e2.f.c, .int .i64 e2.cls, .slice e2.a.A e2.a.n e2.a.c, .int .i64 e2.main, .slice e2.s.A e2.s.n e2.s.c, .slice e2.l.A e2.l.n e2.l.c, .slice e2.r.A e2.r.n e2.r.c], .bool true]) := by rw [Hid, getV, hg]; rfl
        have HC3 : Hid (chk1 (keys L) (keys L) = chk1 (keys L) (keys (L.drop (k + 1)))) := by rw [Hid, HC2.out, if_neg (by rw [HGK.out, hg]; simp)]
        clear hg
        rw [HG.out]
        cases hm0 : (e.main != 0)
        · go_wp2_with fail
          go_roundw
          case rel => exact ⟨k + 1, by omega, by go_num, HC3.out, HB2.out.alloc HB2.out.size _⟩
          case measure => simp [intOf]; omega
        · go_wp2_with fail
          go_roundw
          case rel => exact ⟨k + 1, by omega, by go_num, HC3.out, HB2.out.alloc HB2.out.size _⟩
          case measure => simp [intOf]; omega
    · have HC2 : Hid (chk1 (keys L) (keys L) = 0) := by rw [Hid, HC.out, List.drop_of_length_le (by rw [HN.out]; omega)]; rfl
      have HCK : Hid (chkK (keys L) = chk2 (keys L) (keys L)) := by rw [Hid, chkK, if_neg (by rw [HC2.out]; decide)]
      have HBo := HB
      clear HB
      obtain ⟨wo, rfl⟩ : ∃ wo : World, wo = wr := ⟨_, rfl⟩
      go_wp2_with fail
      go_loopw [34] (fun i wr => ∃ k : Nat, k ≤ n ∧ i = .int .i64 k ∧ Hid (chk2 (keys L) (keys L) = chk2 (keys L) (keys (L.drop k))) ∧ Hid (Below w.heap.size w wr)) (fun i _ => n - (intOf i).toNat)
      case atStart => exact ⟨0, Nat.zero_le _, rfl, rfl, HBo.out⟩
      case round =>
        obtain ⟨k, hk, rfl, HC, HB⟩ := hrel
        by_cases hlt : k < n
        · obtain ⟨b, off, e, rfl, hb, hd, c0, c1, c2, c3, c4, c5, c6, c7⟩ := (HR.out k hlt).below HB.out
          have HC2 : Hid (chk2 (keys L) (keys L) = if (keys L).length < (wK (keys L) e.id).length then 17 else chk2 (keys L) (keys (L.drop (k + 1)))) := by rw [Hid, HC.out, hd.out]; rfl
          have HWK := Lib.hid (wK_len L e.id)
          have HKL := Lib.hid (keys_length L)
          go_wp2_with fail
          generalize hX : World.alloc wr _ = X
          have HXB : Hid (Below w.heap.size w X) := by rw [← hX]; exact HB.out.alloc HB.out.size _
          have HXE : Hid (EBlk X wr.heap.size e) := by rw [← hX]; exact heap_alloc_new wr _
          clear hX c0 c1 c2 c3 c4 c5 c6 c7
          refine (last_any _ L e.id _ (HV.out.below HXB.out) HL.out).mono ?_
          rintro e' w2 ⟨rfl, hb2⟩
          have HB2 := Lib.hid (bchain HXB.out hb2)
          clear hb2 HXE
          generalize wr.heap.size = gx
          simp only [EV.val]
          rw [HWK.out]
          obtain ⟨N, hN⟩ : ∃ N, (wK (keys L) e.id).length = N := ⟨_, rfl⟩
          rw [hN] at HC2 ⊢
          generalize endE (wayL L (L.length + 1) e.id) = E
          clear hN
          by_cases hlong : n < N
          · have HC3 : Hid (chk2 (keys L) (keys L) = 17) := by rw [Hid, HC2.out, if_pos (by rw [HKL.out, HN.out]; exact hlong)]
            have hd1 : decide ((n : Int) < (N : Int)) = true := by simp; omega
            go_wp2_with fail
            go_ret
            exact ⟨by rw [HCK.out, HC3.out]; rfl, HB2.out.alloc HB2.out.size _⟩
          · have HC3 : Hid (chk2 (keys L) (keys L) = chk2 (keys L) (keys (L.drop (k + 1)))) := by rw [Hid, HC2.out, if_neg (by rw [HKL.out, HN.out]; exact hlong)]
            have hd1 : decide ((n : Int) < (N : Int)) = false := by simp; omega
            go_wp2_with fail
            go_roundw
            case rel => exact ⟨k + 1, by omega, by go_num, HC3.out, HB2.out.alloc HB2.out.size _⟩
            case measure => simp [intOf]; omega
        · have HC2 : Hid (chk2 (keys L) (keys L) = 0) := by rw [Hid, HC.out, List.drop_of_length_le (by rw [HN.out]; omega)]; rfl
          go_wp2_with fail
          go_ret
          exact ⟨by rw [HCK.out, HC2.out]; rfl, HB.out⟩
end Go.Proofs.Ytnjniganlielcaa
