/-
  The reference's List, Same of lists of lists, Few.
-/
import Derived.Test.YtdijlakeonionaaQ12
namespace Go.Proofs.Ytdijlakeonionaa
open Go.ChangeShapes Go.WideShapes Go.ChangeAt Go.RowKit
theorem lat_below {w w' : World} {A : Option Addr} {Ls : List (List Int)} {k : Nat} (h : LAt w A Ls k) (hb : Below w.heap.size w w') : LAt w' A Ls k := by
  obtain ⟨b, off, B, m, cm, l, rfl, h1, h2, h3, h4⟩ := h
  exact ⟨b, off, B, m, cm, l, rfl, by have := hb.size; omega, h2, (hb.cell h1).trans h3, h4.out.below hb⟩
theorem take_drop_eq {α : Type} {a b : List α} {k : Nat} {x y : α} {r s : List α} (ha : a.drop k = x :: r) (hb : b.drop k = y :: s) : a.take (k + 1) = b.take (k + 1) ↔ a.take k = b.take k ∧ x = y := by
  have hka : k < a.length := by
    rcases Nat.lt_or_ge k a.length with h | h
    · exact h
    · rw [List.drop_of_length_le h] at ha; cases ha
  have hkb : k < b.length := by
    rcases Nat.lt_or_ge k b.length with h | h
    · exact h
    · rw [List.drop_of_length_le h] at hb; cases hb
  rw [List.drop_eq_getElem_cons hka] at ha
  rw [List.drop_eq_getElem_cons hkb] at hb
  rw [List.take_succ_eq_append_getElem hka, List.take_succ_eq_append_getElem hkb, (List.cons.inj ha).1, (List.cons.inj hb).1]
  constructor
  · intro h
    have := List.append_inj h (by simp; omega)
    exact ⟨this.1, by simpa using this.2⟩
  · rintro ⟨h1, h2⟩; rw [h1, h2]
def listB (I : List PPh) (l : List Int) : Bool := l.all (isB I) && decide (l.length ≤ 24)
theorem all_take_succ {α : Type} {p : α → Bool} {l : List α} {k : Nat} {x : α} (h : l.drop k = x :: l.drop (k + 1)) : (l.take (k + 1)).all p = ((l.take k).all p && p x) := by
  have hk : k < l.length := by
    rcases Nat.lt_or_ge k l.length with h' | h'
    · exact h'
    · rw [List.drop_of_length_le h'] at h; cases h
  rw [List.drop_eq_getElem_cons hk] at h
  rw [List.take_succ_eq_append_getElem hk, (List.cons.inj h).1, List.all_append]
  simp
theorem all_no {α : Type} {p : α → Bool} {l : List α} {k : Nat} {x : α} {r : List α} (h : l.drop k = x :: r) (hx : p x = false) : l.all p = false := by
  rw [← Bool.not_eq_true, List.all_eq_true]
  intro hh
  have := hh x (List.mem_of_mem_drop (by rw [h]; exact List.mem_cons_self))
  rw [hx] at this; cases this
set_option maxHeartbeats 2000000 in
set_option maxRecDepth 100000 in
theorem rlist_any (v vw : Value) (I : List PPh) (l : List Int) (w : World) (hv : RdV w v I) (hw : RdI w vw l) :
    Calls Try.prog 27 #[v, vw] w fun e w' => e = .returned (.bool (listB I l)) ∧ Below w.heap.size w w' := by
  obtain ⟨u, rfl, hp⟩ := id hv
  obtain ⟨A0, n0, c0, rfl, _, _, _, _⟩ := hp.op
  obtain ⟨A, n, c, rfl, hnc, hcm, HN, HR⟩ := hw.op
  have HV := Lib.hid hv
  clear hv hw hp
  go_enter Try.func27, Try.ntmps27
  go_wp2_with fail
  generalize hW : World.alloc w _ = W
  have HBW : Hid (Below w.heap.size w W) := by rw [← hW]; exact al_below _ _
  have HP : Hid (VBlk W w.heap.size (.slice A0 n0 c0)) := by rw [← hW]; exact heap_alloc_new w _
  clear hW
  go_loopw [8] (fun vi wr => ∃ k : Nat, k ≤ n ∧ vi = .int .i64 k ∧ Hid ((l.take k).all (isB I) = true) ∧ Hid (Below W.heap.size W wr)) (fun vi _ => n - (intOf vi).toNat)
  case atStart => exact ⟨0, Nat.zero_le _, rfl, rfl, Below.refl _ _⟩
  case round =>
    obtain ⟨k, hk, rfl, HA, HBR⟩ := hrel
    have HBX := Lib.hid (bchain HBW.out HBR.out)
    by_cases hlt : k < n
    · obtain ⟨b, off, x, rfl, hb, hd, hc0⟩ := (HR.out k hlt).below HBX.out
      have y0 := (HP.out.below HBR.out).cell
      have y1 := (HP.out.below HBR.out).lt
      have hk0 : (0 : Int) ≤ (k : Int) := by omega
      go_upto_region 4 with (fail)
      refine wp_region_ord 5 [0, 1, 2, 3, 4] [] [0, 1, 2, 3, 4] [5, 6] (fun w' => Below wr.heap.size wr w') (by kernel_rfl) (by kernel_rfl) ?_
      rintro Z hZ
      have HSZ : Hid (Below wr.heap.size wr Z) := by rw [hZ]; exact (Below.refl _ _).drew
      clear hZ
      refine ⟨HSZ.out, ?_⟩
      have HS : Hid (∀ w' : World, Below wr.heap.size wr w' → w'.cell? ⟨w.heap.size, 0, none⟩ = some (.slice A0 n0 c0) ∧ w'.cell? ⟨b, off + k, none⟩ = some (.int .i64 x)) := by
        intro w' h
        exact ⟨(h.cell (p := ⟨w.heap.size, 0, none⟩) y1).trans y0, (h.cell (p := ⟨b, off + k, none⟩) hb).trans hc0⟩
      iterate 5 (refine wpHead_cons (v := ?_) rfl rfl (fun w' hS => ?_) ?_; rotate_left; (focus ((try obtain ⟨s0, s1⟩ := HS.out _ (hS rfl)); clear hS; go_simp; try with_reducible rfl; done)); (try simp only [Act.put, List.setIfInBounds_toArray, List.set_cons_zero, List.set_cons_succ]))
      refine wpHead_nil ?_
      refine wpTail_cons rfl rfl (fun K hK => ?_)
      go_simp
      clear y0 y1 hc0
      refine (ris_any _ I x _ (HV.out.below (bchain HBX.out HSZ.out))).mono ?_
      rintro e w1 ⟨rfl, hb1⟩
      have HB1 := Lib.hid (bchain HBR.out (bchain HSZ.out hb1))
      refine hK.out _ _ (fun _ => bchain HSZ.out hb1) ?_
      clear hK K HS hb1
      (try simp only [Act.put, List.setIfInBounds_toArray, List.set_cons_zero, List.set_cons_succ])
      refine wpTail_rest 6 rfl ?_
      simp only [List.drop_succ_cons, List.drop_zero]
      cases hs : isB I x
      · have HF : Hid (listB I l = false) := by rw [Hid, listB, all_no hd.out hs]; rfl
        clear hs
        go_wp2_with fail
        refine NoPanic.normal ?_
        go_wp2_with fail
        go_ret
        exact ⟨by rw [HF.out]; rfl, bchain HBW.out HB1.out⟩
      · have HF : Hid ((l.take (k + 1)).all (isB I) = true) := by rw [Hid, all_take_succ hd.out, HA.out, hs]; rfl
        clear hs
        go_wp2_with fail
        refine NoPanic.normal ?_
        go_wp2_with fail
        go_roundw
        case rel => exact ⟨k + 1, by omega, by go_num, HF.out, HB1.out⟩
        case measure => simp [intOf]; omega
    · obtain rfl : n = k := by omega
      have HF : Hid (listB I l = decide ((n : Int) ≤ 24)) := by
        have h := HA.out
        rw [List.take_of_length_le (by rw [HN.out]; omega)] at h
        rw [Hid, listB, h, HN.out, Bool.true_and]
        by_cases h9 : n ≤ 24
        · rw [decide_eq_true h9, decide_eq_true (by omega)]
        · rw [decide_eq_false h9, decide_eq_false (by omega)]
      go_wp2_with fail
      go_ret
      exact ⟨by rw [HF.out]; rfl, HBX.out⟩
set_option maxHeartbeats 2000000 in
set_option maxRecDepth 100000 in
theorem rsameL_any (v u : Value) (a b : List (List Int)) (w : World) (hv : RdL w v a) (hu : RdL w u b) :
    Calls Try.prog 22 #[v, u] w fun e w' => e = .returned (.bool (decide (a = b))) ∧ Below w.heap.size w w' := by
  obtain ⟨A, n, c, rfl, h1, h2, HN, hr⟩ := hv.op
  obtain ⟨A', n', c', rfl, h1', h2', HN', hr'⟩ := hu.op
  have HV := Lib.hid hv
  have HU := Lib.hid hu
  clear hv hu
  go_enter Try.func22, Try.ntmps22
  by_cases hn : n = n'
  · subst hn
    have hne : ((n : Int) != (n : Int)) = false := by simp
    go_wp2_with fail
    clear hne
    go_loopw [13] (fun vi wr => ∃ k : Nat, k ≤ n ∧ vi = .int .i64 k ∧ Hid (a.take k = b.take k) ∧ Hid (Below w.heap.size w wr)) (fun vi _ => n - (intOf vi).toNat)
    case atStart => exact ⟨0, Nat.zero_le _, rfl, rfl, Below.refl _ _⟩
    case round =>
      obtain ⟨k, hk, rfl, HA, HBR⟩ := hrel
      by_cases hlt : k < n
      · obtain ⟨p, off, B, m, cm, l, rfl, hb, hd, hck, hl⟩ := lat_below (hr.out k hlt) HBR.out
        obtain ⟨p', off', B', m', cm', l', rfl, hb', hd', hck', hl'⟩ := lat_below (hr'.out k hlt) HBR.out
        have HT := Lib.hid (take_drop_eq hd.out hd'.out)
        have hk0 : (0 : Int) ≤ (k : Int) := by omega
        go_upto_region 6 with (fail)
        refine wp_region_ord 8 [0, 1, 2, 3, 4, 5, 6, 7] [] [0, 1, 2, 3, 4, 5, 6, 7] [8, 9] (fun w' => Below wr.heap.size wr w') (by kernel_rfl) (by kernel_rfl) ?_
        rintro Z hZ
        have HSZ : Hid (Below wr.heap.size wr Z) := by rw [hZ]; exact (Below.refl _ _).drew
        clear hZ
        refine ⟨HSZ.out, ?_⟩
        have HS : Hid (∀ w' : World, Below wr.heap.size wr w' → w'.cell? ⟨p, off + k, none⟩ = some (.slice B m cm) ∧ w'.cell? ⟨p', off' + k, none⟩ = some (.slice B' m' cm')) := by
          intro w' h
          exact ⟨(h.cell (p := ⟨p, off + k, none⟩) hb).trans hck, (h.cell (p := ⟨p', off' + k, none⟩) hb').trans hck'⟩
        iterate 8 (refine wpHead_cons (v := ?_) rfl rfl (fun w' hS => ?_) ?_; rotate_left; (focus ((try obtain ⟨s0, s1⟩ := HS.out _ (hS rfl)); clear hS; go_simp; try with_reducible rfl; done)); (try simp only [Act.put, List.setIfInBounds_toArray, List.set_cons_zero, List.set_cons_succ]))
        refine wpHead_nil ?_
        refine wpTail_cons rfl rfl (fun K hK => ?_)
        go_simp
        refine (rsame_any _ _ l l' _ (hl.out.below HSZ.out) (hl'.out.below HSZ.out)).mono ?_
        rintro e w1 ⟨rfl, nq, rfl⟩
        have hb1 : Below Z.heap.size Z (Z.drewN nq) := below_drewN (Below.refl _ _) nq
        have HB1 := Lib.hid (bchain HBR.out (bchain HSZ.out hb1))
        refine hK.out _ _ (fun _ => bchain HSZ.out hb1) ?_
        clear hK K HS hb1 hck hck'
        (try simp only [Act.put, List.setIfInBounds_toArray, List.set_cons_zero, List.set_cons_succ])
        refine wpTail_rest 9 rfl ?_
        simp only [List.drop_succ_cons, List.drop_zero]
        generalize hW1 : Z.drewN nq = W1 at HB1 ⊢
        clear hW1
        cases hs : sameB l l'
        · have HF : Hid (a ≠ b) := by
            rintro rfl
            have h3 := hd.out.symm.trans hd'.out
            rw [(List.cons.inj h3).1, (sameB_iff _ _).2 rfl] at hs
            cases hs
          clear hs
          go_wp2_with fail
          refine NoPanic.normal ?_
          go_wp2_with fail
          go_ret
          exact ⟨by rw [decide_eq_false HF.out]; rfl, HB1.out⟩
        · have HF : Hid (a.take (k + 1) = b.take (k + 1)) := HT.out.2 ⟨HA.out, (sameB_iff _ _).1 hs⟩
          clear hs
          go_wp2_with fail
          refine NoPanic.normal ?_
          go_wp2_with fail
          go_roundw
          case rel => exact ⟨k + 1, by omega, by go_num, HF.out, HB1.out⟩
          case measure => simp [intOf]; omega
      · obtain rfl : n = k := by omega
        have HF : Hid (a = b) := by
          have h3 := HA.out
          rwa [List.take_of_length_le (by rw [HN.out]; omega), List.take_of_length_le (by rw [HN'.out]; omega)] at h3
        go_wp2_with fail
        go_ret
        exact ⟨by rw [decide_eq_true HF.out]; rfl, HBR.out⟩
  · have hne : ((n : Int) != (n' : Int)) = true := by simp; omega
    have HF : Hid (a ≠ b) := by rintro rfl; exact hn (HN.out.symm.trans HN'.out)
    clear hn
    go_wp2_with fail
    go_ret
    exact ⟨by rw [decide_eq_false HF.out]; rfl, Below.refl _ _⟩
/-- Few, with the number of rounds that are left -/
def fewL (m : Int) : Nat → Int → Int → Bool
  | 0, _, _ => true
  | k + 1, n, all => if 60000 < all + n * m then false else fewL m k (n * m) (all + n * m)
def fewB (I : List PPh) (len : Int) : Bool := fewL (I.length : Int) (min len 25).toNat 1 1
set_option maxHeartbeats 2000000 in
set_option maxRecDepth 100000 in
theorem rfew_any (v : Value) (I : List PPh) (len : Int) (w : World) (hv : RdV w v I) (hI : I.length ≤ 1000000) :
    Calls Try.prog 21 #[v, .int .i64 len] w fun e w' => e = .returned (.bool (fewB I len)) ∧ Below w.heap.size w w' := by
  obtain ⟨u, rfl, hp⟩ := id hv
  obtain ⟨A0, n0, c0, rfl, _, _, HN0, _⟩ := hp.op
  rw [HN0.out] at hI
  clear hv hp
  obtain ⟨fb, hfb⟩ : ∃ x, fewB I len = x := ⟨_, rfl⟩
  rw [hfb]
  rw [fewB, HN0.out] at hfb
  go_enter Try.func21, Try.ntmps21
  go_wp2_with fail
  generalize hW : World.alloc w _ = W
  have HBW : Hid (Below w.heap.size w W) := by rw [← hW]; exact al_below _ _
  have HP : Hid (VBlk W w.heap.size (.slice A0 n0 c0)) := by rw [← hW]; exact heap_alloc_new w _
  clear hW
  go_loopw [5, 6, 7] (fun v5 v6 vi wr => ∃ (k : Nat) (x al : Int), (k : Int) ≤ 25 ∧ 0 ≤ x ∧ x ≤ al ∧ al ≤ 60000 ∧ v5 = .int .i64 al ∧ v6 = .int .i64 x ∧ vi = .int .i64 k ∧ Hid (fewL (n0 : Int) ((min len 25).toNat - k) x al = fb) ∧ wr = W) (fun _ _ vi _ => 26 - (intOf vi).toNat)
  case atStart => exact ⟨0, 1, 1, by omega, by omega, by omega, by omega, rfl, rfl, rfl, hfb, rfl⟩
  case round =>
    obtain ⟨k, x, al, hk, hx0, hx1, hal, rfl, rfl, rfl, HF, rfl⟩ := hrel
    have y0 := HP.out.cell
    have y1 := HP.out.lt
    have hxm : 0 ≤ x * (n0 : Int) := Int.mul_nonneg hx0 (by omega)
    have hxm2 : x * (n0 : Int) ≤ 60000 * 1000000 := Int.mul_le_mul (by omega) (by omega) (by omega) (by omega)
    by_cases hl : (k : Int) < len
    · have d1 : decide ((k : Int) < len) = true := decide_eq_true hl
      by_cases h24 : (k : Int) ≤ 24
      · have d2 : decide ((k : Int) ≤ 24) = true := decide_eq_true h24
        have hmk : (min len 25).toNat - k = ((min len 25).toNat - (k + 1)) + 1 := by omega
        have HF2 := HF.out
        rw [hmk, fewL] at HF2
        clear hmk
        obtain ⟨y, hy⟩ : ∃ y, x * (n0 : Int) = y := ⟨_, rfl⟩
        rw [hy] at hxm hxm2 HF2
        have hwr : IntKind.i64.wrap (x * (n0 : Int)) = y := by rw [hy]; exact IntWalk.i64_in _ (by omega)
        have hwr2 : IntKind.i64.wrap (al + y) = al + y := IntWalk.i64_in _ (by omega)
        by_cases hbig : 60000 < al + y
        · have d3 : decide (60000 < al + y) = true := decide_eq_true hbig
          rw [if_pos hbig] at HF2
          have HFF := Lib.hid HF2
          clear HF2 HF
          go_wp2_with fail
          go_ret
          exact ⟨by rw [HFF.out]; rfl, HBW.out⟩
        · have d3 : decide (60000 < al + y) = false := decide_eq_false hbig
          rw [if_neg hbig] at HF2
          have HFF := Lib.hid HF2
          clear HF2 HF
          go_wp2_with fail
          go_roundw
          case rel => exact ⟨k + 1, y, al + y, by omega, by omega, by omega, by omega, by go_num, by go_num, by go_num, HFF.out, trivial⟩
          case measure => simp [intOf]; omega
      · have d2 : decide ((k : Int) ≤ 24) = false := decide_eq_false h24
        have hmk : (min len 25).toNat - k = 0 := by omega
        have HF2 := HF.out
        rw [hmk, fewL] at HF2
        have HFF := Lib.hid HF2
        clear HF2 HF hmk
        go_wp2_with fail
        go_ret
        exact ⟨by rw [← HFF.out]; rfl, HBW.out⟩
    · have d1 : decide ((k : Int) < len) = false := decide_eq_false hl
      have hmk : (min len 25).toNat - k = 0 := by omega
      have HF2 := HF.out
      rw [hmk, fewL] at HF2
      have HFF := Lib.hid HF2
      clear HF2 HF hmk
      go_wp2_with fail
      go_ret
      exact ⟨by rw [← HFF.out]; rfl, HBW.out⟩
end Go.Proofs.Ytdijlakeonionaa
