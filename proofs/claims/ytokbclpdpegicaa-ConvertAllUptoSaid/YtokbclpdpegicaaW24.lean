/-
  Ways of the reference.
-/
import Derived.Test.YtokbclpdpegicaaW23
namespace Go.Proofs.Ytokbclpdpegicaa
open Go.ChangeShapes Go.WideShapes Go.ChangeAt Go.RowKit
theorem rep_set (a : Nat) (x y : Int) (T : List Int) : (List.replicate a (0 : Int) ++ x :: T).set a y = List.replicate a 0 ++ y :: T := by
  rw [List.set_append_right _ _ (by simp)]; simp
theorem rep_at (a : Nat) (x : Int) (T : List Int) : (List.replicate a (0 : Int) ++ x :: T).getD a 0 = x := by simp
theorem rep_next (a m : Nat) (x : Int) (T : List Int) (hm : 1 ≤ m) : (List.replicate a (0 : Int) ++ x :: T).getD (a + m) 0 = T.getD (m - 1) 0 := by
  obtain ⟨m, rfl⟩ : ∃ k, m = k + 1 := ⟨m - 1, by omega⟩
  simp [List.getD_eq_getElem?_getD, List.getElem?_append_right]
theorem rep_succ (a : Nat) (T : List Int) : List.replicate (a + 1) (0 : Int) ++ T = List.replicate a 0 ++ 0 :: T := by rw [List.replicate_succ', List.append_assoc]; rfl
theorem iArr_set (M : List Int) (j : Nat) (x : Int) : (iArr M).setIfInBounds j (.int .i64 x) = iArr (M.set j x) := by simp [iArr, List.map_set]
set_option maxHeartbeats 4000000 in
set_option maxRecDepth 100000 in
theorem ways_any (v vw : Value) (o : PO) (ws : List Int) (w : World) (hv : RdO w v o) (hso : SmO o) (hgd : ∀ p ∈ o.units, GoodU p) (hw : RdI w vw ws) (hlen : ws.length ≤ 1000000000) :
    Calls Try.prog 20 #[v, vw] w fun e w' => e = .returned (.int .i64 (waysF o.units ws)) ∧ Below w.heap.size w w' := by
  obtain ⟨vu, vl, rfl, hu, hl⟩ := hv
  obtain ⟨A, n, c, rfl, hnc, hcm, HN, HR⟩ := hu.op
  obtain ⟨B, m, d, rfl, _, _, _, _⟩ := hl.op
  obtain ⟨Aw, nw, cw, rfl, hnw, _, HNW, _⟩ := hw.op
  have HSO := Lib.hid hso
  have HGD := Lib.hid hgd
  have hn2 : n ≤ 1048576 := by rw [← HN.out]; exact hso.units
  rw [HNW.out] at hlen
  have HRI := Lib.hid hw
  clear hu hl hso hw hgd
  by_cases h0 : nw = 0
  · have HF : Hid (waysF o.units ws = 0) := by rw [Hid, waysF, HNW.out, if_pos (.inl h0)]
    subst h0
    go_enter Try.func20, Try.ntmps20
    go_wp2_with fail
    go_ret
    exact ⟨by rw [HF.out]; rfl, by repeat (first | assumption | exact Below.refl _ _ | refine Below.alloc ?_ (by first | omega | (simp; done) | (simp; omega)) _ | refine Below.drew ?_ | refine below_drewN ?_ _ | refine Below.setCell ?_ (by first | omega | (simp; done) | (simp; omega)) _)⟩
  have d0 : ((nw : Int) == 0) = false := by simp; omega
  have d0' : (nw == 0) = false := by simp; omega
  by_cases h24 : 24 < nw
  · have HF : Hid (waysF o.units ws = 0) := by rw [Hid, waysF, HNW.out, if_pos (.inr h24)]
    have d1 : decide ((24 : Int) < (nw : Int)) = true := by simp; omega
    go_enter Try.func20, Try.ntmps20
    go_wp2_with fail
    go_ret
    exact ⟨by rw [HF.out]; rfl, by repeat (first | assumption | exact Below.refl _ _ | refine Below.alloc ?_ (by first | omega | (simp; done) | (simp; omega)) _ | refine Below.drew ?_ | refine below_drewN ?_ _ | refine Below.setCell ?_ (by first | omega | (simp; done) | (simp; omega)) _)⟩
  have HF : Hid (waysF o.units ws = (capT o.units ws nw).getD 0 0) := by rw [Hid, waysF, HNW.out, if_neg (by omega)]
  have d1 : decide ((24 : Int) < (nw : Int)) = false := by simp; omega
  have hw24 : nw ≤ 24 := by omega
  obtain ⟨N, hN⟩ : ∃ N : Nat, (nw : Int) + 1 = (N : Int) := ⟨nw + 1, by simp⟩
  have hmk := make_ints N (by omega)
  have hNn : Hid (N = nw + 1) := by rw [Hid]; omega
  have hNb : N ≤ 25 := by omega
  have hm0 : (iArr (List.replicate N 0))[nw]? = some (.int .i64 0) := by rw [hNn.out]; simp [iArr]
  have j0 : (0 : Int) ≤ (nw : Int) := by omega
  have j1 : (nw : Int) < (N : Int) := by omega
  go_enter Try.func20, Try.ntmps20
  go_upto_region 1 with (fail)
  generalize hW : World.alloc w _ = W
  have HBW : Hid (Below w.heap.size w W) := by rw [← hW]; repeat (first | assumption | exact Below.refl _ _ | refine Below.alloc ?_ (by first | omega | (simp; done) | (simp; omega)) _ | refine Below.drew ?_ | refine below_drewN ?_ _ | refine Below.setCell ?_ (by first | omega | (simp; done) | (simp; omega)) _)
  have z1 : W.cell? ⟨w.heap.size, 1, none⟩ = some (.slice A n c) := by rw [← hW]; simp [go_sem]
  have hgW : w.heap.size < W.heap.size := by rw [← hW]; simp
  have HZ : Hid (∀ W' : World, Below W.heap.size W W' → W'.cell? ⟨w.heap.size, 1, none⟩ = some (.slice A n c)) := fun W' h => cell_keep hgW z1 h
  have HRW : Hid (∀ W' : World, Below W.heap.size W W' → ∀ k, k < n → UAt W' A o.units k) := fun W' h k hk => ((HR.out k hk).below HBW.out).below h
  have HRI : Hid (∀ W' : World, Below W.heap.size W W' → RdI W' (.slice Aw nw cw) ws) := fun W' h => (HRI.out.below HBW.out).below h
  have HBO : Hid (∀ W' : World, Below W.heap.size W W' → Below w.heap.size w W') := fun W' h => bchain HBW.out h
  clear hW HR HBW hgW z1
  have HUN : Hid (∀ k, k < n → ∃ p, o.units[k]? = some p) := fun k hk => ⟨_, List.getElem?_eq_getElem (by rw [HN.out]; exact hk)⟩
  generalize hg : w.heap.size = g at HZ HBO ⊢
  have HG := Lib.hid hg
  clear hg
  go_wp2_with fail
  generalize hX : World.alloc W _ = X
  have HBX : Hid (Below W.heap.size W X) := by rw [← hX]; exact (Below.refl _ _).alloc (Nat.le_refl _) _
  have HMX : Hid (Ils X W.heap.size (List.replicate nw 0 ++ capT o.units ws 0)) := by
    have e : (List.replicate N (0 : Int)).set nw 1 = List.replicate nw 0 ++ capT o.units ws 0 := by
      rw [hNn.out, List.replicate_succ', rep_set]; rfl
    rw [← hX, iArr_set, e]
    exact heap_alloc_new W _
  clear hX d0 d0' d1 hmk j0 j1 hm0
  go_loopg [6] nw (fun gk i wr => ∃ (k : Nat) (x : Int), k ≤ nw ∧ gk = nw - k ∧ i = .int .i64 x ∧ x + 1 + k = nw ∧ Hid (Ils wr W.heap.size (List.replicate (nw - k) 0 ++ capT o.units ws k)) ∧ Hid (Below W.heap.size W wr))
  case atStart => exact ⟨0, _, Nat.zero_le _, rfl, rfl, by omega, HMX.out, HBX.out⟩
  case round =>
    obtain ⟨k, x, hk, hgk, rfl, hx, HM, HB⟩ := hrel
    have HGK := Lib.hid hgk
    clear hgk HMX HBX
    by_cases hkn : k < nw
    · obtain ⟨a, rfl⟩ : ∃ a : Nat, x = (a : Int) := ⟨x.toNat, by omega⟩
      have hak : a + 1 + k = nw := by omega
      have HAK := Lib.hid hak
      have han : a < nw := by omega
      have HM2 : Hid (Ils wr W.heap.size (List.replicate a 0 ++ 0 :: capT o.units ws k)) := by rw [Hid, ← rep_succ, show a + 1 = nw - k by omega]; exact HM.out
      clear HM hx hak hkn
      have hz0 : (0 : Int) ≤ (a : Int) := by omega
      go_wp2_with fail
      generalize hwo : wr = wo at HB HM2 ⊢
      clear hwo
      go_loopg [7] n (fun gk i wr => ∃ (j : Nat) (acc : Int), j ≤ n ∧ gk = n - j ∧ i = .int .i64 j ∧ In10 acc ∧ Hid (capC (ws.drop a) (capT o.units ws k) o.units 0 = capC (ws.drop a) (capT o.units ws k) (o.units.drop j) acc) ∧ Hid (Ils wr W.heap.size (List.replicate a 0 ++ acc :: capT o.units ws k)) ∧ Hid (Below W.heap.size W wr))
      case atStart => exact ⟨0, 0, Nat.zero_le _, rfl, rfl, by simp [In10], rfl, HM2.out, HB.out⟩
      case round =>
        obtain ⟨j, acc, hj, hgk, rfl, hin, HC, HM3, HB3⟩ := hrel
        have HGJ := Lib.hid hgk
        have HIN := Lib.hid hin
        clear hgk hin
        obtain z1 := HZ.out wr HB3.out
        by_cases hlt : j < n
        · obtain ⟨p, hp⟩ := HUN.out j hlt
          obtain ⟨b, off, B2, m2, c2, hA, hbl, c0, c1, hrd, hnp⟩ := (HRW.out wr HB3.out j hlt).op hp
          subst hA
          have hdk : o.units.drop j = p :: o.units.drop (j + 1) := by
            rw [List.drop_eq_getElem_cons (by rw [HN.out]; exact hlt)]
            congr 1
            rw [List.getElem?_eq_getElem (by rw [HN.out]; exact hlt)] at hp
            exact Option.some.inj hp
          have HGP := Lib.hid (HGD.out p (List.mem_of_getElem? hp))
          have hj0 : (0 : Int) ≤ (j : Int) := by omega
          have hj1 : (j : Int) < (n : Int) := by omega
          have HC2 : Hid (capC (ws.drop a) (capT o.units ws k) o.units 0 = capC (ws.drop a) (capT o.units ws k) (o.units.drop (j + 1)) (if preR (ws.drop a) p.s = true then (if acc + (capT o.units ws k).getD (p.s.length - 1) 0 < 10000 then acc + (capT o.units ws k).getD (p.s.length - 1) 0 else 10000) else acc)) := by rw [Hid, HC.out, hdk, capC]
          clear HC hdk hp
          have C1 := Lib.hid c1
          go_wp2_with fail
          refine (begins18_any _ B2 m2 c2 a p.g ws p.s _ (HRI.out wr HB3.out) hrd.out (by rw [HNW.out]; omega) (by rw [HNW.out]; exact hw24)).mono ?_
          rintro e w4 ⟨rfl, hb⟩
          have HB4 : Hid (Below W.heap.size W w4) := bchain HB3.out hb
          have HM4 : Hid (Ils w4 W.heap.size (List.replicate a 0 ++ acc :: capT o.units ws k)) := HM3.out.below hb
          have C1' := Lib.hid (cell_keep hbl C1.out hb)
          have hbl4 : b < w4.heap.size := Nat.lt_of_lt_of_le hbl hb.size
          clear hb z1 c0 c1 HM3 HB3 hrd hbl C1
          cases hpre : preR (ws.drop a) p.s
          · have HC3 : Hid (capC (ws.drop a) (capT o.units ws k) o.units 0 = capC (ws.drop a) (capT o.units ws k) (o.units.drop (j + 1)) acc) := by rw [Hid, HC2.out, hpre, if_neg (by simp)]
            clear HC2
            go_wp2_with fail
            go_roundg (n - (j + 1))
            case measure => have := HGJ.out; omega
            case rel => exact ⟨j + 1, acc, by omega, rfl, by go_num, HIN.out, HC3.out, HM4.out, HB4.out⟩
          · obtain ⟨tv, htv⟩ : ∃ tv, (capT o.units ws k).getD (m2 - 1) 0 = tv := ⟨_, rfl⟩
            have htin := capT_in o.units ws k (m2 - 1)
            rw [htv] at htin
            obtain ⟨v, hv⟩ : ∃ v, (if acc + tv < 10000 then acc + tv else 10000) = v := ⟨_, rfl⟩
            have HC3 : Hid (capC (ws.drop a) (capT o.units ws k) o.units 0 = capC (ws.drop a) (capT o.units ws k) (o.units.drop (j + 1)) v) := by rw [Hid, HC2.out, hpre, if_pos rfl, hnp.out, htv, hv]
            have HVM : Hid (min 10000 (acc + tv) = v) := by rw [Hid, ← hv]; split <;> omega
            have hpl := preR_len hpre
            have hg1 := HGP.out.2.1
            rw [List.length_drop, HNW.out, hnp.out] at hpl
            rw [hnp.out] at hg1
            have m1 := HM4.out.cell (j := a) (by simp)
            rw [rep_at] at m1
            have mn := HM4.out.cell (j := a + m2) (by rw [List.length_append, List.length_replicate, List.length_cons, capT_len]; have := HAK.out; omega)
            rw [rep_next a m2 _ _ hg1, htv] at mn
            have HIV : Hid (In10 v) := by
              have h1 := HIN.out
              unfold In10 Hid at *
              rw [← hv]
              split <;> omega
            have b0 : (0 : Int) ≤ acc := HIN.out.1
            have b1 : acc ≤ 10000 := HIN.out.2
            have b2 : (0 : Int) ≤ tv := htin.1
            have b3 : tv ≤ 10000 := htin.2
            have hgm : W.heap.size < w4.heap.size := HM4.out.lt
            have M1 := Lib.hid m1
            have MN := Lib.hid mn
            have HS : Hid (∀ w' : World, Below w4.heap.size w4 w' → w'.cell? ⟨g, 1, none⟩ = some (.slice (some ⟨b, off, none⟩) n c) ∧ w'.cell? ⟨b, off + j * 2 + 1, none⟩ = some (.slice B2 m2 c2) ∧ w'.cell? ⟨W.heap.size, a, none⟩ = some (.int .i64 acc) ∧ w'.cell? ⟨W.heap.size, a + m2, none⟩ = some (.int .i64 tv)) := fun w' h => ⟨HZ.out w' (bchain HB4.out h), cell_keep hbl4 C1'.out h, cell_keep hgm M1.out h, cell_keep hgm MN.out h⟩
            have i3 : (a : Int) < (N : Int) := by omega
            have i4 : (a : Int) + (m2 : Int) < (N : Int) := by omega
            have i5 : (0 : Int) ≤ (a : Int) + (m2 : Int) := by omega
            have hwr : IntKind.i64.wrap ((a : Int) + (m2 : Int)) = (a : Int) + (m2 : Int) := (IntWalk.i64_left _).trans (wrap64_of _ (by omega))
            have hto : ((a : Int) + (m2 : Int)).toNat = a + m2 := by omega
            clear HC2 hpre htv htin m1 mn
            go_wp2_with fail
            refine wp_region_ord 18 [2, 3, 4, 5, 6, 7, 8, 9, 10, 11, 12, 13, 14, 15, 16, 17] [0, 1] [0, 1, 2, 3, 4, 5, 6, 7, 8, 9, 10, 11, 12, 13, 14, 15, 16, 17] [18, 19, 20, 21] (fun w' => Below w4.heap.size w4 w') (by kernel_rfl) (by kernel_rfl) ?_
            rintro D hD
            have HSD : Hid (Below w4.heap.size w4 D) := by rw [hD]; exact (Below.refl _ _).drew
            clear hD
            refine ⟨HSD.out, ?_⟩
            iterate 18 (refine wpHead_cons (v := ?_) rfl rfl (fun w' hS => ?_) ?_; rotate_left; (focus ((try obtain ⟨s0, s1, s2, s3⟩ := HS.out _ (hS rfl)); clear hS; go_simp; try with_reducible rfl; done)); (try simp only [Act.put, List.setIfInBounds_toArray, List.set_cons_zero, List.set_cons_succ]))
            refine wpHead_nil ?_
            refine wpTail_rest 18 rfl ?_
            simp only [List.drop_succ_cons, List.drop_zero]
            have HMD : Hid (Ils D W.heap.size (List.replicate a 0 ++ acc :: capT o.units ws k)) := HM4.out.below HSD.out
            have HBD : Hid (Below W.heap.size W D) := bchain HB4.out HSD.out
            have m1 : D.cell? ⟨W.heap.size, a, none⟩ = some (.int .i64 acc) := (HS.out D HSD.out).2.2.1
            have mf := HMD.out.free a
            go_wp2_with fail
            refine NoPanic.normal ?_
            go_wp2_with fail
            clear m1 mf
            generalize hX : World.setCell D _ _ = X2
            have HMX : Hid (Ils X2 W.heap.size (List.replicate a 0 ++ v :: capT o.units ws k)) := by rw [← hX, HVM.out, ← rep_set a acc v]; exact HMD.out.set_ a v
            have HBX : Hid (Below W.heap.size W X2) := by rw [← hX]; exact HBD.out.setCell (Nat.le_refl _) _
            clear hX
            go_roundg (n - (j + 1))
            case measure => have := HGJ.out; omega
            case rel => exact ⟨j + 1, v, by omega, rfl, by go_num, HIV.out, HC3.out, HMX.out, HBX.out⟩
        · have hacc : capC (ws.drop a) (capT o.units ws k) o.units 0 = acc := by rw [HC.out, List.drop_of_length_le (l := o.units) (by rw [HN.out]; omega)]; rfl
          have HM5 : Hid (Ils wr W.heap.size (List.replicate (nw - (k + 1)) 0 ++ capT o.units ws (k + 1))) := by
            rw [Hid, capT, HNW.out, show nw - (k + 1) = a by have := HAK.out; omega, hacc]
            exact HM3.out
          clear HC hacc
          go_wp2_with fail
          go_roundg (nw - (k + 1))
          case measure => have := HGK.out; have := HAK.out; omega
          case rel => exact ⟨k + 1, _, by have := HAK.out; omega, rfl, rfl, by have := HAK.out; omega, HM5.out, HB3.out⟩
    · obtain rfl : k = nw := by omega
      obtain rfl : x = -1 := by omega
      have m1 := HM.out.cell (j := 0) (by rw [List.length_append, capT_len]; omega)
      rw [Nat.sub_self] at m1
      have m1' : wr.cell? ⟨W.heap.size, 0, none⟩ = some (.int .i64 ((capT o.units ws k).getD 0 0)) := m1
      have i3 : (0 : Int) < (N : Int) := by omega
      clear m1 hx
      go_wp2_with fail
      go_ret
      exact ⟨by rw [HF.out]; rfl, by rw [HG.out]; exact HBO.out _ HB.out⟩
end Go.Proofs.Ytokbclpdpegicaa
