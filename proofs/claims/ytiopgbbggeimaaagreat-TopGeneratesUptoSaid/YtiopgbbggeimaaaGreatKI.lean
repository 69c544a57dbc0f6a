/-
  analyze: the closure add of All, walked.
-/
import Derived.Test.YtiopgbbggeimaaaGreatKH
namespace Go.Proofs.YtiopgbbggeimaaaGreat
open Go.ChangeShapes Go.WideShapes Go.ChangeAt Go.RowKit
theorem StA.full {n0 bo bf : Nat} {st : Fnd} {w : World} (h : StA n0 bo bf st w) : StA n0 bo bf (st.1, true) (w.setCell ⟨bf, 0, none⟩ (.bool true)) ∧ Gs n0 w (w.setCell ⟨bf, 0, none⟩ (.bool true)) := by
  obtain ⟨v, h1, h2, h3, h4, h5, h6⟩ := h
  have hne : bo ≠ bf := ne_of_type h1 h3 (by decide)
  exact ⟨⟨v, h1.other hne _, h2.setBox h3 (by decide) (by decide) _, h3.set _, h4, h5, h6⟩, Gs.of_set h3 (.inr rfl) h5 _⟩
theorem getD_drop {Ls : List (List PPt)} {k : Nat} {l : List PPt} {r : List (List PPt)} (h : Ls.drop k = l :: r) : Ls.getD k [] = l := by
  have h2 := congrArg List.head? h
  rw [List.head?_drop] at h2
  simp only [List.getD, h2, List.head?_cons, Option.getD_some]
theorem getD_drop' {Ls : List (List PPt)} {k : Nat} {l : List PPt} (h : Ls.drop k = l :: Ls.drop (k + 1)) : Ls.getD k [] = l := getD_drop h
/-- a row or a box of analyses -/
def AnT (X : World) (k : Nat) : Prop := ∃ cs t m, X.heap[k]? = some (.cells cs t m) ∧ (t = 39 ∨ t = 48)
theorem AnT.row {X : World} {base n : Nat} {v : Value} {xs : List Value} (h : X.ownsRow base 39 1 v n xs) {k : Nat} (hk : v.ownBlock = some k) : AnT X k := by
  obtain ⟨cs, hc⟩ := row_type h hk
  exact ⟨cs, _, _, hc, .inl rfl⟩
theorem AnT.ne {X : World} {k j : Nat} (h : AnT X k) {cs : Array Value} {t : TypeId} {m : Nat × Nat} (hj : X.heap[j]? = some (.cells cs t m)) (h1 : t ≠ 39) (h2 : t ≠ 48) : j ≠ k := by
  obtain ⟨cs', t', m', hk, ht⟩ := h
  rintro rfl
  rw [hj] at hk
  cases hk
  rcases ht with ht | ht
  · exact h1 ht
  · exact h2 ht
theorem Gs.of_grown {n0 : Nat} {X Y : World} {row : Option Nat} (hg : X.grownBy Y row) (hn : n0 ≤ X.heap.size) (h : ∀ k, row = some k → n0 ≤ k ∧ AnT X k) : Gs n0 X Y := by
  refine ⟨⟨(Below.refl n0 X).grown hg hn (fun k hk => (h k hk).1), fun k cs t m h1 h2 h3 _ => (hg.block k (Array.getElem?_eq_some_iff.1 h1).1 (fun e => ?_)).trans h1⟩, fun k es cl h1 => (hg.block k (Array.getElem?_eq_some_iff.1 h1).1 (fun e => ?_)).trans h1⟩
  · exact (h k e.symm).2.ne h1 h2 h3 rfl
  · obtain ⟨cs, t, m, h2, _⟩ := (h k e.symm).2
    rw [h1] at h2
    cases h2
/-- what stays while an analysis is put in -/
structure AI (n0 bf gx : Nat) (st : Fnd) (u : Value) (a : List PPt) (us : List Value) (w X : World) : Prop where
  full : Boxed X bf 4 (.bool st.2)
  box : AnBlk X gx u
  zip : ∀ x ∈ us.zip st.1, OwnPt X n0 x.1 x.2
  uo : OwnPt X n0 u a
  gs : Gs n0 w X
theorem AI.step {n0 bf gx : Nat} {st : Fnd} {u : Value} {a : List PPt} {us : List Value} {w X Y : World} {row : Option Nat} (hI : AI n0 bf gx st u a us w X) (hg : X.grownBy Y row) (hn : n0 ≤ X.heap.size) (h : ∀ k, row = some k → n0 ≤ k ∧ k ≠ gx ∧ AnT X k) : AI n0 bf gx st u a us w Y := by
  have hk : ∀ {k : Nat} {cs : Array Value} {t : TypeId} {m : Nat × Nat}, X.heap[k]? = some (.cells cs t m) → t ≠ 39 → t ≠ 48 → Y.heap[k]? = X.heap[k]? := fun {k cs t m} h1 h2 h3 =>
    hg.block k (Array.getElem?_eq_some_iff.1 h1).1 (fun e => (h k e.symm).2.2.ne h1 h2 h3 rfl)
  have hbf : X.heap[bf]? = _ := hI.full
  have hbx : X.heap[gx]? = _ := hI.box
  refine ⟨(hk hbf (by decide) (by decide)).trans hI.full, (hg.block gx hI.box.lt (fun e => (h gx e.symm).2.1 rfl)).trans hI.box, fun x hx => own_keepQ (hI.zip x hx) fun _ _ _ _ h1 _ => hk h1 (by decide) (by decide),
    own_keepQ hI.uo fun _ _ _ _ h1 _ => hk h1 (by decide) (by decide), hI.gs.trans (Gs.of_grown hg hn fun k e => ⟨(h k e).1, (h k e).2.2⟩)⟩
theorem row_keep {X Y : World} {base n k : Nat} {v : Value} {xs : List Value} (h : X.ownsRow base 39 1 v n xs) (hg : X.grownBy Y (some k)) (hne : v.ownBlock ≠ some k) : Y.ownsRow base 39 1 v n xs :=
  own_keepQ h fun j _ _ hj hk _ => hg.block j (Array.getElem?_eq_some_iff.1 hk).1 (fun e => hne (hj.trans e))
set_option maxHeartbeats 16000000 in
set_option maxRecDepth 100000 in
theorem add_any (n0 bo bf : Nat) (st : Fnd) (u : Value) (a : List PPt) (w : World) (hn0 : n0 ≤ w.heap.size) (hS : StA n0 bo bf st w) (hu : OwnPt w n0 u a) :
    Calls Tryz.prog 53 #[.agg #[u], .pointer (some ⟨bo, 0, none⟩), .pointer (some ⟨bf, 0, none⟩)] w fun e w' => e = .returned (.bool (addF st a).2) ∧ StA n0 bo bf (addF st a).1 w' ∧ Gs n0 w w' := by
  have HST := Lib.hid hS
  obtain ⟨v, hbo, hown, hbf, h1, h2, h3⟩ := hS
  obtain ⟨Av, cv, rfl⟩ := hown.slice
  obtain ⟨Au, cu, rfl⟩ := own_sliceP hu
  obtain ⟨n, hn⟩ : ∃ n, st.1.length = n := ⟨_, rfl⟩
  obtain ⟨na, hna⟩ : ∃ n, a.length = n := ⟨_, rfl⟩
  have HN := Lib.hid hn
  have HNA := Lib.hid hna
  rw [hn] at hbo hown h3
  rw [hna] at hu ⊢
  have HBO := Lib.hid hbo
  have HOW := Lib.hid hown
  have HBF := Lib.hid hbf
  have HU := Lib.hid hu
  obtain ⟨ra, hra⟩ : ∃ ra, addF st a = ra := ⟨_, rfl⟩
  rw [hra]
  have HRA := Lib.hid hra
  clear hbo hown hbf hu hra hn hna
  go_enter Tryz.func53, Tryz.ntmps53
  go_upto_region 1 with (fail)
  generalize hW : World.alloc w _ = W
  have HBW : Hid (Below w.heap.size w W) := by rw [← hW]; exact al_below _ _
  have HGW : Hid (Gs n0 w W) := by rw [← hW]; exact Gs.of_below (al_below _ _) hn0
  have HP : Hid (AnBlk W w.heap.size (.slice Au na cu)) := by rw [← hW]; exact heap_alloc_new w _
  clear hW
  have HSW := Lib.hid (HST.out.below HBW.out)
  have HOB := Lib.hid (boxed_below HBO.out HBW.out)
  have HBB := Lib.hid (boxed_below HBF.out HBW.out)
  have co := HOB.out.cell
  by_cases h200 : n = 200
  · have HR : Hid (ra = ((st.1, true), false)) := by rw [Hid, ← HRA.out, addF, if_pos (by rw [HN.out]; exact h200)]
    have cb := HBB.out.cell
    have fb := HBB.out.frozen
    have HFU := Lib.hid HSW.out.full
    subst h200
    go_wp2_with fail
    go_ret
    rw [HR.out]
    exact ⟨rfl, HFU.out.1, HGW.out.trans HFU.out.2⟩
  have HR : Hid (ra = ((insA a st.1, st.2), true)) := by rw [Hid, ← HRA.out, addF, if_neg (by rw [HN.out]; exact h200)]
  have d1 : ((n : Int) == 200) = false := by simp; omega
  have d1' : (n == 200) = false := by simp; omega
  have hlt : n < 200 := by omega
  clear h200
  go_wp2_with fail
  clear co d1 d1'
  have HOA := Lib.hid (HOW.out.below HBW.out)
  have HUW : Hid (OwnPt W n0 (.slice Au na cu) a) := own_below HU.out HBW.out
  obtain ⟨_, _, _, he, _, hcv, HNR, HRR⟩ := HOA.out.rd.op
  cases he
  go_loopw [5] (fun v5 wr => ∃ i : Nat, i ≤ n ∧ v5 = .int .i64 i ∧ Hid (posA a st.1 n = posA a st.1 i) ∧ Hid (Below W.heap.size W wr)) (fun v5 _ => (intOf v5).toNat)
  case atStart => exact ⟨n, Nat.le_refl _, rfl, rfl, Below.refl _ _⟩
  case round =>
    obtain ⟨i, hi, rfl, HPO, HBR⟩ := hrel
    go_upto_region 5 with (fail)
    go_cut [21] (fun s21 wx => ∃ b : Bool, s21 = .bool b ∧ Hid (b = true → 0 < i ∧ posA a st.1 i = posA a st.1 (i - 1)) ∧ Hid (b = false → posA a st.1 i = i) ∧ Hid (Below W.heap.size W wx))
    case first =>
      refine wp_region_mix 9 [0, 1, 2, 3, 4, 5, 6, 7, 8] [] [(true, 0), (true, 1), (true, 2), (true, 3), (true, 4), (true, 5), (true, 6), (true, 7), (true, 8), (false, 9), (false, 10)] (fun w' => Below wr.heap.size wr w') (by kernel_rfl) (by kernel_rfl) ?_
      rintro D hD
      have HSD : Hid (Below wr.heap.size wr D) := by rw [hD]; exact (Below.refl _ _).drew
      clear hD
      refine ⟨HSD.out, ?_⟩
      by_cases hi0 : i = 0
      · have e0 : decide ((0 : Int) < (i : Int)) = false := by simp [hi0]
        have e0' : decide (0 < i) = false := by simp [hi0]
        have HS : Hid (∀ w' : World, Below wr.heap.size wr w' → True) := fun _ _ => trivial
        have HPI : Hid (posA a st.1 i = i) := by rw [hi0]; rfl
        clear hi0
        iterate 3 (refine wpMix_q (v := ?_) rfl rfl (fun w' hS => ?_) ?_; rotate_left; (focus ((try obtain _ := HS.out _ (hS rfl)); clear hS; go_simp; try with_reducible rfl; done)); (try simp only [Act.put, List.setIfInBounds_toArray, List.set_cons_zero, List.set_cons_succ]))
        iterate 6 (refine wpMix_qskip rfl rfl ?_; (try simp only [Act.put, List.setIfInBounds_toArray, List.set_cons_zero, List.set_cons_succ]))
        (refine wpMix_eskip rfl rfl (HSD).out ?_; (try simp only [Act.put, List.setIfInBounds_toArray, List.set_cons_zero, List.set_cons_succ]))
        (refine wpMix_e rfl rfl (fun K hK => ?_); go_simp; refine hK.out _ _ (fun h => absurd h (by decide)) ?_; clear hK K; (try simp only [Act.put, List.setIfInBounds_toArray, List.set_cons_zero, List.set_cons_succ]))
        refine wpMix_nil ?_
        refine NoPanic.normal ?_
        clear HS
        go_wp2_with fail
        go_meet
        exact ⟨false, rfl, fun h => absurd h (by decide), fun _ => HPI.out, bchain HBR.out HSD.out⟩
      obtain ⟨b, off, B, m, cm, l, hA, hb, hd, c0, HL⟩ := (HRR.out (i - 1) (by omega)).below HBR.out
      subst hA
      have e0 : decide ((0 : Int) < (i : Int)) = true := by simp; omega
      have e0' : decide (0 < i) = true := by simp; omega
      have hk1 : (i : Int) - 1 = ((i - 1 : Nat) : Int) := by omega
      have hk2 : i - 1 < n := by omega
      have hk3 : (0 : Int) ≤ ((i - 1 : Nat) : Int) := by omega
      have hwr : IntKind.i64.wrap ((i - 1 : Nat) : Int) = ((i - 1 : Nat) : Int) := IntWalk.i64_in _ (by omega)
      have HS : Hid (∀ w' : World, Below wr.heap.size wr w' → w'.cell? ⟨w.heap.size, 0, none⟩ = some (.slice Au na cu) ∧ w'.cell? ⟨bo, 0, none⟩ = some (.slice (some ⟨b, off, none⟩) n cv) ∧ w'.cell? ⟨b, off + (i - 1), none⟩ = some (.slice B m cm)) :=
        fun w' h => ⟨(HP.out.below (bchain HBR.out h)).cell, (boxed_below HOB.out (bchain HBR.out h)).cell, (h.cell (p := ⟨b, off + (i - 1), none⟩) hb).trans c0⟩
      have HPI : Hid (posA a st.1 i = if lessA a l then posA a st.1 (i - 1) else i) := by
        obtain ⟨j, rfl⟩ : ∃ j, i = j + 1 := ⟨i - 1, by omega⟩
        rw [Hid, posA]
        simp only [Nat.add_sub_cancel] at hd ⊢
        rw [getD_drop' hd.out]
      clear hi0 c0
      iterate 9 (refine wpMix_q (v := ?_) rfl rfl (fun w' hS => ?_) ?_; rotate_left; (focus ((try obtain ⟨s0, s1, s2⟩ := HS.out _ (hS rfl)); clear hS; go_simp; try with_reducible rfl; done)); (try simp only [Act.put, List.setIfInBounds_toArray, List.set_cons_zero, List.set_cons_succ]))
      refine wpMix_e rfl rfl (fun K hK => ?_)
      go_simp
      refine (less_any _ _ a l _ (HUW.out.rd.below (bchain HBR.out HSD.out)) (HL.out.below HSD.out)).mono ?_
      rintro e w2 ⟨rfl, hb2⟩
      have HB2 := Lib.hid (bchain HSD.out hb2)
      refine hK.out _ _ (fun h => absurd h (by decide)) ?_
      clear hK K hb2
      (try simp only [Act.put, List.setIfInBounds_toArray, List.set_cons_zero, List.set_cons_succ])
      have hip : 0 < i := by omega
      cases hle : lessA a l
      · have HPF : Hid (posA a st.1 i = i) := by rw [Hid, HPI.out, if_neg (by simp [hle])]
        clear hle
        (refine wpMix_e rfl rfl (fun K hK => ?_); go_simp; refine hK.out _ _ (fun h => absurd h (by decide)) ?_; clear hK K; (try simp only [Act.put, List.setIfInBounds_toArray, List.set_cons_zero, List.set_cons_succ]))
        refine wpMix_nil ?_
        refine NoPanic.normal ?_
        clear HS
        go_wp2_with fail
        go_meet
        exact ⟨false, rfl, fun h => absurd h (by decide), fun _ => HPF.out, bchain HBR.out HB2.out⟩
      · have HPF : Hid (posA a st.1 i = posA a st.1 (i - 1)) := by rw [Hid, HPI.out, if_pos hle]
        clear hle
        (refine wpMix_e rfl rfl (fun K hK => ?_); go_simp; refine hK.out _ _ (fun h => absurd h (by decide)) ?_; clear hK K; (try simp only [Act.put, List.setIfInBounds_toArray, List.set_cons_zero, List.set_cons_succ]))
        refine wpMix_nil ?_
        refine NoPanic.normal ?_
        clear HS
        go_wp2_with fail
        go_meet
        exact ⟨true, rfl, fun _ => ⟨hip, HPF.out⟩, fun h => absurd h (by decide), bchain HBR.out HB2.out⟩
    case rest =>
      obtain ⟨b, rfl, HT, HF, HBC⟩ := hcut
      cases b
      rotate_left
      · have hip := (HT.out rfl).1
        have HPN : Hid (posA a st.1 n = posA a st.1 (i - 1)) := by rw [Hid, HPO.out]; exact (HT.out rfl).2
        have hk1 : (i : Int) - 1 = ((i - 1 : Nat) : Int) := by omega
        clear HT HF
        go_wp2_with fail
        go_roundw
        case rel => exact ⟨i - 1, by omega, by go_num, HPN.out, HBC.out⟩
        case measure => simp [intOf]; omega
      · have HPI : Hid (posA a st.1 n = i) := by rw [Hid, HPO.out]; exact HF.out rfl
        clear HT HF HRR
        have hsz : n0 ≤ wc.heap.size := by have := HBW.out.size; have := HBC.out.size; omega
        have HBWC := Lib.hid (bchain HBW.out HBC.out)
        obtain ⟨us, hrow, hul, hzip⟩ := HOA.out.below HBC.out
        have hus : us.length = n := by rw [hul]; exact HN.out
        have HUS := Lib.hid hus
        have HRW := Lib.hid hrow
        have HOBC := Lib.hid (boxed_below HOB.out HBC.out)
        have HAI : Hid (AI n0 bf w.heap.size st (.slice Au na cu) a us w wc) := ⟨boxed_below HBB.out HBC.out, HP.out.below HBC.out, hzip, own_below HUW.out HBC.out, HGW.out.trans (Gs.of_below HBC.out (by have := HBW.out.size; omega))⟩
        have HVB : Hid (∀ k, (Value.slice Av n cv).ownBlock = some k → n0 ≤ k ∧ k ≠ w.heap.size ∧ AnT wc k) := fun k hk => by
          obtain ⟨us0, hr0, _, _⟩ := HOW.out
          have hl := World.ownsRow.lt hr0 k hk
          exact ⟨hl.1, by omega, AnT.row hrow hk⟩
        clear hrow hul hzip hus HOA HUW
        have hn6 : n ≤ 1000000 := by omega
        have co := HOBC.out.cell
        go_upto_region 8 with (at_builtin; refine wpList_app_an rfl (.tmp 24) (.tmp 26) rfl n0 (.slice Av n cv) us n rfl HRW.out HUS hn6 hsz rfl ?_; intro g' cap' w5 ho hge hg hgk; have hbb := (HOBC.out).kept hg (HOBC.out.not_row (by decide) HRW.out); have cb5 := hbb.cell; have fb5 := hbb.frozen; have HO5 := Lib.hid ho; have HG5 := Lib.hid hg; have HB5 := Lib.hid hbb; have HK5 := Lib.hid hgk; clear ho hg hbb hgk)
        have HA5 : Hid (AI n0 bf w.heap.size st (.slice Au na cu) a us w w5) := HAI.out.step HG5.out hsz HVB.out
        have hg5 : g' ≠ w.heap.size := by
          rcases HK5.out with h | h
          · exact (HVB.out g' h.symm).2.1
          · have := HBWC.out.size; have := HP.out.lt; have := HBC.out.size; omega
        have hg6 : n0 ≤ g' := (World.ownsRow.lt HO5.out g' rfl).1
        have hsz5 : n0 ≤ w5.heap.size := by have := HG5.out.size; omega
        have hbne : bo ≠ w.heap.size := by have := HBO.out.lt; omega
        have HGB : Hid (w5.grownBy (w5.setCell ⟨bo, 0, none⟩ (.slice (some ⟨g', 0, none⟩) (n + 1) cap')) (some bo)) := setCell_grown _ _ _ _
        have HTB : Hid (AnT w5 bo) := ⟨_, _, _, HB5.out, .inr rfl⟩
        have HA6 : Hid (AI n0 bf w.heap.size st (.slice Au na cu) a us w (w5.setCell ⟨bo, 0, none⟩ (.slice (some ⟨g', 0, none⟩) (n + 1) cap'))) := HA5.out.step HGB.out hsz5 (fun k hk => by cases hk; exact ⟨h1, hbne, HTB.out⟩)
        have HO6 : Hid ((w5.setCell ⟨bo, 0, none⟩ (.slice (some ⟨g', 0, none⟩) (n + 1) cap')).ownsRow n0 39 1 (.slice (some ⟨g', 0, none⟩) (n + 1) cap') (n + 1) (us ++ [.slice none 0 0])) :=
          row_keep HO5.out HGB.out (fun h => by
            have h2 : g' = bo := by simpa [Value.ownBlock] using h
            obtain ⟨cs, hc⟩ := row_type HO5.out (k := g') rfl
            exact ne_of_type hc HB5.out (by decide) h2)
        have HB6 : Hid (Boxed (w5.setCell ⟨bo, 0, none⟩ (.slice (some ⟨g', 0, none⟩) (n + 1) cap')) bo 48 (.slice (some ⟨g', 0, none⟩) (n + 1) cap')) := HB5.out.set _
        have hsz6 : n0 ≤ (w5.setCell ⟨bo, 0, none⟩ (.slice (some ⟨g', 0, none⟩) (n + 1) cap')).heap.size := by simpa using hsz5
        clear cb5 fb5 HGB HTB HA5 HO5 HB5 HG5 HK5 hsz5
        generalize w5.setCell ⟨bo, 0, none⟩ (.slice (some ⟨g', 0, none⟩) (n + 1) cap') = X at HA6 HO6 HB6 hsz6 ⊢
        obtain ⟨hc6, hf6, hg7, hnc6, hcm6, hul6⟩ := row_cells HO6.out
        obtain ⟨o1, ho1, s1, s1'⟩ := slice_los g' 0 (n + 1) cap' (i + 1) (by omega) hnc6 hcm6
        obtain ⟨o2, ho2, s2, s2'⟩ := slice_los g' 0 (n + 1) cap' i (by omega) hnc6 hcm6
        have hoo : o2 = i := by have := ho2 (by omega); omega
        simp only [hoo] at s2 s2'
        clear hoo
        have hcast : ((i + 1 : Nat) : Int) = (i : Int) + 1 := by omega
        simp only [hcast, Nat.add_sub_add_right] at s1 s1'
        have hwr : IntKind.i64.wrap ((i : Int) + 1) = (i : Int) + 1 := IntWalk.i64_in _ (by omega)
        have HO1 : Hid (i < n → o1 = i + 1) := fun h => by have := ho1 (by omega); omega
        have HHC := Lib.hid hc6
        clear hc6 hf6 ho1 ho2 hcast co
        refine wp_region_ord 7 [0, 1, 2, 3, 4, 5, 6] [] [0, 1, 2, 3, 4, 5, 6] [7] (fun w' => Below X.heap.size X w') (by kernel_rfl) (by kernel_rfl) ?_
        rintro Z hZ
        have HSZ : Hid (Below X.heap.size X Z) := by rw [hZ]; exact (Below.refl _ _).drew
        clear hZ
        refine ⟨HSZ.out, ?_⟩
        have HS : Hid (∀ w' : World, Below X.heap.size X w' → w'.cell? ⟨bo, 0, none⟩ = some (.slice (some ⟨g', 0, none⟩) (n + 1) cap') ∧ True) := fun w' h => ⟨(boxed_below HB6.out h).cell, trivial⟩
        iterate 7 (refine wpHead_cons (v := ?_) rfl rfl (fun w' hS => ?_) ?_; rotate_left; (focus ((try obtain ⟨t0, _⟩ := HS.out _ (hS rfl)); clear hS; go_simp; try with_reducible rfl; done)); (try simp only [Act.put, List.setIfInBounds_toArray, List.set_cons_zero, List.set_cons_succ]))
        refine wpHead_nil ?_
        clear HS s1 s1' s2 s2' hwr
        have HZR : Hid (Z.ownsRow n0 39 1 (.slice (some ⟨g', 0, none⟩) (n + 1) cap') (n + 1) (us ++ [.slice none 0 0])) := own_below HO6.out HSZ.out
        have HUL : Hid (us.length = st.1.length) := by rw [Hid, HUS.out, HN.out]
        have hone : ∀ u ∈ us ++ [.slice none 0 0], u.oneCell' = true := by
          intro x hx
          rcases List.mem_append.1 hx with hx | hx
          · obtain ⟨j, hj⟩ := List.getElem?_of_mem hx
            have hjl := (List.getElem?_eq_some_iff.1 hj).1
            have hl2 := List.getElem?_eq_getElem (show j < st.1.length by rw [← HUL.out]; exact hjl)
            obtain ⟨A2, c2, he⟩ := own_sliceP (HA6.out.zip (x, _) (List.mem_of_getElem? (i := j) (List.getElem?_zip_eq_some.2 ⟨hj, hl2⟩)))
            simp only at he
            rw [he]; rfl
          · rw [List.mem_singleton.1 hx]; rfl
        have hcp := fun ty => (copy_row (c1 := cap' - (i + 1)) (c2 := cap' - i) HZR.out i hi HO1.out hone ty).1
        have HCR := Lib.hid (copy_row (c1 := cap' - (i + 1)) (c2 := cap' - i) HZR.out i hi HO1.out hone 0).2
        have HAZ : Hid (AI n0 bf w.heap.size st (.slice Au na cu) a us w Z) := HA6.out.step (grown_of_below (row := none) HSZ.out) hsz6 (fun k hk => by cases hk)
        have HBZ := Lib.hid (boxed_below HB6.out HSZ.out)
        have hszZ : n0 ≤ Z.heap.size := by have := HSZ.out.size; omega
        have HTZ : Hid (AnT Z g') := AnT.row HZR.out rfl
        have HGC : Hid (Z.grownBy (Z.setCells g' (i + 1) (us.drop i)) (some g')) := setCells_grown _ _ _ _
        have HAY : Hid (AI n0 bf w.heap.size st (.slice Au na cu) a us w (Z.setCells g' (i + 1) (us.drop i))) := HAZ.out.step HGC.out hszZ (fun k hk => by cases hk; exact ⟨hg6, hg5, HTZ.out⟩)
        have HBY : Hid (Boxed (Z.setCells g' (i + 1) (us.drop i)) bo 48 (.slice (some ⟨g', 0, none⟩) (n + 1) cap')) := HBZ.out.kept HGC.out (HBZ.out.not_row (by decide) HZR.out)
        have hszY : n0 ≤ (Z.setCells g' (i + 1) (us.drop i)).heap.size := by have := HGC.out.size; omega
        clear hone
        refine wpTail_cons rfl rfl (fun K hK => ?_)
        go_simp
        refine hK.out _ _ (fun h => absurd h (by decide)) ?_
        clear hK K hcp
        (try simp only [Act.put, List.setIfInBounds_toArray, List.set_cons_zero, List.set_cons_succ])
        refine wpTail_nil ?_
        refine NoPanic.normal ?_
        clear HGC HTZ HAZ HBZ hszZ HZR HA6 HB6 HO6 hsz6
        generalize Z.setCells g' (i + 1) (us.drop i) = Y at HCR HAY HBY hszY ⊢
        have HSR := Lib.hid (store_row HCR.out HUS.out hi (.slice Au na cu))
        obtain ⟨hcY, hfY, hgY, _, _, _⟩ := row_cells HCR.out
        obtain ⟨uo, _, hci⟩ := hcY i (by omega)
        have hfi := hfY i
        have co := HBY.out.cell
        have pc := HAY.out.box.cell
        have HTY : Hid (AnT Y g') := AnT.row HCR.out rfl
        have HGF : Hid (Y.grownBy (Y.setCell ⟨g', i, none⟩ (.slice Au na cu)) (some g')) := setCell_grown _ _ _ _
        have HAF : Hid (AI n0 bf w.heap.size st (.slice Au na cu) a us w (Y.setCell ⟨g', i, none⟩ (.slice Au na cu))) := HAY.out.step HGF.out hszY (fun k hk => by cases hk; exact ⟨hg6, hg5, HTY.out⟩)
        have HBF2 : Hid (Boxed (Y.setCell ⟨g', i, none⟩ (.slice Au na cu)) bo 48 (.slice (some ⟨g', 0, none⟩) (n + 1) cap')) := HBY.out.kept HGF.out (HBY.out.not_row (by decide) HCR.out)
        have hi0 : (0 : Int) ≤ (i : Int) := by omega
        have hi1 : i < n + 1 := by omega
        clear hcY hfY
        go_wp2_with fail
        go_ret
        rw [HR.out]
        refine ⟨rfl, ⟨_, HBF2.out, ⟨us.take i ++ (.slice Au na cu) :: us.drop i, ?_, ?_, ?_⟩, HAF.out.full, h1, h2, ?_⟩, HAF.out.gs⟩
        · have hl : (us.take i ++ (.slice Au na cu : Value) :: us.drop i).length = n + 1 := by
            rw [List.length_append, List.length_cons, List.length_take, List.length_drop, HUS.out]; omega
          rw [hl]
          exact HSR.out
        · rw [insA_len, HN.out, List.length_append, List.length_cons, List.length_take, List.length_drop, HUS.out]; omega
        · have hins : insA a st.1 = st.1.take i ++ a :: st.1.drop i := by rw [insA, HN.out, HPI.out]
          rw [hins]
          exact zip_ins HUL.out HAF.out.zip i (.slice Au na cu) a HAF.out.uo
        · rw [insA_len, HN.out]; omega
end Go.Proofs.YtiopgbbggeimaaaGreat
