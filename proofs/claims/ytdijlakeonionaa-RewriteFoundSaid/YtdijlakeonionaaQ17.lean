/-
  num.Sorted at any list: slices.Values, AppendSeq, Collect, Sort, Compact; it is shorter than the list exactly if an element comes twice.
-/
import Derived.Test.YtdijlakeonionaaQ8
import Derived.RangeFuncBox
import Derived.RangeFuncNested
import Derived.RangeFuncBound
import Derived.RangeFuncCalls
import Derived.RangeFuncLeaves
import Derived.Shelf.Abstract
import Derived.Shelf.RegionOpen
import Derived.OwnWalkIn
import Derived.TacticsInMore
import Derived.LoopNIn
import Derived.LoopIn
import Derived.OrdersIn
namespace Go.Proofs.Ytdijlakeonionaa
open Go.ChangeShapes Go.WideShapes Go.ChangeAt Go.RowKit Go.Shelf Go.Sort
attribute [local go_sem] Oper.semAt_some
theorem zip_one (p : Tmp) (v : Value) (T : Array Value) : ((#[p].zip #[v]).foldl (fun t (p, v) => t.setIfInBounds p v) T) = T.setIfInBounds p v := by simp
theorem sort_own (v : Value) (l : List Int) (base : Nat) (w : World) (h : OwnI w base v l) (hl : l.length ≤ 1000000) :
    Calls Try.prog 80 #[v] w fun e w' => e = .returned (.tuple #[]) ∧ OwnI w' base v (l.mergeSort fun x y => decide (x ≤ y)) ∧ w.grownBy w' v.ownBlock := by
  rcases h.2 with ⟨rfl, h0⟩ | ⟨g, cap, cur, rfl, hb, hg, h1, h2, h3, h4⟩
  · refine (slices_Sort_int_none none 0 w).mono ?_
    rintro e w' ⟨rfl, rfl⟩
    have : l = [] := List.eq_nil_of_length_eq_zero h0
    subst this
    exact ⟨rfl, by simpa using h, World.grownBy.refl _ _⟩
  · have hH := holds_of_blockI hg (by simpa using h4)
    have hblk : g < w.heap.size := (Array.getElem?_eq_some_iff.1 hg).1
    refine (slices_Sort_int g 0 cap l w hH hblk (by omega)).mono ?_
    rintro e w' ⟨rfl, n, os, rfl⟩
    have hm : (l.mergeSort fun x y => decide (x ≤ y)).length = l.length := List.length_mergeSort l
    refine ⟨rfl, ?_, grownBy_sortedI _⟩
    have := ownsRow_sortedI (n := n) (os := os) (ts := l.mergeSort fun x y => decide (x ≤ y)) hm hb hg h1 h2 (by simpa using h3)
    unfold OwnI
    rw [hm]
    exact this
theorem drop_take1 {l : List Int} {k : Nat} {x : Int} {r : List Int} (h : l.drop k = x :: r) : l.take (k + 1) = l.take k ++ [x] := by
  have hk : k < l.length := by
    rcases Nat.lt_or_ge k l.length with h1 | h1
    · exact h1
    · rw [List.drop_of_length_le h1] at h; cases h
  rw [List.drop_eq_getElem_cons hk] at h
  rw [List.take_succ_eq_append_getElem hk, (List.cons.inj h).1]
set_option maxHeartbeats 1000000 in
set_option maxRecDepth 100000 in
theorem values1_in (n : Nat) (hn : 1 ≤ n) (l Bs n₀ : Nat) (A : Option Addr) (nn c : Nat) (zs : List Int) (hlen : zs.length ≤ 1000000) (J Jx : List Int → World → Prop) (w0 W : World)
    (hY : ∀ pre x W1, J pre W1 → pre.length < zs.length → YieldAt Fence.wide (n - 1) Try.prog l #[.int .i64 x] W1 fun e W' =>
      (e = .returned (.bool true) ∧ J (pre ++ [x]) W' ∧ Below n₀ W1 W') ∨ (e = .returned (.bool false) ∧ Jx (pre ++ [x]) W'))
    (hw0 : w0.heap.size ≤ n₀) (hWw : Below w0.heap.size w0 W) (hBs : Boxed W Bs 25 (.slice A nn c)) (hv : RdI w0 (.slice A nn c) zs) (h0 : J [] W) :
    CallsIn Fence.wide n Try.prog 81 #[.func (.yield l) #[] #[], .pointer (some ⟨Bs, 0, none⟩)] W fun e W' => (∃ v, e = .returned v) ∧
      ((∃ ys, ys = zs ∧ J ys W') ∨ (∃ pre, pre <+: zs ∧ Jx pre W')) := by
  obtain ⟨A', n', c', he, h1, h2, HN, HR⟩ := hv.op
  cases he
  have hnn : nn ≤ 1000000 := by rw [← HN.out]; exact hlen
  clear hv
  refine callsIn_of_wp Try.func81 rfl trivial ?_ rfl
  simp only [Try.ntmps81, List.size_toArray, List.length_cons, List.length_nil, Nat.reduceAdd, Nat.reduceSub, Array.replicate_succ, Array.replicate_zero, List.push_toArray, List.append_toArray, List.nil_append, List.cons_append]
  have cs := hBs.cell
  have ls := hBs.lt
  clear hBs
  gi_wp2
  gi_loopw [7] (fun i wr => ∃ k : Nat, k ≤ nn ∧ i = .int .i64 k ∧ Hid (J (zs.take k) wr) ∧ Hid (Below n₀ W wr)) (fun i _ => nn - (intOf i).toNat)
  case atStart => exact ⟨0, Nat.zero_le _, rfl, by rw [Hid, List.take_zero]; exact h0, Below.refl _ _⟩
  case round =>
    obtain ⟨k, hk, rfl, HJ, HB⟩ := hrel
    clear cs ls
    by_cases hlt : k < nn
    · obtain ⟨b, off, x, rfl, hb, hd, e0⟩ := (HR.out k hlt).below (hWw.trans (HB.out.mono hw0))
      have HT := Lib.hid (drop_take1 hd.out)
      obtain ⟨fn, tmps, assign, body, hy, hR⟩ := hY _ x wr HJ.out (by rw [List.length_take, HN.out]; omega)
      gi_wp2
      refine hR.mono ?_
      rintro e W3 (⟨rfl, hJ3, hk3⟩ | ⟨rfl, hJx3⟩)
      · have HJ3 : Hid (J (zs.take (k + 1)) W3) := by rw [Hid, HT.out]; exact hJ3
        have HB3 := Lib.hid (HB.out.trans hk3)
        clear hJ3 hk3 e0
        gi_wp2
        go_roundw
        case rel => exact ⟨k + 1, by omega, by go_num, HJ3.out, HB3.out⟩
        case measure => simp [intOf]; omega
      · have HJX := Lib.hid hJx3
        clear hJx3
        gi_wp2
        refine bodyPost_ret (results_none rfl _ _ _) rfl ?_
        exact ⟨⟨_, rfl⟩, .inr ⟨_, by rw [← HT.out]; exact List.take_prefix _ _, HJX.out⟩⟩
    · have HJ2 : Hid (J zs wr) := by have := HJ.out; rw [List.take_of_length_le (by rw [HN.out]; omega)] at this; exact this
      gi_wp2
      go_end0
      exact ⟨⟨_, rfl⟩, .inl ⟨_, rfl, HJ2.out⟩⟩
theorem values_any (A : Option Addr) (n c : Nat) (w : World) :
    Calls Try.prog 61 #[.slice A n c] w fun e w' => e = .returned (.func (.func 81) #[] #[.pointer (some ⟨w.heap.size, 0, none⟩)]) ∧ w' = w.alloc (.cells #[.slice A n c] 25) := by
  go_enter Try.func61, Try.ntmps61
  go_wp2_with fail
  go_ret
  exact ⟨rfl, rfl⟩
theorem values_stops (n : Nat) (hn : 1 ≤ n) (Bs n₀ : Nat) (A : Option Addr) (nn c : Nat) (zs : List Int) (hlen : zs.length ≤ 1000000) (w0 w : World) (hw0 : w0.heap.size ≤ n₀) (hWw : Below w0.heap.size w0 w) (hBs : Boxed w Bs 25 (.slice A nn c)) (hv : RdI w0 (.slice A nn c) zs) :
    SeqStopsK Fence.wide n Try.prog 81 #[.pointer (some ⟨Bs, 0, none⟩)] (fun x : Int => #[Value.int .i64 x]) (Below n₀) (fun ys => ys = zs) (fun pre => pre <+: zs) zs.length w :=
  fun l J Jx W hW _ _ hY h0 => values1_in n hn l Bs n₀ A nn c zs hlen J Jx w0 W hY hw0 (hWw.trans (hW.mono hWw.size)) ((hW.block _ hBs.lt).trans hBs) hv h0
set_option maxHeartbeats 4000000 in
set_option maxRecDepth 100000 in
theorem appendSeq_any (Bs : Nat) (A : Option Addr) (nn c : Nat) (zs : List Int) (hlen : zs.length ≤ 100000) (w : World) (hBs : Boxed w Bs 25 (.slice A nn c)) (hv : RdI w (.slice A nn c) zs) :
    Calls Try.prog 89 #[.slice none 0 0, .func (.func 81) #[] #[.pointer (some ⟨Bs, 0, none⟩)]] w fun e w' => (∃ v', e = .returned v' ∧ OwnI w' w.heap.size v' zs) ∧ Below w.heap.size w w' := by
  have HV := Lib.hid hv
  clear hv
  refine (callsIn_wide (n := 3)).1 ?_
  refine callsIn_of_wp_marks Try.func89 rfl trivial ?_ rfl
  simp only [Try.ntmps89, List.size_toArray, List.length_cons, List.length_nil, Nat.reduceAdd, Nat.reduceSub, Array.replicate_succ, Array.replicate_zero, List.push_toArray, List.append_toArray, List.nil_append, List.cons_append]
  gi_wp2_with fail
  have b0 : Boxed (w.alloc (.cells #[.slice none 0 0] 25)) w.heap.size 25 (.slice none 0 0) := Boxed.new _ _ _
  have hb0 : Below w.heap.size w (w.alloc (.cells #[.slice none 0 0] 25)) := (Below.refl _ _).alloc (Nat.le_refl _) _
  have bs : Boxed (w.alloc (.cells #[.slice none 0 0] 25)) Bs 25 (.slice A nn c) := hBs.alloc _
  obtain ⟨i0, hi, hz0, hz1, hz2⟩ := info_parts infoI0
  clear hBs
  refine wpIn_rangeFunc_ownF (α := Int) rfl (by omega) (gf := 81) (lb := #[.pointer (some ⟨Bs, 0, none⟩)]) rfl trivial (enters_of Try.func81 (by kernel_rfl) rfl)
    (values_stops 2 (by omega) Bs w.heap.size A nn c zs (by omega) w _ (Nat.le_refl _) hb0 bs HV.out) belowK_t (belowK_b (by simp)) (Below.refl _ _) (fun _ => rfl)
    (fun pre W => (∃ v, Boxed W w.heap.size 25 v ∧ W.ownsRow w.heap.size 3 1 v pre.length (pre.map (Value.int .i64)) ∧ True) ∧ Below w.heap.size w W)
    (fun _ _ _ => False)
    (OwnFrom.and (Own.from (holdsRow_own w.heap.size w.heap.size 25 3 1 (fun pre : List Int => pre.length) (fun pre => pre.map (Value.int .i64)) (fun _ _ => True)) _) (ownFrom_below (Nat.le_refl _) (by simp)))
    (fun _ _ _ _ _ hs _ _ => hs)
    ⟨⟨_, b0, World.ownsRow_nil _ _ _ _, trivial⟩, hb0⟩
    (fun x => { tmps := #[.slice none 0 0, .func (.func 81) #[] #[.pointer (some ⟨Bs, 0, none⟩)], .pointer (some ⟨w.heap.size, 0, none⟩), undef, .slice none 0 0, .int .i64 x, .func (.func 81) #[] #[.pointer (some ⟨Bs, 0, none⟩)], .int .i64 x, undef, undef, undef, undef, undef], defers := [] })
    ?assign ?body ?done ?stop
  case assign =>
    intro l x W K hK
    have HK := Lib.hid hK
    clear hK
    rw [zip_one]
    simp only [List.setIfInBounds_toArray, List.set_cons_zero, List.set_cons_succ]
    gi_wp2
    exact HK.out
  case body =>
    rintro l pre x W ⟨⟨v, hv, hrow, _⟩, hB⟩ hlt
    have hvc := hv.cell
    have hle : w.heap.size ≤ w.heap.size := Nat.le_refl _
    have hpl : pre.length < 1000000 := by omega
    gi_wp2_with (gi_at_builtin; refine wpListIn_append_own _ rfl _ _ 25 rfl w.heap.size 3 i0 _ 1 8 Try.underlying25 hi hz0 hz1 hz2 rfl (by decide) _ _ _ rfl (hrow.alloc _) ⟨W.heap.size, 0, none⟩ 1 1 [.int .i64 x] rfl rfl (cell_one_new _ _ _) (by simp [Value.oneCell']) (by simp only [maxLen]; omega) (by omega) (by have := hB.size; simp; omega) ?_; intro v' w1 hown' hgrow _; obtain ⟨g', cap', rfl⟩ := ownsRow_succ hown'; obtain ⟨hv1, hv2, hr2, hk2, hb2⟩ := hv.appended (by decide) hrow hB.size hle hown' hgrow; have hc1 := hv1.cell; have hf1 := hv1.frozen)
    exact ⟨hk2, hb2, ⟨_, hv2, by simpa using hr2, trivial⟩, hB.trans hb2⟩
  case done =>
    rintro D ys W hD rfl ⟨⟨v, hv, hrow, _⟩, hB⟩ hK
    have hvc := hv.cell
    have HF := Lib.hid (ownsRow_putObj hrow (.deferred none) hK rfl)
    have HFIN : Hid (Below w.heap.size w (W.putObj D (.deferred none))) := hB.trans (belowK_b (w := w) (Nat.le_refl _) _ D _ _ (by simp at hD; omega) hK rfl rfl)
    have HK := Lib.hid hK
    clear hv hrow hB hK
    gi_wp2
    refine ⟨by simp, .inl ⟨_, _, rfl, run_takeDeferred HK.out, ?_⟩⟩
    exact ⟨_, results_tmp rfl _ _ _, ⟨v, rfl, HF.out⟩, HFIN.out⟩
  case stop =>
    rintro D c pre W _ _ h _
    exact h.elim
theorem collect_any (Bs : Nat) (A : Option Addr) (nn c : Nat) (zs : List Int) (hlen : zs.length ≤ 100000) (w : World) (hBs : Boxed w Bs 25 (.slice A nn c)) (hv : RdI w (.slice A nn c) zs) :
    Calls Try.prog 79 #[.func (.func 81) #[] #[.pointer (some ⟨Bs, 0, none⟩)]] w fun e w' => (∃ v', e = .returned v' ∧ OwnI w' w.heap.size v' zs) ∧ Below w.heap.size w w' := by
  go_enter Try.func79, Try.ntmps79
  go_wp2_with fail
  refine (appendSeq_any Bs A nn c zs hlen w hBs hv).mono ?_
  rintro e w' ⟨⟨v', rfl, ho⟩, hb⟩
  have HO := Lib.hid ho
  have HB := Lib.hid hb
  clear ho hb
  go_wp2_with fail
  go_ret
  exact ⟨⟨_, rfl, HO.out⟩, HB.out⟩

theorem ssorted_any (Bs : Nat) (A : Option Addr) (nn c : Nat) (zs : List Int) (hlen : zs.length ≤ 100000) (w : World) (hBs : Boxed w Bs 25 (.slice A nn c)) (hv : RdI w (.slice A nn c) zs) :
    Calls Try.prog 60 #[.func (.func 81) #[] #[.pointer (some ⟨Bs, 0, none⟩)]] w fun e w' => (∃ v', e = .returned v' ∧ OwnI w' w.heap.size v' (zs.mergeSort fun x y => decide (x ≤ y))) ∧ Below w.heap.size w w' := by
  go_enter Try.func60, Try.ntmps60
  go_wp2_with fail
  refine (collect_any Bs A nn c zs hlen w hBs hv).mono ?_
  rintro e w1 ⟨⟨v', rfl, ho⟩, hb⟩
  have HO := Lib.hid ho
  have HB := Lib.hid hb
  obtain ⟨A1, n1, c1, rfl, _, _, _, _⟩ := ho.rd.op
  clear ho hb
  go_wp2_with fail
  refine (sort_own _ zs w.heap.size _ HO.out (by omega)).mono ?_
  rintro e w2 ⟨rfl, ho, hg⟩
  have HO2 := Lib.hid ho
  have HB2 : Hid (Below w.heap.size w w2) := below_grown HB.out (Nat.le_refl _) HO.out hg
  clear ho hg
  go_wp2_with fail
  go_ret
  exact ⟨⟨_, rfl, HO2.out⟩, HB2.out⟩
theorem compact_len (zs : List Int) (h : zs.Pairwise (· ≤ ·)) : (Lib.compact zs).length < zs.length ↔ ¬ zs.Nodup := by
  have hle : ∀ (p : Nat → Bool) (n : Nat), ((List.range n).filter p).length = n ↔ ∀ j, j < n → p j = true := by
    intro p n
    have := List.length_filter_eq_length_iff (p := p) (l := List.range n)
    rw [List.length_range] at this
    rw [this]
    simp
  have hl : (Lib.compact zs).length = ((List.range zs.length).filter (Lib.keeps zs.toArray)).length := by simp [Lib.compact, Lib.compactUpTo]
  have hlt : (Lib.compact zs).length ≤ zs.length := by
    rw [hl]; exact Nat.le_trans (List.length_filter_le _ _) (by simp)
  have key : (Lib.compact zs).length = zs.length ↔ zs.Nodup := by
    rw [hl, hle]
    have hg : ∀ j, (hj : j < zs.length) → zs.toArray[j]! = zs[j] := fun j hj => by simp [hj]
    constructor
    · intro hk
      show zs.Pairwise (· ≠ ·)
      rw [List.pairwise_iff_getElem]
      intro i j hi hj hij he
      have hk' := hk j hj
      have h1 : zs[i] ≤ zs[j - 1]'(by omega) := by
        rcases Nat.lt_or_ge i (j - 1) with h1 | h1
        · exact List.pairwise_iff_getElem.1 h i (j - 1) hi (by omega) h1
        · have : i = j - 1 := by omega
          subst this; exact Int.le_refl _
      have h2 : zs[j - 1]'(by omega) ≤ zs[j] := List.pairwise_iff_getElem.1 h (j - 1) j (by omega) hj (by omega)
      have hne : zs[j] = zs[j - 1]'(by omega) := by omega
      rw [Lib.keeps_neg (by omega) (by rw [hg j hj, hg (j - 1) (by omega), hne])] at hk'
      cases hk'
    · intro hn j hj
      by_cases h0 : j = 0
      · subst h0; exact Lib.keeps_lt_one _ 0 (by omega)
      · refine Lib.keeps_pos ?_
        rw [hg j hj, hg (j - 1) (by omega)]
        exact fun he => List.pairwise_iff_getElem.1 hn (j - 1) j (by omega) hj (by omega) he.symm
  rw [← key]; omega
set_option maxRecDepth 100000 in
theorem compact_any (v : Value) (l : List Int) (base : Nat) (w : World) (h : OwnI w base v l) (hl : l.length ≤ 1000000) :
    Calls Try.prog 59 #[v] w fun e w' => (∃ A c, e = .returned (.slice A (Lib.compact l).length c)) ∧ w.grownBy w' v.ownBlock := by
  rcases h.2 with ⟨rfl, h0⟩ | ⟨g, cap, cur, rfl, hb, hg, h1, h2, h3, h4⟩
  · have : l = [] := List.eq_nil_of_length_eq_zero h0
    subst this
    refine (slices_Compact_int_empty none 0 w).mono ?_
    rintro e w' ⟨rfl, rfl⟩
    exact ⟨⟨_, _, rfl⟩, World.grownBy.refl _ _⟩
  · have hH := holds_of_blockI hg (by simpa using h4)
    refine (slices_Compact_int g 0 cap l w hH (by omega) (by simpa using h1)).mono ?_
    rintro e w' ⟨rfl, n, rfl⟩
    refine ⟨⟨_, _, rfl⟩, ?_⟩
    have := grownBy_sortedI (w := w) (g := g) (n := n) (os := #[]) (Lib.compact l ++ List.replicate (l.length - (Lib.compact l).length) 0).toArray
    have e0 : ∀ W : World, grow W #[] = W := fun W => by cases W; simp [grow]
    rwa [e0] at this
set_option maxHeartbeats 1000000 in
theorem nsorted_any (v : Value) (l : List Int) (w : World) (hv : RdI w v l) (hl : l.length ≤ 100000) :
    Calls Try.prog 41 #[v] w fun e w' => (∃ A n c, e = .returned (.slice A n c) ∧ (n < l.length ↔ ¬ l.Nodup)) ∧ Below w.heap.size w w' := by
  obtain ⟨A, n, c, rfl, _, _, HN, _⟩ := hv.op
  have HV := Lib.hid hv
  have HL := Lib.hid hl
  clear hv hl
  go_enter Try.func41, Try.ntmps41
  go_wp2_with fail
  refine (values_any A n c w).mono ?_
  rintro e w1 ⟨rfl, rfl⟩
  go_wp2_with fail
  refine (ssorted_any w.heap.size A n c l HL.out _ (Boxed.new _ _ _) (HV.out.alloc _)).mono ?_
  rintro e w2 ⟨⟨v2, rfl, ho⟩, hb⟩
  have HB2 : Hid (Below w.heap.size w w2) := bchain (al_below _ _) hb
  have hml : (l.mergeSort fun x y => decide (x ≤ y)).length ≤ 1000000 := by rw [List.length_mergeSort]; have := HL.out; omega
  have HN3 := compact_len (l.mergeSort fun x y => decide (x ≤ y)) (by
    have := List.pairwise_mergeSort (le := fun (x y : Int) => decide (x ≤ y)) (fun a b c h1 h2 => by simp at *; omega) (fun a b => by simp; omega) l
    exact this.imp fun h => by simpa using h)
  rw [List.length_mergeSort, (List.mergeSort_perm l _).nodup_iff] at HN3
  generalize (l.mergeSort fun x y => decide (x ≤ y)) = m at ho hml HN3
  have HN4 := Lib.hid HN3
  have HO2 := Lib.hid ho
  have HM2 := Lib.hid hml
  obtain ⟨_, A2, c2, rfl⟩ := own_slice ho
  clear ho hb HN3 hml
  go_wp2_with fail
  refine (compact_any _ _ _ _ HO2.out HM2.out).mono ?_
  rintro e w3 ⟨⟨A3, c3, rfl⟩, hg⟩
  have HB3 : Hid (Below w.heap.size w w3) := below_grown HB2.out (by simp) HO2.out hg
  clear hg
  go_wp2_with fail
  go_ret
  exact ⟨⟨_, _, _, rfl, HN4.out⟩, HB3.out⟩
end Go.Proofs.Ytdijlakeonionaa
