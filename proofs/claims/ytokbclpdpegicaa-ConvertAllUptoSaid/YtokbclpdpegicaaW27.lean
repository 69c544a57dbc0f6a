/-
  slices.Values, AppendSeq, Collect, Sorted, Compact at texts.
-/
import Derived.Test.YtokbclpdpegicaaW26
import Derived.Sort.OwnSorted
import Derived.RangeFuncNested
import Derived.RangeFuncBound
import Derived.RangeFuncCalls
import Derived.RangeFuncLeaves
import Derived.Shelf.Abstract
import Derived.Shelf.RegionOpen
import Derived.OwnWalkIn
import Derived.TacticsInMore
import Derived.LoopNIn
import Derived.LoopIn
namespace Go.Proofs.Ytokbclpdpegicaa
open Go.ChangeShapes Go.WideShapes Go.ChangeAt Go.RowKit Go.Shelf
attribute [local go_sem] Oper.semAt_some
theorem zip_one (p : Tmp) (v : Value) (T : Array Value) : ((#[p].zip #[v]).foldl (fun t (p, v) => t.setIfInBounds p v) T) = T.setIfInBounds p v := by simp
theorem drop_take1 {l : List ByteArray} {k : Nat} {x : ByteArray} {r : List ByteArray} (h : l.drop k = x :: r) : l.take (k + 1) = l.take k ++ [x] := by
  have hk : k < l.length := by
    rcases Nat.lt_or_ge k l.length with h1 | h1
    · exact h1
    · rw [List.drop_of_length_le h1] at h; cases h
  rw [List.drop_eq_getElem_cons hk] at h
  rw [List.take_succ_eq_append_getElem hk, (List.cons.inj h).1]
set_option maxHeartbeats 1000000 in
set_option maxRecDepth 100000 in
theorem values1_in (n : Nat) (hn : 1 ≤ n) (l Bs n₀ : Nat) (A : Option Addr) (nn c : Nat) (zs : List ByteArray) (hlen : zs.length ≤ 1000000) (J Jx : List ByteArray → World → Prop) (w0 W : World)
    (hY : ∀ pre x W1, J pre W1 → pre.length < zs.length → YieldAt Fence.wide (n - 1) Try.prog l #[.string x] W1 fun e W' =>
      (e = .returned (.bool true) ∧ J (pre ++ [x]) W' ∧ Below n₀ W1 W') ∨ (e = .returned (.bool false) ∧ Jx (pre ++ [x]) W'))
    (hw0 : w0.heap.size ≤ n₀) (hWw : Below w0.heap.size w0 W) (hBs : Boxed W Bs 43 (.slice A nn c)) (hv : RdS w0 (.slice A nn c) zs) (h0 : J [] W) :
    CallsIn Fence.wide n Try.prog 50 #[.func (.yield l) #[] #[], .pointer (some ⟨Bs, 0, none⟩)] W fun e W' => (∃ v, e = .returned v) ∧
      ((∃ ys, ys = zs ∧ J ys W') ∨ (∃ pre, pre <+: zs ∧ Jx pre W')) := by
  obtain ⟨A', n', c', he, h1, h2, HN, HR⟩ := hv.op
  cases he
  have hnn : nn ≤ 1000000 := by rw [← HN.out]; exact hlen
  clear hv
  refine callsIn_of_wp Try.func50 rfl trivial ?_ rfl
  simp only [Try.ntmps50, List.size_toArray, List.length_cons, List.length_nil, Nat.reduceAdd, Nat.reduceSub, Array.replicate_succ, Array.replicate_zero, List.push_toArray, List.append_toArray, List.nil_append, List.cons_append]
  have cs := hBs.cell
  have ls := hBs.lt
  clear hBs
  gi_wp2
  gi_loopw [7] (fun i wr => ∃ k : Nat, k ≤ nn ∧ i = .int .i64 k ∧ Hid (J (zs.take k) wr) ∧ Hid (Below n₀ W wr)) (fun i _ => nn - (intOf i).toNat)
  case atStart => exact ⟨0, Nat.zero_le _, rfl, by rw [Hid, List.take_zero]; exact h0, Below.refl _ _⟩
  case round =>
    obtain ⟨k, hk, rfl, HJ, HB⟩ := hrel
    clear cs ls
    by_cases hlt : k < nn
    · obtain ⟨b, off, x, rfl, hb, hd, e0⟩ := (HR.out k hlt).below (hWw.trans (HB.out.mono hw0))
      have HT := Lib.hid (drop_take1 hd.out)
      obtain ⟨fn, tmps, assign, body, hy, hR⟩ := hY _ x wr HJ.out (by rw [List.length_take, HN.out]; omega)
      gi_wp2
      refine hR.mono ?_
      rintro e W3 (⟨rfl, hJ3, hk3⟩ | ⟨rfl, hJx3⟩)
      · have HJ3 : Hid (J (zs.take (k + 1)) W3) := by rw [Hid, HT.out]; exact hJ3
        have HB3 := Lib.hid (HB.out.trans hk3)
        clear hJ3 hk3 e0
        gi_wp2
        go_roundw
        case rel => exact ⟨k + 1, by omega, by go_num, HJ3.out, HB3.out⟩
        case measure => simp [intOf]; omega
      · have HJX := Lib.hid hJx3
        clear hJx3
        gi_wp2
        refine bodyPost_ret (results_none rfl _ _ _) rfl ?_
        exact ⟨⟨_, rfl⟩, .inr ⟨_, by rw [← HT.out]; exact List.take_prefix _ _, HJX.out⟩⟩
    · have HJ2 : Hid (J zs wr) := by have := HJ.out; rw [List.take_of_length_le (by rw [HN.out]; omega)] at this; exact this
      gi_wp2
      go_end0
      exact ⟨⟨_, rfl⟩, .inl ⟨_, rfl, HJ2.out⟩⟩
theorem values_any (A : Option Addr) (n c : Nat) (w : World) :
    Calls Try.prog 37 #[.slice A n c] w fun e w' => e = .returned (.func (.func 50) #[] #[.pointer (some ⟨w.heap.size, 0, none⟩)]) ∧ w' = w.alloc (.cells #[.slice A n c] 43) := by
  go_enter Try.func37, Try.ntmps37
  go_wp2_with fail
  go_ret
  exact ⟨rfl, rfl⟩
theorem values_stops (n : Nat) (hn : 1 ≤ n) (Bs n₀ : Nat) (A : Option Addr) (nn c : Nat) (zs : List ByteArray) (hlen : zs.length ≤ 1000000) (w0 w : World) (hw0 : w0.heap.size ≤ n₀) (hWw : Below w0.heap.size w0 w) (hBs : Boxed w Bs 43 (.slice A nn c)) (hv : RdS w0 (.slice A nn c) zs) :
    SeqStopsK Fence.wide n Try.prog 50 #[.pointer (some ⟨Bs, 0, none⟩)] (fun x : ByteArray => #[Value.string x]) (Below n₀) (fun ys => ys = zs) (fun pre => pre <+: zs) zs.length w :=
  fun l J Jx W hW _ _ hY h0 => values1_in n hn l Bs n₀ A nn c zs hlen J Jx w0 W hY hw0 (hWw.trans (hW.mono hWw.size)) ((hW.block _ hBs.lt).trans hBs) hv h0
set_option maxHeartbeats 4000000 in
set_option maxRecDepth 100000 in
theorem appendSeq_any (Bs : Nat) (A : Option Addr) (nn c : Nat) (zs : List ByteArray) (hlen : zs.length ≤ 100000) (w : World) (hBs : Boxed w Bs 43 (.slice A nn c)) (hv : RdS w (.slice A nn c) zs) :
    Calls Try.prog 60 #[.slice none 0 0, .func (.func 50) #[] #[.pointer (some ⟨Bs, 0, none⟩)]] w fun e w' => (∃ v', e = .returned v' ∧ OwnS w' w.heap.size v' zs) ∧ Below w.heap.size w w' := by
  have HV := Lib.hid hv
  clear hv
  refine (callsIn_wide (n := 3)).1 ?_
  refine callsIn_of_wp_marks Try.func60 rfl trivial ?_ rfl
  simp only [Try.ntmps60, List.size_toArray, List.length_cons, List.length_nil, Nat.reduceAdd, Nat.reduceSub, Array.replicate_succ, Array.replicate_zero, List.push_toArray, List.append_toArray, List.nil_append, List.cons_append]
  gi_wp2_with fail
  have b0 : Boxed (w.alloc (.cells #[.slice none 0 0] 43)) w.heap.size 43 (.slice none 0 0) := Boxed.new _ _ _
  have hb0 : Below w.heap.size w (w.alloc (.cells #[.slice none 0 0] 43)) := (Below.refl _ _).alloc (Nat.le_refl _) _
  have bs : Boxed (w.alloc (.cells #[.slice none 0 0] 43)) Bs 43 (.slice A nn c) := hBs.alloc _
  obtain ⟨i0, hi, hz0, hz1, hz2⟩ := info_parts infoT0
  clear hBs
  refine wpIn_rangeFunc_ownF (α := ByteArray) rfl (by omega) (gf := 50) (lb := #[.pointer (some ⟨Bs, 0, none⟩)]) rfl trivial (enters_of Try.func50 (by kernel_rfl) rfl)
    (values_stops 2 (by omega) Bs w.heap.size A nn c zs (by omega) w _ (Nat.le_refl _) hb0 bs HV.out) belowK_t (belowK_b (by simp)) (Below.refl _ _) (fun _ => rfl)
    (fun pre W => (∃ v, Boxed W w.heap.size 43 v ∧ W.ownsRow w.heap.size 9 1 v pre.length (pre.map Value.string) ∧ True) ∧ Below w.heap.size w W)
    (fun _ _ _ => False)
    (OwnFrom.and (Own.from (holdsRow_own w.heap.size w.heap.size 43 9 1 (fun pre : List ByteArray => pre.length) (fun pre => pre.map Value.string) (fun _ _ => True)) _) (ownFrom_below (Nat.le_refl _) (by simp)))
    (fun _ _ _ _ _ hs _ _ => hs)
    ⟨⟨_, b0, World.ownsRow_nil _ _ _ _, trivial⟩, hb0⟩
    (fun x => { tmps := #[.slice none 0 0, .func (.func 50) #[] #[.pointer (some ⟨Bs, 0, none⟩)], .pointer (some ⟨w.heap.size, 0, none⟩), undef, .slice none 0 0, .string x, .func (.func 50) #[] #[.pointer (some ⟨Bs, 0, none⟩)], .string x, undef, undef, undef, undef, undef], defers := [] })
    ?assign ?body ?done ?stop
  case assign =>
    intro l x W K hK
    have HK := Lib.hid hK
    clear hK
    rw [zip_one]
    simp only [List.setIfInBounds_toArray, List.set_cons_zero, List.set_cons_succ]
    gi_wp2
    exact HK.out
  case body =>
    rintro l pre x W ⟨⟨v, hv, hrow, _⟩, hB⟩ hlt
    have hvc := hv.cell
    have hle : w.heap.size ≤ w.heap.size := Nat.le_refl _
    have hpl : pre.length < 1000000 := by omega
    gi_wp2_with (gi_at_builtin; refine wpListIn_append_own _ rfl _ _ 43 rfl w.heap.size 9 i0 _ 1 16 Try.underlying43 hi hz0 hz1 hz2 rfl (by decide) _ _ _ rfl (hrow.alloc _) ⟨W.heap.size, 0, none⟩ 1 1 [.string x] rfl rfl (cell_one_new _ _ _) (by simp [Value.oneCell']) (by simp only [maxLen]; omega) (by omega) (by have := hB.size; simp; omega) ?_; intro v' w1 hown' hgrow _; obtain ⟨g', cap', rfl⟩ := ownsRow_succ hown'; obtain ⟨hv1, hv2, hr2, hk2, hb2⟩ := hv.appended (by decide) hrow hB.size hle hown' hgrow; have hc1 := hv1.cell; have hf1 := hv1.frozen)
    exact ⟨hk2, hb2, ⟨_, hv2, by simpa using hr2, trivial⟩, hB.trans hb2⟩
  case done =>
    rintro D ys W hD rfl ⟨⟨v, hv, hrow, _⟩, hB⟩ hK
    have hvc := hv.cell
    have HF := Lib.hid (ownsRow_putObj hrow (.deferred none) hK rfl)
    have HFIN : Hid (Below w.heap.size w (W.putObj D (.deferred none))) := hB.trans (belowK_b (w := w) (Nat.le_refl _) _ D _ _ (by simp at hD; omega) hK rfl rfl)
    have HK := Lib.hid hK
    clear hv hrow hB hK
    gi_wp2
    refine ⟨by simp, .inl ⟨_, _, rfl, run_takeDeferred HK.out, ?_⟩⟩
    exact ⟨_, results_tmp rfl _ _ _, ⟨v, rfl, HF.out⟩, HFIN.out⟩
  case stop =>
    rintro D c pre W _ _ h _
    exact h.elim
theorem collect_any (Bs : Nat) (A : Option Addr) (nn c : Nat) (zs : List ByteArray) (hlen : zs.length ≤ 100000) (w : World) (hBs : Boxed w Bs 43 (.slice A nn c)) (hv : RdS w (.slice A nn c) zs) :
    Calls Try.prog 48 #[.func (.func 50) #[] #[.pointer (some ⟨Bs, 0, none⟩)]] w fun e w' => (∃ v', e = .returned v' ∧ OwnS w' w.heap.size v' zs) ∧ Below w.heap.size w w' := by
  go_enter Try.func48, Try.ntmps48
  go_wp2_with fail
  refine (appendSeq_any Bs A nn c zs hlen w hBs hv).mono ?_
  rintro e w' ⟨⟨v', rfl, ho⟩, hb⟩
  have HO := Lib.hid ho
  have HB := Lib.hid hb
  clear ho hb
  go_wp2_with fail
  go_ret
  exact ⟨⟨_, rfl, HO.out⟩, HB.out⟩
/-- texts in bytewise order -/
def sortT (S : List ByteArray) : List ByteArray := ((S.map fun s => s.data.toList).mergeSort fun x y => decide (x ≤ y)).map fun l => ⟨l.toArray⟩
theorem map_str (S : List ByteArray) : S.map Value.string = (S.map fun s => s.data.toList).map encStr := by
  rw [List.map_map]
  apply List.map_congr_left
  intro s _
  simp only [Function.comp, encStr]
theorem sortT_str (S : List ByteArray) : (sortT S).map Value.string = ((S.map fun s => s.data.toList).mergeSort fun x y => decide (x ≤ y)).map encStr := by
  rw [sortT, List.map_map]
  rfl
theorem sortT_len (S : List ByteArray) : (sortT S).length = S.length := by simp [sortT]
theorem sort_ownS (v : Value) (S : List ByteArray) (base : Nat) (w : World) (h : OwnS w base v S) (hl : S.length ≤ 1000000) :
    Calls Try.prog 49 #[v] w fun e w' => e = .returned (.tuple #[]) ∧ OwnS w' base v (sortT S) ∧ w.grownBy w' v.ownBlock := by
  rcases h.2 with ⟨rfl, h0⟩ | ⟨g, cap, cur, rfl, hb, hg, h1, h2, h3, h4⟩
  · refine (slices_Sort_string_none none 0 w).mono ?_
    rintro e w' ⟨rfl, rfl⟩
    have : S = [] := List.eq_nil_of_length_eq_zero h0
    subst this
    exact ⟨rfl, by simpa [sortT] using h, World.grownBy.refl _ _⟩
  · have hm : (S.map fun s => s.data.toList).length = S.length := by simp
    have hH := holds_of_block (ss := S.map fun s => s.data.toList) hg (by rw [hm, ← map_str]; simpa using h4)
    have hblk : g < w.heap.size := (Array.getElem?_eq_some_iff.1 hg).1
    have hc := slices_Sort_string g 0 cap (S.map fun s => s.data.toList) w hH hblk (by rw [hm]; omega)
    rw [hm] at hc
    refine hc.mono ?_
    rintro e w' ⟨rfl, n, os, rfl⟩
    refine ⟨rfl, ?_, grownBy_sorted _⟩
    have := ownsRow_sorted (n := n) (os := os) (ss := S.map fun s => s.data.toList) (ts := (S.map fun s => s.data.toList).mergeSort fun x y => decide (x ≤ y)) (List.length_mergeSort _) hb hg (by rw [hm]; exact h1) h2 (by simpa using h3)
    rw [hm, ← sortT_str] at this
    unfold OwnS
    rw [sortT_len]
    exact this
theorem ssorted_any (Bs : Nat) (A : Option Addr) (nn c : Nat) (zs : List ByteArray) (hlen : zs.length ≤ 100000) (w : World) (hBs : Boxed w Bs 43 (.slice A nn c)) (hv : RdS w (.slice A nn c) zs) :
    Calls Try.prog 36 #[.func (.func 50) #[] #[.pointer (some ⟨Bs, 0, none⟩)]] w fun e w' => (∃ v', e = .returned v' ∧ OwnS w' w.heap.size v' (sortT zs)) ∧ Below w.heap.size w w' := by
  go_enter Try.func36, Try.ntmps36
  go_wp2_with fail
  refine (collect_any Bs A nn c zs hlen w hBs hv).mono ?_
  rintro e w1 ⟨⟨v', rfl, ho⟩, hb⟩
  have HO := Lib.hid ho
  have HB := Lib.hid hb
  obtain ⟨A1, n1, c1, rfl, _, _, _, _⟩ := ho.rd.op
  clear ho hb
  go_wp2_with fail
  refine (sort_ownS _ zs w.heap.size _ HO.out (by omega)).mono ?_
  rintro e w2 ⟨rfl, ho, hg⟩
  have HO2 := Lib.hid ho
  have HB2 : Hid (Below w.heap.size w w2) := below_grown HB.out (Nat.le_refl _) HO.out hg
  clear ho hg
  go_wp2_with fail
  go_ret
  exact ⟨⟨_, rfl, HO2.out⟩, HB2.out⟩
theorem StAt.two {w : World} {A : Option Addr} {xs : List ByteArray} {k : Nat} (h : StAt w A xs k) (h' : StAt w A xs (k + 1)) :
    ∃ b off x y, A = some ⟨b, off, none⟩ ∧ b < w.heap.size ∧ Hid (xs.drop k = x :: y :: xs.drop (k + 2)) ∧ w.cell? ⟨b, off + k, none⟩ = some (.string x) ∧ w.cell? ⟨b, off + (k + 1), none⟩ = some (.string y) := by
  obtain ⟨b, off, x, rfl, hl, hd, c0⟩ := h
  obtain ⟨b', off', y, e, hl', hd', c0'⟩ := h'
  cases e
  exact ⟨b, off, x, y, rfl, hl, hd.out.trans (by rw [hd'.out]), c0, c0'⟩
set_option maxHeartbeats 1000000 in
theorem compact_any (v : Value) (zs : List ByteArray) (hlen : zs.length ≤ 100000) (hup : zs.Pairwise (· ≠ ·)) (w : World) (hv : RdS w v zs) :
    Calls Try.prog 35 #[v] w fun e w' => e = .returned v ∧ ∃ q, w' = w.drewN q := by
  obtain ⟨A, n, c, rfl, h1, h2, HN, HR⟩ := hv.op
  have hn : n ≤ 100000 := by rw [← HN.out]; exact hlen
  have HUP := Lib.hid hup
  clear hv hup hlen
  by_cases h2 : n < 2
  · have hd : decide ((n : Int) < 2) = true := by simp; omega
    go_enter Try.func35, Try.ntmps35
    go_wp2_with fail
    go_ret
    exact ⟨rfl, 0, rfl⟩
  have hd : decide ((n : Int) < 2) = false := by simp; omega
  go_enter Try.func35, Try.ntmps35
  go_wp2_with fail
  go_loopw [3] (fun i wr => ∃ k q : Nat, k + 1 ≤ n ∧ i = .int .i64 (k + 1) ∧ Hid (wr = w.drewN q)) (fun i _ => n - (intOf i).toNat)
  case atStart => exact ⟨0, 0, by omega, rfl, rfl⟩
  case round =>
    obtain ⟨k, q, hk, rfl, HW⟩ := hrel
    obtain rfl := HW.out
    by_cases hlt : k + 1 < n
    · obtain ⟨b, off, x, y, rfl, hb, hdr, e0, e1⟩ := (HR.out k (by omega)).two (HR.out (k + 1) hlt)
      have hxy : (y.toList == x.toList) = false := by
        have hp : (x :: y :: zs.drop (k + 2)).Pairwise (· ≠ ·) := by rw [← hdr.out]; exact HUP.out.sublist (List.drop_sublist _ _)
        have := (List.pairwise_cons.1 hp).1 y (by simp)
        rw [bytes_beq]; simp only [decide_eq_false_iff_not]; exact fun h => this h.symm
      have hw1 : IntKind.i64.wrap ((k : Int) + 1 - 1) = (k : Int) := by rw [show (k : Int) + 1 - 1 = (k : Int) by omega]; exact IntWalk.i64_in _ (by omega)
      have hk0 : (0 : Int) ≤ (k : Int) := by omega
      go_wp2_with fail
      go_quiet (fail)
      clear hw1
      go_wp2_with fail
      go_roundw
      case rel => exact ⟨k + 1, _, by omega, by go_num, rfl⟩
      case measure => simp [intOf]; omega
    · go_wp2_with fail
      go_ret
      exact ⟨rfl, q, rfl⟩
theorem below_drew {w : World} (q : Nat) : Below w.heap.size w (w.drewN q) := below_drewN (Below.refl _ _) q
end Go.Proofs.Ytokbclpdpegicaa
