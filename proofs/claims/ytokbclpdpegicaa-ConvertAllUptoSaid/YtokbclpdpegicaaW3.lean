/-
  Points, Label and Name of the references: each returns.
-/
import Derived.Test.YtokbclpdpegicaaW2
namespace Go.Proofs.Ytokbclpdpegicaa
open Go.ChangeShapes Go.WideShapes Go.ChangeAt Go.RowKit
theorem wpList_app_int2 {ops : Array Oper} {rest : List Oper} {o : Oper} {a : Act} {Q : Exit → Act → World → Prop} {w : World} (hgd : o.guard = none) (s x : Operand)
    (ho : o.op = .call { callee := .builtin .append, args := #[s, x], argTypes := #[39, 39] })
    (base : Nat) (v : Value) (l : List Int) (hs : a.eval s = v) (hown : OwnI w base v l) (x0 : Int) (m : Nat) (hm : Hid (l.length = m)) (hl : m ≤ 200000000) (hbase : base ≤ w.heap.size)
    (hx : a.eval x = .slice (some ⟨w.heap.size, 0, none⟩) 1 1)
    (h : ∀ g' cap w', OwnI w' base (.slice (some ⟨g', 0, none⟩) (m + 1) cap) (l ++ [x0]) → base ≤ g' → w.grownBy w' v.ownBlock → wpList Try.prog ops Q rest (a.put o.dst (.slice (some ⟨g', 0, none⟩) (m + 1) cap)) w') :
    wpList Try.prog ops Q (o :: rest) a (w.alloc (.cells #[.int .i64 x0] 3)) := by
  obtain rfl := hm.out
  obtain ⟨i0, hi, hz0, hz1, hz2⟩ := info_parts infoI0
  refine wpList_append_own _ hgd s x 39 ho base 3 i0 _ 1 8 Try.underlying39 hi hz0 hz1 hz2 rfl (by decide) v l.length (l.map (Value.int .i64)) hs (World.ownsRow.alloc hown _) ⟨w.heap.size, 0, none⟩ 1 1
    [.int .i64 x0] hx rfl ?_ ?_ (by simp only [maxLen]; omega) (by omega) (by simp; omega) ?_
  · intro j u hu
    match j, hu with
    | 0, hu => simp at hu; subst hu; simp [go_sem, Addr.add]
  · intro u hu
    simp at hu
    subst hu
    rfl
  · intro v' w' h1 h2 _
    obtain ⟨g', cap, rfl, hg1, hg2⟩ := h1.form (by omega)
    refine h g' cap w' ?_ hg1 ?_
    · unfold OwnI
      rw [List.map_append, List.length_append]
      exact h1
    · exact ⟨h2.os, h2.tape, h2.output, Nat.le_trans (by simp) h2.size, fun k hk hne => (h2.block k (by simp; omega) hne).trans (Below.heap_alloc w _ k hk)⟩
/-- what Points returns -/
def PtsQ (e : Ending) : Prop := ∃ v b, e = .returned (.tuple #[v, .bool b])
theorem PtsQ.mk (v : Value) (b : Bool) : PtsQ (.returned (.tuple #[v, .bool b])) := ⟨v, b, rfl⟩
set_option maxHeartbeats 4000000 in
set_option maxRecDepth 100000 in
theorem points_any (s : ByteArray) (w : World) (hs : s.size ≤ 1048576) : Calls Try.prog 63 #[.string s] w fun e w' => PtsQ e ∧ Below w.heap.size w w' := by
  go_enter Try.func63, Try.ntmps63
  go_wp2_with fail
  go_loopw [4, 5] (fun v i wr => ∃ (k : Nat) (l : List Int), k ≤ s.size ∧ i = .int .i64 k ∧ Hid (l.length ≤ k) ∧ Hid (OwnI wr w.heap.size v l) ∧ Hid (Below w.heap.size w wr)) (fun _ i _ => s.size - (intOf i).toNat)
  case atStart => exact ⟨0, [], Nat.zero_le _, rfl, Nat.le_refl _, World.ownsRow_nil _ _ _ _, Below.refl _ _⟩
  case round =>
    obtain ⟨k, l, hk, rfl, HL, HO, HB⟩ := hrel
    obtain ⟨A, n, c, rfl, _, _, HN, _⟩ := HO.out.rd.op
    by_cases hlt : k < s.size
    · go_wp2_with fail
      refine (first_any s k _ hs hlt).mono ?_
      rintro e w2 ⟨⟨p, j, rfl, hj⟩, hb⟩
      have HB2 := Lib.hid (bchain HB.out hb)
      have HO2 : Hid (OwnI w2 w.heap.size (.slice A n c) l) := own_below HO.out hb
      have hbl : w.heap.size ≤ w2.heap.size := HB2.out.size
      clear hb
      by_cases hj0 : j = 0
      · subst hj0
        clear hj
        go_wp2_with fail
        go_ret2
        exact ⟨PtsQ.mk _ _, HB2.out⟩
      · have hd : ((j : Int) == 0) = false := by simp; omega
        have hj2 := hj (by omega)
        have hn : n ≤ 200000000 := by have := HL.out; have := HN.out; omega
        clear hj
        go_wp2_with (at_builtin; refine wpList_app_int2 rfl (.tmp 20) (.tmp 22) rfl w.heap.size (.slice A n c) l rfl HO2.out p n HN hn hbl rfl ?_; intro g' cap' w5 ho hge hg)
        have HO5 := Lib.hid ho
        have HG5 := Lib.hid hg
        clear ho hg
        go_roundw
        case rel => exact ⟨k + j, l ++ [p], by omega, by go_num, by rw [Hid, List.length_append]; have := HL.out; simp; omega, HO5.out, HB2.out.grown HG5.out HB2.out.size (fun j hj => (World.ownsRow.lt HO2.out j hj).1)⟩
        case measure => simp [intOf]; omega
    · go_wp2_with fail
      go_ret2
      exact ⟨PtsQ.mk _ _, HB.out⟩
/-- Label is true of no empty text -/
def LabQ (s : ByteArray) (b : Bool) : Prop := b = true → 0 < s.size
set_option maxHeartbeats 4000000 in
set_option maxRecDepth 100000 in
theorem label_any (s : ByteArray) (w : World) (hs : s.size ≤ 1048576) : Calls Try.prog 51 #[.string s] w fun e w' => RetB (LabQ s) e ∧ Below w.heap.size w w' := by
  go_enter Try.func51, Try.ntmps51
  go_wp2_with fail
  go_loop [3] (fun i => ∃ k : Nat, k ≤ s.size ∧ i = .int .i64 k) (fun i => s.size - (intOf i).toNat)
  case atStart => exact ⟨0, Nat.zero_le _, rfl⟩
  case round =>
    obtain ⟨k, hk, rfl⟩ := hrel
    by_cases hlt : k < s.size
    · cases hd : decide ((((s[k]'hlt).toNat : Nat) : Int) < 32)
      · cases hd2 : ((((s[k]'hlt).toNat : Nat) : Int) == 127)
        · go_wp2_with fail
          go_round
          case rel => exact ⟨k + 1, by omega, by go_num⟩
          case measure => simp [intOf]; omega
        · go_wp2_with fail
          go_ret
          exact ⟨RetB.mk (b := false) (by simp [LabQ]), Below.refl _ _⟩
      · go_wp2_with fail
        go_ret
        exact ⟨RetB.mk (b := false) (by simp [LabQ]), Below.refl _ _⟩
    · go_wp2_with fail
      refine (points_any s _ hs).mono ?_
      rintro e w2 ⟨⟨v, b, rfl⟩, hb⟩
      cases b
      · go_wp2_with fail
        go_ret
        exact ⟨RetB.mk (b := false) (by simp [LabQ]), hb⟩
      · by_cases h1 : 1 ≤ s.size
        · have d1 : decide ((1 : Int) ≤ (s.size : Int)) = true := by simp; omega
          go_wp2_with fail
          go_ret
          exact ⟨RetB.mk (fun _ => h1), hb⟩
        · have d1 : decide ((1 : Int) ≤ (s.size : Int)) = false := by simp; omega
          go_wp2_with fail
          go_ret
          exact ⟨RetB.mk (b := false) (by simp [LabQ]), hb⟩
end Go.Proofs.Ytokbclpdpegicaa
