/-
  The part of older texts that this seat needs (printed by shake.py): Own W1 W2 W3 W5 W6
-/
import Derived.Test.YtdijlakeonionaaZ7
import Derived.Test.YtdijlakeonionaaZ1
import Derived.Lib.AppendZeros
import Derived.Laws.OwnMore
/-
  Rows of the call's own: ints, bools; appending.
-/
namespace Go.Proofs.Ytdijlakeonionaa
open Go.ChangeShapes Go.WideShapes Go.ChangeAt Go.RowKit
section
variable {w w1 : World} {base : Nat}
end
section
variable {P : Program} (w : World)
end
end Go.Proofs.Ytdijlakeonionaa

/-
  Points of a text: Scalar, encoded, first of the reference of runes.
-/
namespace Go.Proofs.Ytdijlakeonionaa
open Go.ChangeShapes Go.WideShapes Go.ChangeAt Go.RowKit
/-- the call returns a bool of which Q holds -/
def RetB (Q : Bool → Prop) (e : Ending) : Prop := ∃ b, e = .returned (.bool b) ∧ Q b
theorem RetB.mk {Q : Bool → Prop} {b : Bool} (h : Q b) : RetB Q (.returned (.bool b)) := ⟨b, rfl, h⟩
/-- the call returns a text of which Q holds -/
def RetS (Q : ByteArray → Prop) (e : Ending) : Prop := ∃ s, e = .returned (.string s) ∧ Q s
theorem RetS.mk {Q : ByteArray → Prop} {s : ByteArray} (h : Q s) : RetS Q (.returned (.string s)) := ⟨s, rfl, h⟩
def ScQ (p : Int) (b : Bool) : Prop := b = true → 0 ≤ p ∧ p ≤ 1114111
set_option maxHeartbeats 1000000 in
theorem scalar_any (p : Int) (w : World) : Calls Try.prog 93 #[.int .i64 p] w fun e w' => RetB (ScQ p) e ∧ w = w' := by
  by_cases h0 : 0 ≤ p
  rotate_left
  · have d0 : decide (0 ≤ p) = false := by simpa using h0
    go_enter Try.func93, Try.ntmps93
    go_wp2_with fail
    go_ret
    exact ⟨RetB.mk (b := false) (by simp [ScQ]), rfl⟩
  by_cases h1 : p ≤ 1114111
  rotate_left
  · have d1 : decide (p ≤ 1114111) = false := by simpa using h1
    have d0 : decide (0 ≤ p) = true := by simpa using h0
    go_enter Try.func93, Try.ntmps93
    go_wp2_with fail
    go_ret
    exact ⟨RetB.mk (b := false) (by simp [ScQ]), rfl⟩
  have d1 : decide (p ≤ 1114111) = true := by simpa using h1
  have d0 : decide (0 ≤ p) = true := by simpa using h0
  by_cases h2 : p < 55296
  · have d2 : decide (p < 55296) = true := by simpa using h2
    go_enter Try.func93, Try.ntmps93
    go_wp2_with fail
    go_ret
    exact ⟨RetB.mk fun _ => ⟨h0, h1⟩, rfl⟩
  have d2 : decide (p < 55296) = false := by simpa using h2
  go_enter Try.func93, Try.ntmps93
  go_wp2_with fail
  go_ret
  exact ⟨RetB.mk fun _ => ⟨h0, h1⟩, rfl⟩
def bs (l : List Int) : ByteArray := ⟨(l.map fun x => UInt8.ofNat x.toNat).toArray⟩
theorem conv_back (w : World) (l : List Int) (hl : ∀ x ∈ l, 0 ≤ x ∧ x < 256) : (convert 149 9 (.slice (some ⟨w.heap.size, 0, none⟩) l.length l.length)).run Try.prog (w.alloc (.cells (l.map (Value.int .u8)).toArray 5)) =
    .ok (.string (bs l)) (w.alloc (.cells (l.map (Value.int .u8)).toArray 5)) := by
  have := run_convert_bytes_back (P := Try.prog) (w.alloc (.cells (l.map (Value.int .u8)).toArray 5)) 149 9 5 ⟨w.heap.size, 0, none⟩ l.length (l.map fun x => UInt8.ofNat x.toNat) Try.underlying149 Try.underlying5 Try.underlying9 ?_
  · simpa [bs] using this
  · intro j hj
    have hjl : j < l.length := by simpa using hj
    have hx := hl l[j] (List.getElem_mem hjl)
    have he : (⟨w.heap.size, 0, none⟩ : Addr).add j = ⟨w.heap.size, j, none⟩ := by unfold Addr.add; split <;> simp_all
    rw [he, cell_of_row _ w.heap.size j (l.map (Value.int .u8)).toArray 5 (0, 0) (heap_alloc_new w _)]
    simp [List.getElem?_eq_getElem hjl]
    omega
theorem conv1 (w : World) (a : Int) (ha : 0 ≤ a ∧ a < 256) : (convert 149 9 (.slice (some ⟨w.heap.size, 0, none⟩) 1 1)).run Try.prog (w.alloc (.cells #[.int .u8 a] 5)) = .ok (.string (bs [a])) (w.alloc (.cells #[.int .u8 a] 5)) := by
  simpa using conv_back w [a] (by intro x hx; simp at hx; rcases hx with rfl <;> assumption)
theorem conv2 (w : World) (a b : Int) (ha : 0 ≤ a ∧ a < 256) (hb : 0 ≤ b ∧ b < 256) : (convert 149 9 (.slice (some ⟨w.heap.size, 0, none⟩) 2 2)).run Try.prog (w.alloc (.cells #[.int .u8 a, .int .u8 b] 5)) = .ok (.string (bs [a, b])) (w.alloc (.cells #[.int .u8 a, .int .u8 b] 5)) := by
  simpa using conv_back w [a, b] (by intro x hx; simp at hx; rcases hx with rfl | rfl <;> assumption)
theorem conv3 (w : World) (a b c : Int) (ha : 0 ≤ a ∧ a < 256) (hb : 0 ≤ b ∧ b < 256) (hc : 0 ≤ c ∧ c < 256) : (convert 149 9 (.slice (some ⟨w.heap.size, 0, none⟩) 3 3)).run Try.prog (w.alloc (.cells #[.int .u8 a, .int .u8 b, .int .u8 c] 5)) = .ok (.string (bs [a, b, c])) (w.alloc (.cells #[.int .u8 a, .int .u8 b, .int .u8 c] 5)) := by
  simpa using conv_back w [a, b, c] (by intro x hx; simp at hx; rcases hx with rfl | rfl | rfl <;> assumption)
theorem conv4 (w : World) (a b c d : Int) (ha : 0 ≤ a ∧ a < 256) (hb : 0 ≤ b ∧ b < 256) (hc : 0 ≤ c ∧ c < 256) (hd : 0 ≤ d ∧ d < 256) : (convert 149 9 (.slice (some ⟨w.heap.size, 0, none⟩) 4 4)).run Try.prog (w.alloc (.cells #[.int .u8 a, .int .u8 b, .int .u8 c, .int .u8 d] 5)) = .ok (.string (bs [a, b, c, d])) (w.alloc (.cells #[.int .u8 a, .int .u8 b, .int .u8 c, .int .u8 d] 5)) := by
  simpa using conv_back w [a, b, c, d] (by intro x hx; simp at hx; rcases hx with rfl | rfl | rfl | rfl <;> assumption)
set_option maxHeartbeats 4000000 in
set_option maxRecDepth 100000 in
theorem encoded_any (p : Int) (w : World) (h0 : 0 ≤ p) (h1 : p ≤ 1114111) : Calls Try.prog 94 #[.int .i64 p] w fun e w' => RetS (fun _ => True) e ∧ Below w.heap.size w w' := by
  by_cases h2 : p < 128
  · have d2 : decide (p < 128) = true := by simpa using h2
    have kc := conv1 w p (by omega)
    go_enter Try.func94, Try.ntmps94
    go_wp2_with fail
    go_ret
    exact ⟨RetS.mk trivial, by repeat (first | assumption | exact Below.refl _ _ | refine Below.alloc ?_ (by first | omega | (simp; done) | (simp; omega)) _ | refine Below.drew ?_ | refine below_drewN ?_ _ | refine Below.setCell ?_ (by first | omega | (simp; done) | (simp; omega)) _)⟩
  have d2 : decide (p < 128) = false := by simpa using h2
  by_cases h3 : p < 2048
  · have d3 : decide (p < 2048) = true := by simpa using h3
    have kc := conv2 w (192 + p / 64) (128 + p % 64) (by omega) (by omega)
    go_enter Try.func94, Try.ntmps94
    go_wp2_with fail
    go_ret
    exact ⟨RetS.mk trivial, by repeat (first | assumption | exact Below.refl _ _ | refine Below.alloc ?_ (by first | omega | (simp; done) | (simp; omega)) _ | refine Below.drew ?_ | refine below_drewN ?_ _ | refine Below.setCell ?_ (by first | omega | (simp; done) | (simp; omega)) _)⟩
  have d3 : decide (p < 2048) = false := by simpa using h3
  by_cases h4 : p < 65536
  · have d4 : decide (p < 65536) = true := by simpa using h4
    have kc := conv3 w (224 + p / 4096) (128 + p / 64 % 64) (128 + p % 64) (by omega) (by omega) (by omega)
    go_enter Try.func94, Try.ntmps94
    go_wp2_with fail
    go_ret
    exact ⟨RetS.mk trivial, by repeat (first | assumption | exact Below.refl _ _ | refine Below.alloc ?_ (by first | omega | (simp; done) | (simp; omega)) _ | refine Below.drew ?_ | refine below_drewN ?_ _ | refine Below.setCell ?_ (by first | omega | (simp; done) | (simp; omega)) _)⟩
  have d4 : decide (p < 65536) = false := by simpa using h4
  have kc := conv4 w (240 + p / 262144) (128 + p / 4096 % 64) (128 + p / 64 % 64) (128 + p % 64) (by omega) (by omega) (by omega) (by omega)
  go_enter Try.func94, Try.ntmps94
  go_wp2_with fail
  go_ret
  exact ⟨RetS.mk trivial, by repeat (first | assumption | exact Below.refl _ _ | refine Below.alloc ?_ (by first | omega | (simp; done) | (simp; omega)) _ | refine Below.drew ?_ | refine below_drewN ?_ _ | refine Below.setCell ?_ (by first | omega | (simp; done) | (simp; omega)) _)⟩
end Go.Proofs.Ytdijlakeonionaa

/-
  first of the reference of runes.
-/
namespace Go.Proofs.Ytdijlakeonionaa
open Go.ChangeShapes Go.WideShapes Go.ChangeAt Go.RowKit
/-- what first returns: nothing, or a number of bytes that lie in the text -/
def FirstQ (n at' : Nat) (e : Ending) : Prop := ∃ (p : Int) (k : Nat), e = .returned (.tuple #[.int .i64 p, .int .i64 k]) ∧ (0 < k → at' + k ≤ n)
theorem FirstQ.none {n a : Nat} : FirstQ n a (.returned (.tuple #[.int .i64 (-1), .int .i64 0])) := ⟨-1, 0, rfl, fun h => absurd h (Nat.lt_irrefl 0)⟩
theorem FirstQ.mk {n a : Nat} {p z : Int} {k : Nat} (h : a + k ≤ n) (hz : z = k) : FirstQ n a (.returned (.tuple #[.int .i64 p, .int .i64 z])) := ⟨p, k, by rw [hz], fun _ => h⟩
theorem wrap64_of (n : Int) (h : 0 ≤ n ∧ n ≤ 9223372036854775807) : wrap64 n = n := by unfold wrap64; omega
set_option maxHeartbeats 4000000 in
set_option maxRecDepth 100000 in
theorem first_any (s : ByteArray) (a : Nat) (w : World) (hs : s.size ≤ 1048576) (ha : a < s.size) : Calls Try.prog 88 #[.string s, .int .i64 a] w fun e w' => FirstQ s.size a e ∧ Below w.heap.size w w' := by
  obtain ⟨y, hy, hy0, hy1⟩ : ∃ y : Int, wrap64 (((s[a]'ha).toNat : Nat) : Int) = y ∧ 0 ≤ y ∧ y < 256 := by
    have h1 := (s[a]'ha).toNat_lt
    exact ⟨(s[a]'ha).toNat, wrap64_of _ (by omega), by omega, by omega⟩
  go_enter Try.func88, Try.ntmps88
  go_upto_region 3 with (fail)
  simp only [hy]
  clear hy
  by_cases h1 : 240 ≤ y
  · have d1 : decide (240 ≤ y) = true := by simpa using h1
    have hn1 : 1 ≤ 4 := by omega
    by_cases hsz : s.size < a + 4
    · have e1 : decide ((s.size : Int) < (a : Int) + 4) = true := by simp; omega
      go_wp2_with fail
      go_ret2
      exact ⟨FirstQ.none, Below.refl _ _⟩
    have e1 : decide ((s.size : Int) < (a : Int) + 4) = false := by simp; omega
    go_wp2_with fail
    clear e1
    go_loop [6, 8] (fun p i => ∃ (q : Int) (k : Nat), p = .int .i64 q ∧ i = .int .i64 k ∧ 1 ≤ k ∧ k ≤ 4 ∧ 0 ≤ q ∧ ((k = 1 ∧ q < 256) ∨ (k = 2 ∧ q < 16384) ∨ (k = 3 ∧ q < 1048576) ∨ (k = 4 ∧ q < 67108864))) (fun _ i => 4 - (intOf i).toNat)
    case atStart => exact ⟨y - 240, 1, rfl, rfl, by omega, by omega, by omega, .inl ⟨rfl, by omega⟩⟩
    case round =>
      obtain ⟨q, k, rfl, rfl, hk1, hkn, hq0, hq1⟩ := hrel
      by_cases hlt : k < 4
      · have hak : a + k < s.size := by omega
        obtain ⟨z, hz, hz0, hz1⟩ : ∃ z : Int, wrap64 (((s[a + k]'hak).toNat : Nat) : Int) = z ∧ 0 ≤ z ∧ z < 256 := by
          have h1 := (s[a + k]'hak).toNat_lt
          exact ⟨(s[a + k]'hak).toNat, wrap64_of _ (by omega), by omega, by omega⟩
        go_wp2_with fail
        go_round
        case rel => exact ⟨_, k + 1, rfl, by go_num, by omega, by omega, by omega, by omega⟩
        case measure => simp [intOf]; omega
      · obtain rfl : k = 4 := by omega
        clear hq1 hlt
        go_wp2_with fail
        refine wp_region_mix 12 [0, 1, 2, 3, 4, 5, 6, 7, 8, 9, 10, 11] [] [(true, 0), (false, 1), (true, 2), (true, 3), (true, 4), (true, 6), (true, 7), (true, 8), (true, 9), (true, 10), (true, 11), (false, 5), (false, 12), (false, 13)] (fun w' => Below w.heap.size w w') (by kernel_rfl) (by kernel_rfl) ?_
        rintro D hD
        have HSD : Hid (Below w.heap.size w D) := by rw [hD]; exact (Below.refl _ _).drew
        clear hD
        refine ⟨HSD.out, ?_⟩
        have HS : Hid (∀ w' : World, Below w.heap.size w w' → True) := fun _ _ => trivial
        (refine wpMix_q (v := ?_) rfl rfl (fun w' hS => ?_) ?_; rotate_left; (focus ((try obtain s0 := HS.out _ (hS rfl)); clear hS; go_simp; try with_reducible rfl; done)); (try simp only [Act.put, List.setIfInBounds_toArray, List.set_cons_zero, List.set_cons_succ]))
        refine wpMix_e rfl rfl (fun K hK => ?_)
        go_simp
        refine (scalar_any q _).mono ?_
        rintro e Y ⟨⟨b, rfl, hq⟩, rfl⟩
        refine hK.out _ _ (fun _ => HSD.out) ?_
        clear hK K
        (try simp only [Act.put, List.setIfInBounds_toArray, List.set_cons_zero, List.set_cons_succ])
        cases b
        · clear hq
          (refine wpMix_q (v := ?_) rfl rfl (fun w' hS => ?_) ?_; rotate_left; (focus ((try obtain s0 := HS.out _ (hS rfl)); clear hS; go_simp; try with_reducible rfl; done)); (try simp only [Act.put, List.setIfInBounds_toArray, List.set_cons_zero, List.set_cons_succ]))
          (refine wpMix_q (v := ?_) rfl rfl (fun w' hS => ?_) ?_; rotate_left; (focus ((try obtain s0 := HS.out _ (hS rfl)); clear hS; go_simp; try with_reducible rfl; done)); (try simp only [Act.put, List.setIfInBounds_toArray, List.set_cons_zero, List.set_cons_succ]))
          iterate 7 (refine wpMix_qskip rfl rfl ?_; (try simp only [Act.put, List.setIfInBounds_toArray, List.set_cons_zero, List.set_cons_succ]))
          (refine wpMix_eskip rfl rfl (HSD).out ?_; (try simp only [Act.put, List.setIfInBounds_toArray, List.set_cons_zero, List.set_cons_succ]))
          (refine wpMix_eskip rfl rfl (HSD).out ?_; (try simp only [Act.put, List.setIfInBounds_toArray, List.set_cons_zero, List.set_cons_succ]))
          (refine wpMix_e rfl rfl (fun K hK => ?_); go_simp; refine hK.out _ _ (fun h => absurd h (by decide)) ?_; clear hK K; (try simp only [Act.put, List.setIfInBounds_toArray, List.set_cons_zero, List.set_cons_succ]))
          refine wpMix_nil ?_
          refine NoPanic.normal ?_
          go_wp2_with fail
          go_ret2
          exact ⟨FirstQ.none, HSD.out⟩
        · have hq2 := hq rfl
          have hsl : (a : Int) + 4 ≤ (s.size : Int) := by omega
          have HQ := Lib.hid hq2
          clear hq hq2
          (refine wpMix_q (v := ?_) rfl rfl (fun w' hS => ?_) ?_; rotate_left; (focus ((try obtain s0 := HS.out _ (hS rfl)); clear hS; go_simp; try with_reducible rfl; done)); (try simp only [Act.put, List.setIfInBounds_toArray, List.set_cons_zero, List.set_cons_succ]))
          (refine wpMix_q (v := ?_) rfl rfl (fun w' hS => ?_) ?_; rotate_left; (focus ((try obtain s0 := HS.out _ (hS rfl)); clear hS; go_simp; try with_reducible rfl; done)); (try simp only [Act.put, List.setIfInBounds_toArray, List.set_cons_zero, List.set_cons_succ]))
          iterate 6 (refine wpMix_q (v := ?_) rfl rfl (fun w' hS => ?_) ?_; rotate_left; (focus ((try obtain s0 := HS.out _ (hS rfl)); clear hS; go_simp; try with_reducible rfl; done)); (try simp only [Act.put, List.setIfInBounds_toArray, List.set_cons_zero, List.set_cons_succ]))
          have hwr : IntKind.i64.wrap ((a : Int) + 4) = (a : Int) + 4 := (IntWalk.i64_left _).trans (wrap64_of _ (by omega))
          have htn : ((a : Int) + 4).toNat = a + 4 := by omega
          have h00 : 0 ≤ (a : Int) + 4 := by omega
          have haa : (a : Int) ≤ (a : Int) + 4 := by omega
          (refine wpMix_q (v := ?_) rfl rfl (fun w' hS => ?_) ?_; rotate_left; (focus ((try obtain s0 := HS.out _ (hS rfl)); clear hS; go_simp; try with_reducible rfl; done)); (try simp only [Act.put, List.setIfInBounds_toArray, List.set_cons_zero, List.set_cons_succ]))
          clear hwr htn h00 haa
          refine wpMix_e rfl rfl (fun K hK => ?_)
          go_simp
          refine (encoded_any q _ HQ.out.1 HQ.out.2).mono ?_
          rintro e Y2 ⟨⟨s', rfl, _⟩, hb⟩
          have HSY := Lib.hid (bchain HSD.out hb)
          refine hK.out _ _ (fun _ => HSY.out) ?_
          clear hK K hb
          (try simp only [Act.put, List.setIfInBounds_toArray, List.set_cons_zero, List.set_cons_succ])
          (refine wpMix_e rfl rfl (fun K hK => ?_); go_simp; refine hK.out _ _ (fun h => absurd h (by decide)) ?_; clear hK K; (try simp only [Act.put, List.setIfInBounds_toArray, List.set_cons_zero, List.set_cons_succ]))
          (refine wpMix_e rfl rfl (fun K hK => ?_); go_simp; refine hK.out _ _ (fun h => absurd h (by decide)) ?_; clear hK K; (try simp only [Act.put, List.setIfInBounds_toArray, List.set_cons_zero, List.set_cons_succ]))
          refine wpMix_nil ?_
          refine NoPanic.normal ?_
          go_wp2_with fail
          · go_ret2
            exact ⟨FirstQ.none, HSY.out⟩
          · go_ret2
            exact ⟨FirstQ.mk (k := 4) (by omega) rfl, HSY.out⟩
  have d1 : decide (240 ≤ y) = false := by simpa using h1
  by_cases h2 : 224 ≤ y
  · have d2 : decide (224 ≤ y) = true := by simpa using h2
    have hn1 : 1 ≤ 3 := by omega
    by_cases hsz : s.size < a + 3
    · have e1 : decide ((s.size : Int) < (a : Int) + 3) = true := by simp; omega
      go_wp2_with fail
      go_ret2
      exact ⟨FirstQ.none, Below.refl _ _⟩
    have e1 : decide ((s.size : Int) < (a : Int) + 3) = false := by simp; omega
    go_wp2_with fail
    clear e1
    go_loop [6, 8] (fun p i => ∃ (q : Int) (k : Nat), p = .int .i64 q ∧ i = .int .i64 k ∧ 1 ≤ k ∧ k ≤ 3 ∧ 0 ≤ q ∧ ((k = 1 ∧ q < 256) ∨ (k = 2 ∧ q < 16384) ∨ (k = 3 ∧ q < 1048576) ∨ (k = 4 ∧ q < 67108864))) (fun _ i => 3 - (intOf i).toNat)
    case atStart => exact ⟨y - 224, 1, rfl, rfl, by omega, by omega, by omega, .inl ⟨rfl, by omega⟩⟩
    case round =>
      obtain ⟨q, k, rfl, rfl, hk1, hkn, hq0, hq1⟩ := hrel
      by_cases hlt : k < 3
      · have hak : a + k < s.size := by omega
        obtain ⟨z, hz, hz0, hz1⟩ : ∃ z : Int, wrap64 (((s[a + k]'hak).toNat : Nat) : Int) = z ∧ 0 ≤ z ∧ z < 256 := by
          have h1 := (s[a + k]'hak).toNat_lt
          exact ⟨(s[a + k]'hak).toNat, wrap64_of _ (by omega), by omega, by omega⟩
        go_wp2_with fail
        go_round
        case rel => exact ⟨_, k + 1, rfl, by go_num, by omega, by omega, by omega, by omega⟩
        case measure => simp [intOf]; omega
      · obtain rfl : k = 3 := by omega
        clear hq1 hlt
        go_wp2_with fail
        refine wp_region_mix 12 [0, 1, 2, 3, 4, 5, 6, 7, 8, 9, 10, 11] [] [(true, 0), (false, 1), (true, 2), (true, 3), (true, 4), (true, 6), (true, 7), (true, 8), (true, 9), (true, 10), (true, 11), (false, 5), (false, 12), (false, 13)] (fun w' => Below w.heap.size w w') (by kernel_rfl) (by kernel_rfl) ?_
        rintro D hD
        have HSD : Hid (Below w.heap.size w D) := by rw [hD]; exact (Below.refl _ _).drew
        clear hD
        refine ⟨HSD.out, ?_⟩
        have HS : Hid (∀ w' : World, Below w.heap.size w w' → True) := fun _ _ => trivial
        (refine wpMix_q (v := ?_) rfl rfl (fun w' hS => ?_) ?_; rotate_left; (focus ((try obtain s0 := HS.out _ (hS rfl)); clear hS; go_simp; try with_reducible rfl; done)); (try simp only [Act.put, List.setIfInBounds_toArray, List.set_cons_zero, List.set_cons_succ]))
        refine wpMix_e rfl rfl (fun K hK => ?_)
        go_simp
        refine (scalar_any q _).mono ?_
        rintro e Y ⟨⟨b, rfl, hq⟩, rfl⟩
        refine hK.out _ _ (fun _ => HSD.out) ?_
        clear hK K
        (try simp only [Act.put, List.setIfInBounds_toArray, List.set_cons_zero, List.set_cons_succ])
        cases b
        · clear hq
          (refine wpMix_q (v := ?_) rfl rfl (fun w' hS => ?_) ?_; rotate_left; (focus ((try obtain s0 := HS.out _ (hS rfl)); clear hS; go_simp; try with_reducible rfl; done)); (try simp only [Act.put, List.setIfInBounds_toArray, List.set_cons_zero, List.set_cons_succ]))
          (refine wpMix_q (v := ?_) rfl rfl (fun w' hS => ?_) ?_; rotate_left; (focus ((try obtain s0 := HS.out _ (hS rfl)); clear hS; go_simp; try with_reducible rfl; done)); (try simp only [Act.put, List.setIfInBounds_toArray, List.set_cons_zero, List.set_cons_succ]))
          iterate 7 (refine wpMix_qskip rfl rfl ?_; (try simp only [Act.put, List.setIfInBounds_toArray, List.set_cons_zero, List.set_cons_succ]))
          (refine wpMix_eskip rfl rfl (HSD).out ?_; (try simp only [Act.put, List.setIfInBounds_toArray, List.set_cons_zero, List.set_cons_succ]))
          (refine wpMix_eskip rfl rfl (HSD).out ?_; (try simp only [Act.put, List.setIfInBounds_toArray, List.set_cons_zero, List.set_cons_succ]))
          (refine wpMix_e rfl rfl (fun K hK => ?_); go_simp; refine hK.out _ _ (fun h => absurd h (by decide)) ?_; clear hK K; (try simp only [Act.put, List.setIfInBounds_toArray, List.set_cons_zero, List.set_cons_succ]))
          refine wpMix_nil ?_
          refine NoPanic.normal ?_
          go_wp2_with fail
          go_ret2
          exact ⟨FirstQ.none, HSD.out⟩
        · have hq2 := hq rfl
          have hsl : (a : Int) + 3 ≤ (s.size : Int) := by omega
          have HQ := Lib.hid hq2
          clear hq hq2
          (refine wpMix_q (v := ?_) rfl rfl (fun w' hS => ?_) ?_; rotate_left; (focus ((try obtain s0 := HS.out _ (hS rfl)); clear hS; go_simp; try with_reducible rfl; done)); (try simp only [Act.put, List.setIfInBounds_toArray, List.set_cons_zero, List.set_cons_succ]))
          (refine wpMix_q (v := ?_) rfl rfl (fun w' hS => ?_) ?_; rotate_left; (focus ((try obtain s0 := HS.out _ (hS rfl)); clear hS; go_simp; try with_reducible rfl; done)); (try simp only [Act.put, List.setIfInBounds_toArray, List.set_cons_zero, List.set_cons_succ]))
          iterate 6 (refine wpMix_q (v := ?_) rfl rfl (fun w' hS => ?_) ?_; rotate_left; (focus ((try obtain s0 := HS.out _ (hS rfl)); clear hS; go_simp; try with_reducible rfl; done)); (try simp only [Act.put, List.setIfInBounds_toArray, List.set_cons_zero, List.set_cons_succ]))
          have hwr : IntKind.i64.wrap ((a : Int) + 3) = (a : Int) + 3 := (IntWalk.i64_left _).trans (wrap64_of _ (by omega))
          have htn : ((a : Int) + 3).toNat = a + 3 := by omega
          have h00 : 0 ≤ (a : Int) + 3 := by omega
          have haa : (a : Int) ≤ (a : Int) + 3 := by omega
          (refine wpMix_q (v := ?_) rfl rfl (fun w' hS => ?_) ?_; rotate_left; (focus ((try obtain s0 := HS.out _ (hS rfl)); clear hS; go_simp; try with_reducible rfl; done)); (try simp only [Act.put, List.setIfInBounds_toArray, List.set_cons_zero, List.set_cons_succ]))
          clear hwr htn h00 haa
          refine wpMix_e rfl rfl (fun K hK => ?_)
          go_simp
          refine (encoded_any q _ HQ.out.1 HQ.out.2).mono ?_
          rintro e Y2 ⟨⟨s', rfl, _⟩, hb⟩
          have HSY := Lib.hid (bchain HSD.out hb)
          refine hK.out _ _ (fun _ => HSY.out) ?_
          clear hK K hb
          (try simp only [Act.put, List.setIfInBounds_toArray, List.set_cons_zero, List.set_cons_succ])
          (refine wpMix_e rfl rfl (fun K hK => ?_); go_simp; refine hK.out _ _ (fun h => absurd h (by decide)) ?_; clear hK K; (try simp only [Act.put, List.setIfInBounds_toArray, List.set_cons_zero, List.set_cons_succ]))
          (refine wpMix_e rfl rfl (fun K hK => ?_); go_simp; refine hK.out _ _ (fun h => absurd h (by decide)) ?_; clear hK K; (try simp only [Act.put, List.setIfInBounds_toArray, List.set_cons_zero, List.set_cons_succ]))
          refine wpMix_nil ?_
          refine NoPanic.normal ?_
          go_wp2_with fail
          · go_ret2
            exact ⟨FirstQ.none, HSY.out⟩
          · go_ret2
            exact ⟨FirstQ.mk (k := 3) (by omega) rfl, HSY.out⟩
  have d2 : decide (224 ≤ y) = false := by simpa using h2
  by_cases h3 : 192 ≤ y
  · have d3 : decide (192 ≤ y) = true := by simpa using h3
    have hn1 : 1 ≤ 2 := by omega
    by_cases hsz : s.size < a + 2
    · have e1 : decide ((s.size : Int) < (a : Int) + 2) = true := by simp; omega
      go_wp2_with fail
      go_ret2
      exact ⟨FirstQ.none, Below.refl _ _⟩
    have e1 : decide ((s.size : Int) < (a : Int) + 2) = false := by simp; omega
    go_wp2_with fail
    clear e1
    go_loop [6, 8] (fun p i => ∃ (q : Int) (k : Nat), p = .int .i64 q ∧ i = .int .i64 k ∧ 1 ≤ k ∧ k ≤ 2 ∧ 0 ≤ q ∧ ((k = 1 ∧ q < 256) ∨ (k = 2 ∧ q < 16384) ∨ (k = 3 ∧ q < 1048576) ∨ (k = 4 ∧ q < 67108864))) (fun _ i => 2 - (intOf i).toNat)
    case atStart => exact ⟨y - 192, 1, rfl, rfl, by omega, by omega, by omega, .inl ⟨rfl, by omega⟩⟩
    case round =>
      obtain ⟨q, k, rfl, rfl, hk1, hkn, hq0, hq1⟩ := hrel
      by_cases hlt : k < 2
      · have hak : a + k < s.size := by omega
        obtain ⟨z, hz, hz0, hz1⟩ : ∃ z : Int, wrap64 (((s[a + k]'hak).toNat : Nat) : Int) = z ∧ 0 ≤ z ∧ z < 256 := by
          have h1 := (s[a + k]'hak).toNat_lt
          exact ⟨(s[a + k]'hak).toNat, wrap64_of _ (by omega), by omega, by omega⟩
        go_wp2_with fail
        go_round
        case rel => exact ⟨_, k + 1, rfl, by go_num, by omega, by omega, by omega, by omega⟩
        case measure => simp [intOf]; omega
      · obtain rfl : k = 2 := by omega
        clear hq1 hlt
        go_wp2_with fail
        refine wp_region_mix 12 [0, 1, 2, 3, 4, 5, 6, 7, 8, 9, 10, 11] [] [(true, 0), (false, 1), (true, 2), (true, 3), (true, 4), (true, 6), (true, 7), (true, 8), (true, 9), (true, 10), (true, 11), (false, 5), (false, 12), (false, 13)] (fun w' => Below w.heap.size w w') (by kernel_rfl) (by kernel_rfl) ?_
        rintro D hD
        have HSD : Hid (Below w.heap.size w D) := by rw [hD]; exact (Below.refl _ _).drew
        clear hD
        refine ⟨HSD.out, ?_⟩
        have HS : Hid (∀ w' : World, Below w.heap.size w w' → True) := fun _ _ => trivial
        (refine wpMix_q (v := ?_) rfl rfl (fun w' hS => ?_) ?_; rotate_left; (focus ((try obtain s0 := HS.out _ (hS rfl)); clear hS; go_simp; try with_reducible rfl; done)); (try simp only [Act.put, List.setIfInBounds_toArray, List.set_cons_zero, List.set_cons_succ]))
        refine wpMix_e rfl rfl (fun K hK => ?_)
        go_simp
        refine (scalar_any q _).mono ?_
        rintro e Y ⟨⟨b, rfl, hq⟩, rfl⟩
        refine hK.out _ _ (fun _ => HSD.out) ?_
        clear hK K
        (try simp only [Act.put, List.setIfInBounds_toArray, List.set_cons_zero, List.set_cons_succ])
        cases b
        · clear hq
          (refine wpMix_q (v := ?_) rfl rfl (fun w' hS => ?_) ?_; rotate_left; (focus ((try obtain s0 := HS.out _ (hS rfl)); clear hS; go_simp; try with_reducible rfl; done)); (try simp only [Act.put, List.setIfInBounds_toArray, List.set_cons_zero, List.set_cons_succ]))
          (refine wpMix_q (v := ?_) rfl rfl (fun w' hS => ?_) ?_; rotate_left; (focus ((try obtain s0 := HS.out _ (hS rfl)); clear hS; go_simp; try with_reducible rfl; done)); (try simp only [Act.put, List.setIfInBounds_toArray, List.set_cons_zero, List.set_cons_succ]))
          iterate 7 (refine wpMix_qskip rfl rfl ?_; (try simp only [Act.put, List.setIfInBounds_toArray, List.set_cons_zero, List.set_cons_succ]))
          (refine wpMix_eskip rfl rfl (HSD).out ?_; (try simp only [Act.put, List.setIfInBounds_toArray, List.set_cons_zero, List.set_cons_succ]))
          (refine wpMix_eskip rfl rfl (HSD).out ?_; (try simp only [Act.put, List.setIfInBounds_toArray, List.set_cons_zero, List.set_cons_succ]))
          (refine wpMix_e rfl rfl (fun K hK => ?_); go_simp; refine hK.out _ _ (fun h => absurd h (by decide)) ?_; clear hK K; (try simp only [Act.put, List.setIfInBounds_toArray, List.set_cons_zero, List.set_cons_succ]))
          refine wpMix_nil ?_
          refine NoPanic.normal ?_
          go_wp2_with fail
          go_ret2
          exact ⟨FirstQ.none, HSD.out⟩
        · have hq2 := hq rfl
          have hsl : (a : Int) + 2 ≤ (s.size : Int) := by omega
          have HQ := Lib.hid hq2
          clear hq hq2
          (refine wpMix_q (v := ?_) rfl rfl (fun w' hS => ?_) ?_; rotate_left; (focus ((try obtain s0 := HS.out _ (hS rfl)); clear hS; go_simp; try with_reducible rfl; done)); (try simp only [Act.put, List.setIfInBounds_toArray, List.set_cons_zero, List.set_cons_succ]))
          (refine wpMix_q (v := ?_) rfl rfl (fun w' hS => ?_) ?_; rotate_left; (focus ((try obtain s0 := HS.out _ (hS rfl)); clear hS; go_simp; try with_reducible rfl; done)); (try simp only [Act.put, List.setIfInBounds_toArray, List.set_cons_zero, List.set_cons_succ]))
          iterate 6 (refine wpMix_q (v := ?_) rfl rfl (fun w' hS => ?_) ?_; rotate_left; (focus ((try obtain s0 := HS.out _ (hS rfl)); clear hS; go_simp; try with_reducible rfl; done)); (try simp only [Act.put, List.setIfInBounds_toArray, List.set_cons_zero, List.set_cons_succ]))
          have hwr : IntKind.i64.wrap ((a : Int) + 2) = (a : Int) + 2 := (IntWalk.i64_left _).trans (wrap64_of _ (by omega))
          have htn : ((a : Int) + 2).toNat = a + 2 := by omega
          have h00 : 0 ≤ (a : Int) + 2 := by omega
          have haa : (a : Int) ≤ (a : Int) + 2 := by omega
          (refine wpMix_q (v := ?_) rfl rfl (fun w' hS => ?_) ?_; rotate_left; (focus ((try obtain s0 := HS.out _ (hS rfl)); clear hS; go_simp; try with_reducible rfl; done)); (try simp only [Act.put, List.setIfInBounds_toArray, List.set_cons_zero, List.set_cons_succ]))
          clear hwr htn h00 haa
          refine wpMix_e rfl rfl (fun K hK => ?_)
          go_simp
          refine (encoded_any q _ HQ.out.1 HQ.out.2).mono ?_
          rintro e Y2 ⟨⟨s', rfl, _⟩, hb⟩
          have HSY := Lib.hid (bchain HSD.out hb)
          refine hK.out _ _ (fun _ => HSY.out) ?_
          clear hK K hb
          (try simp only [Act.put, List.setIfInBounds_toArray, List.set_cons_zero, List.set_cons_succ])
          (refine wpMix_e rfl rfl (fun K hK => ?_); go_simp; refine hK.out _ _ (fun h => absurd h (by decide)) ?_; clear hK K; (try simp only [Act.put, List.setIfInBounds_toArray, List.set_cons_zero, List.set_cons_succ]))
          (refine wpMix_e rfl rfl (fun K hK => ?_); go_simp; refine hK.out _ _ (fun h => absurd h (by decide)) ?_; clear hK K; (try simp only [Act.put, List.setIfInBounds_toArray, List.set_cons_zero, List.set_cons_succ]))
          refine wpMix_nil ?_
          refine NoPanic.normal ?_
          go_wp2_with fail
          · go_ret2
            exact ⟨FirstQ.none, HSY.out⟩
          · go_ret2
            exact ⟨FirstQ.mk (k := 2) (by omega) rfl, HSY.out⟩
  have d3 : decide (192 ≤ y) = false := by simpa using h3
  have hn1 : 1 ≤ 1 := by omega
  by_cases hsz : s.size < a + 1
  · have e1 : decide ((s.size : Int) < (a : Int) + 1) = true := by simp; omega
    go_wp2_with fail
    go_ret2
    exact ⟨FirstQ.none, Below.refl _ _⟩
  have e1 : decide ((s.size : Int) < (a : Int) + 1) = false := by simp; omega
  go_wp2_with fail
  clear e1
  go_loop [6, 8] (fun p i => ∃ (q : Int) (k : Nat), p = .int .i64 q ∧ i = .int .i64 k ∧ 1 ≤ k ∧ k ≤ 1 ∧ 0 ≤ q ∧ ((k = 1 ∧ q < 256) ∨ (k = 2 ∧ q < 16384) ∨ (k = 3 ∧ q < 1048576) ∨ (k = 4 ∧ q < 67108864))) (fun _ i => 1 - (intOf i).toNat)
  case atStart => exact ⟨y, 1, rfl, rfl, by omega, by omega, by omega, .inl ⟨rfl, by omega⟩⟩
  case round =>
    obtain ⟨q, k, rfl, rfl, hk1, hkn, hq0, hq1⟩ := hrel
    by_cases hlt : k < 1
    · exact absurd hlt (by omega)
    · obtain rfl : k = 1 := by omega
      clear hq1 hlt
      go_wp2_with fail
      refine wp_region_mix 12 [0, 1, 2, 3, 4, 5, 6, 7, 8, 9, 10, 11] [] [(true, 0), (false, 1), (true, 2), (true, 3), (true, 4), (true, 6), (true, 7), (true, 8), (true, 9), (true, 10), (true, 11), (false, 5), (false, 12), (false, 13)] (fun w' => Below w.heap.size w w') (by kernel_rfl) (by kernel_rfl) ?_
      rintro D hD
      have HSD : Hid (Below w.heap.size w D) := by rw [hD]; exact (Below.refl _ _).drew
      clear hD
      refine ⟨HSD.out, ?_⟩
      have HS : Hid (∀ w' : World, Below w.heap.size w w' → True) := fun _ _ => trivial
      (refine wpMix_q (v := ?_) rfl rfl (fun w' hS => ?_) ?_; rotate_left; (focus ((try obtain s0 := HS.out _ (hS rfl)); clear hS; go_simp; try with_reducible rfl; done)); (try simp only [Act.put, List.setIfInBounds_toArray, List.set_cons_zero, List.set_cons_succ]))
      refine wpMix_e rfl rfl (fun K hK => ?_)
      go_simp
      refine (scalar_any q _).mono ?_
      rintro e Y ⟨⟨b, rfl, hq⟩, rfl⟩
      refine hK.out _ _ (fun _ => HSD.out) ?_
      clear hK K
      (try simp only [Act.put, List.setIfInBounds_toArray, List.set_cons_zero, List.set_cons_succ])
      cases b
      · clear hq
        (refine wpMix_q (v := ?_) rfl rfl (fun w' hS => ?_) ?_; rotate_left; (focus ((try obtain s0 := HS.out _ (hS rfl)); clear hS; go_simp; try with_reducible rfl; done)); (try simp only [Act.put, List.setIfInBounds_toArray, List.set_cons_zero, List.set_cons_succ]))
        (refine wpMix_q (v := ?_) rfl rfl (fun w' hS => ?_) ?_; rotate_left; (focus ((try obtain s0 := HS.out _ (hS rfl)); clear hS; go_simp; try with_reducible rfl; done)); (try simp only [Act.put, List.setIfInBounds_toArray, List.set_cons_zero, List.set_cons_succ]))
        iterate 7 (refine wpMix_qskip rfl rfl ?_; (try simp only [Act.put, List.setIfInBounds_toArray, List.set_cons_zero, List.set_cons_succ]))
        (refine wpMix_eskip rfl rfl (HSD).out ?_; (try simp only [Act.put, List.setIfInBounds_toArray, List.set_cons_zero, List.set_cons_succ]))
        (refine wpMix_eskip rfl rfl (HSD).out ?_; (try simp only [Act.put, List.setIfInBounds_toArray, List.set_cons_zero, List.set_cons_succ]))
        (refine wpMix_e rfl rfl (fun K hK => ?_); go_simp; refine hK.out _ _ (fun h => absurd h (by decide)) ?_; clear hK K; (try simp only [Act.put, List.setIfInBounds_toArray, List.set_cons_zero, List.set_cons_succ]))
        refine wpMix_nil ?_
        refine NoPanic.normal ?_
        go_wp2_with fail
        go_ret2
        exact ⟨FirstQ.none, HSD.out⟩
      · have hq2 := hq rfl
        have hsl : (a : Int) + 1 ≤ (s.size : Int) := by omega
        have HQ := Lib.hid hq2
        clear hq hq2
        (refine wpMix_q (v := ?_) rfl rfl (fun w' hS => ?_) ?_; rotate_left; (focus ((try obtain s0 := HS.out _ (hS rfl)); clear hS; go_simp; try with_reducible rfl; done)); (try simp only [Act.put, List.setIfInBounds_toArray, List.set_cons_zero, List.set_cons_succ]))
        (refine wpMix_q (v := ?_) rfl rfl (fun w' hS => ?_) ?_; rotate_left; (focus ((try obtain s0 := HS.out _ (hS rfl)); clear hS; go_simp; try with_reducible rfl; done)); (try simp only [Act.put, List.setIfInBounds_toArray, List.set_cons_zero, List.set_cons_succ]))
        iterate 6 (refine wpMix_q (v := ?_) rfl rfl (fun w' hS => ?_) ?_; rotate_left; (focus ((try obtain s0 := HS.out _ (hS rfl)); clear hS; go_simp; try with_reducible rfl; done)); (try simp only [Act.put, List.setIfInBounds_toArray, List.set_cons_zero, List.set_cons_succ]))
        have hwr : IntKind.i64.wrap ((a : Int) + 1) = (a : Int) + 1 := (IntWalk.i64_left _).trans (wrap64_of _ (by omega))
        have htn : ((a : Int) + 1).toNat = a + 1 := by omega
        have h00 : 0 ≤ (a : Int) + 1 := by omega
        have haa : (a : Int) ≤ (a : Int) + 1 := by omega
        (refine wpMix_q (v := ?_) rfl rfl (fun w' hS => ?_) ?_; rotate_left; (focus ((try obtain s0 := HS.out _ (hS rfl)); clear hS; go_simp; try with_reducible rfl; done)); (try simp only [Act.put, List.setIfInBounds_toArray, List.set_cons_zero, List.set_cons_succ]))
        clear hwr htn h00 haa
        refine wpMix_e rfl rfl (fun K hK => ?_)
        go_simp
        refine (encoded_any q _ HQ.out.1 HQ.out.2).mono ?_
        rintro e Y2 ⟨⟨s', rfl, _⟩, hb⟩
        have HSY := Lib.hid (bchain HSD.out hb)
        refine hK.out _ _ (fun _ => HSY.out) ?_
        clear hK K hb
        (try simp only [Act.put, List.setIfInBounds_toArray, List.set_cons_zero, List.set_cons_succ])
        (refine wpMix_e rfl rfl (fun K hK => ?_); go_simp; refine hK.out _ _ (fun h => absurd h (by decide)) ?_; clear hK K; (try simp only [Act.put, List.setIfInBounds_toArray, List.set_cons_zero, List.set_cons_succ]))
        (refine wpMix_e rfl rfl (fun K hK => ?_); go_simp; refine hK.out _ _ (fun h => absurd h (by decide)) ?_; clear hK K; (try simp only [Act.put, List.setIfInBounds_toArray, List.set_cons_zero, List.set_cons_succ]))
        refine wpMix_nil ?_
        refine NoPanic.normal ?_
        go_wp2_with fail
        · go_ret2
          exact ⟨FirstQ.none, HSY.out⟩
        · go_ret2
          exact ⟨FirstQ.mk (k := 1) (by omega) rfl, HSY.out⟩
end Go.Proofs.Ytdijlakeonionaa

/-
  Points, Label and Name of the references: each returns.
-/
namespace Go.Proofs.Ytdijlakeonionaa
open Go.ChangeShapes Go.WideShapes Go.ChangeAt Go.RowKit
theorem wpList_app_int2 {ops : Array Oper} {rest : List Oper} {o : Oper} {a : Act} {Q : Exit → Act → World → Prop} {w : World} (hgd : o.guard = none) (s x : Operand)
    (ho : o.op = .call { callee := .builtin .append, args := #[s, x], argTypes := #[25, 25] })
    (base : Nat) (v : Value) (l : List Int) (hs : a.eval s = v) (hown : OwnI w base v l) (x0 : Int) (m : Nat) (hm : Hid (l.length = m)) (hl : m ≤ 200000000) (hbase : base ≤ w.heap.size)
    (hx : a.eval x = .slice (some ⟨w.heap.size, 0, none⟩) 1 1)
    (h : ∀ g' cap w', OwnI w' base (.slice (some ⟨g', 0, none⟩) (m + 1) cap) (l ++ [x0]) → base ≤ g' → w.grownBy w' v.ownBlock → wpList Try.prog ops Q rest (a.put o.dst (.slice (some ⟨g', 0, none⟩) (m + 1) cap)) w') :
    wpList Try.prog ops Q (o :: rest) a (w.alloc (.cells #[.int .i64 x0] 3)) := by
  obtain rfl := hm.out
  obtain ⟨i0, hi, hz0, hz1, hz2⟩ := info_parts infoI0
  refine wpList_append_own _ hgd s x 25 ho base 3 i0 _ 1 8 Try.underlying25 hi hz0 hz1 hz2 rfl (by decide) v l.length (l.map (Value.int .i64)) hs (World.ownsRow.alloc hown _) ⟨w.heap.size, 0, none⟩ 1 1
    [.int .i64 x0] hx rfl ?_ ?_ (by simp only [maxLen]; omega) (by omega) (by simp; omega) ?_
  · intro j u hu
    match j, hu with
    | 0, hu => simp at hu; subst hu; simp [go_sem, Addr.add]
  · intro u hu
    simp at hu
    subst hu
    rfl
  · intro v' w' h1 h2 _
    obtain ⟨g', cap, rfl, hg1, hg2⟩ := h1.form (by omega)
    refine h g' cap w' ?_ hg1 ?_
    · unfold OwnI
      rw [List.map_append, List.length_append]
      exact h1
    · exact ⟨h2.os, h2.tape, h2.output, Nat.le_trans (by simp) h2.size, fun k hk hne => (h2.block k (by simp; omega) hne).trans (Below.heap_alloc w _ k hk)⟩
/-- what Points returns -/
def PtsQ (e : Ending) : Prop := ∃ v b, e = .returned (.tuple #[v, .bool b])
theorem PtsQ.mk (v : Value) (b : Bool) : PtsQ (.returned (.tuple #[v, .bool b])) := ⟨v, b, rfl⟩
set_option maxHeartbeats 4000000 in
set_option maxRecDepth 100000 in
theorem points_any (s : ByteArray) (w : World) (hs : s.size ≤ 1048576) : Calls Try.prog 78 #[.string s] w fun e w' => PtsQ e ∧ Below w.heap.size w w' := by
  go_enter Try.func78, Try.ntmps78
  go_wp2_with fail
  go_loopw [4, 5] (fun v i wr => ∃ (k : Nat) (l : List Int), k ≤ s.size ∧ i = .int .i64 k ∧ Hid (l.length ≤ k) ∧ Hid (OwnI wr w.heap.size v l) ∧ Hid (Below w.heap.size w wr)) (fun _ i _ => s.size - (intOf i).toNat)
  case atStart => exact ⟨0, [], Nat.zero_le _, rfl, Nat.le_refl _, World.ownsRow_nil _ _ _ _, Below.refl _ _⟩
  case round =>
    obtain ⟨k, l, hk, rfl, HL, HO, HB⟩ := hrel
    obtain ⟨A, n, c, rfl, _, _, HN, _⟩ := HO.out.rd.op
    by_cases hlt : k < s.size
    · go_wp2_with fail
      refine (first_any s k _ hs hlt).mono ?_
      rintro e w2 ⟨⟨p, j, rfl, hj⟩, hb⟩
      have HB2 := Lib.hid (bchain HB.out hb)
      have HO2 : Hid (OwnI w2 w.heap.size (.slice A n c) l) := own_below HO.out hb
      have hbl : w.heap.size ≤ w2.heap.size := HB2.out.size
      clear hb
      by_cases hj0 : j = 0
      · subst hj0
        clear hj
        go_wp2_with fail
        go_ret2
        exact ⟨PtsQ.mk _ _, HB2.out⟩
      · have hd : ((j : Int) == 0) = false := by simp; omega
        have hj2 := hj (by omega)
        have hn : n ≤ 200000000 := by have := HL.out; have := HN.out; omega
        clear hj
        go_wp2_with (at_builtin; refine wpList_app_int2 rfl (.tmp 20) (.tmp 22) rfl w.heap.size (.slice A n c) l rfl HO2.out p n HN hn hbl rfl ?_; intro g' cap' w5 ho hge hg)
        have HO5 := Lib.hid ho
        have HG5 := Lib.hid hg
        clear ho hg
        go_roundw
        case rel => exact ⟨k + j, l ++ [p], by omega, by go_num, by rw [Hid, List.length_append]; have := HL.out; simp; omega, HO5.out, HB2.out.grown HG5.out HB2.out.size (fun j hj => (World.ownsRow.lt HO2.out j hj).1)⟩
        case measure => simp [intOf]; omega
    · go_wp2_with fail
      go_ret2
      exact ⟨PtsQ.mk _ _, HB.out⟩
/-- Label is true of no empty text -/
def LabQ (s : ByteArray) (b : Bool) : Prop := b = true → 0 < s.size
set_option maxHeartbeats 4000000 in
set_option maxRecDepth 100000 in
theorem label_any (s : ByteArray) (w : World) (hs : s.size ≤ 1048576) : Calls Try.prog 57 #[.string s] w fun e w' => RetB (LabQ s) e ∧ Below w.heap.size w w' := by
  go_enter Try.func57, Try.ntmps57
  go_wp2_with fail
  go_loop [3] (fun i => ∃ k : Nat, k ≤ s.size ∧ i = .int .i64 k) (fun i => s.size - (intOf i).toNat)
  case atStart => exact ⟨0, Nat.zero_le _, rfl⟩
  case round =>
    obtain ⟨k, hk, rfl⟩ := hrel
    by_cases hlt : k < s.size
    · cases hd : decide ((((s[k]'hlt).toNat : Nat) : Int) < 32)
      · cases hd2 : ((((s[k]'hlt).toNat : Nat) : Int) == 127)
        · go_wp2_with fail
          go_round
          case rel => exact ⟨k + 1, by omega, by go_num⟩
          case measure => simp [intOf]; omega
        · go_wp2_with fail
          go_ret
          exact ⟨RetB.mk (b := false) (by simp [LabQ]), Below.refl _ _⟩
      · go_wp2_with fail
        go_ret
        exact ⟨RetB.mk (b := false) (by simp [LabQ]), Below.refl _ _⟩
    · go_wp2_with fail
      refine (points_any s _ hs).mono ?_
      rintro e w2 ⟨⟨v, b, rfl⟩, hb⟩
      cases b
      · go_wp2_with fail
        go_ret
        exact ⟨RetB.mk (b := false) (by simp [LabQ]), hb⟩
      · by_cases h1 : 1 ≤ s.size
        · have d1 : decide ((1 : Int) ≤ (s.size : Int)) = true := by simp; omega
          go_wp2_with fail
          go_ret
          exact ⟨RetB.mk (fun _ => h1), hb⟩
        · have d1 : decide ((1 : Int) ≤ (s.size : Int)) = false := by simp; omega
          go_wp2_with fail
          go_ret
          exact ⟨RetB.mk (b := false) (by simp [LabQ]), hb⟩
end Go.Proofs.Ytdijlakeonionaa

/-
  Texts, inventories and orthographies in memory.
-/
namespace Go.Proofs.Ytdijlakeonionaa
open Go.ChangeShapes Go.WideShapes Go.ChangeAt Go.RowKit
theorem flat2_at {α : Type} (f : α → List Value) (hf : ∀ a, (f a).length = 2) (l : List α) (k : Nat) (h : k < l.length) (j : Nat) (hj : j < 2) : (l.flatMap f)[k * 2 + j]? = (f l[k])[j]? := by
  induction l generalizing k with
  | nil => simp at h
  | cons a l ih =>
    have ha := hf a
    cases k with
    | zero => rw [List.flatMap_cons, List.getElem?_append_left (by omega)]; simp
    | succ k =>
      rw [List.flatMap_cons, List.getElem?_append_right (by omega), show (k + 1) * 2 + j - (f a).length = k * 2 + j by omega]
      exact ih k (by simpa using h)
/-! a list of texts -/
def RdS (w : World) (v : Value) (ss : List ByteArray) : Prop := Rd w 1 v ss.length (ss.map Value.string)
theorem RdS.below {w w' : World} {v : Value} {ss : List ByteArray} (h : RdS w v ss) (hb : Below w.heap.size w w') : RdS w' v ss := Rd.below h hb
def StAt (w : World) (A : Option Addr) (l : List ByteArray) (k : Nat) : Prop :=
  ∃ b off s, A = some ⟨b, off, none⟩ ∧ b < w.heap.size ∧ Hid (l.drop k = s :: l.drop (k + 1)) ∧ w.cell? ⟨b, off + k, none⟩ = some (.string s)
theorem RdS.op {w : World} {v : Value} {l : List ByteArray} (h : RdS w v l) : ∃ (A : Option Addr) (n c : Nat), v = .slice A n c ∧ n ≤ c ∧ c ≤ 9223372036854775807 ∧ Hid (l.length = n) ∧ Hid (∀ k, k < n → StAt w A l k) := by
  obtain ⟨A, c, rfl, h1, h2, h3, h4⟩ := h
  refine ⟨A, _, c, rfl, h1, h2, rfl, fun k hk => ?_⟩
  obtain ⟨b, off, rfl, hb, hc⟩ := h4 (by omega)
  exact ⟨b, off, l[k], rfl, hb, List.drop_eq_getElem_cons hk, hc k _ (by simp [hk])⟩
theorem StAt.below {w w' : World} {A : Option Addr} {l : List ByteArray} {k : Nat} (h : StAt w A l k) (hb : Below w.heap.size w w') : StAt w' A l k := by
  obtain ⟨b, off, s, rfl, h1, h2, h3⟩ := h
  exact ⟨b, off, s, rfl, by have := hb.size; omega, h2, (hb.cell h1).trans h3⟩
/-! a list of lists of texts -/
def RdSS (w : World) (v : Value) (Ls : List (List ByteArray)) : Prop := ∃ us : List Value, Rd w 1 v Ls.length us ∧ us.length = Ls.length ∧ ∀ (i : Nat) (u : Value) (l : List ByteArray), us[i]? = some u → Ls[i]? = some l → RdS w u l
theorem RdSS.below {w w' : World} {v : Value} {Ls : List (List ByteArray)} (h : RdSS w v Ls) (hb : Below w.heap.size w w') : RdSS w' v Ls := by
  obtain ⟨us, h1, h2, h3⟩ := h
  exact ⟨us, Rd.below h1 hb, h2, fun i u l hu hl => (h3 i u l hu hl).below hb⟩
def SSAt (w : World) (A : Option Addr) (Ls : List (List ByteArray)) (k : Nat) : Prop :=
  ∃ b off B m cm l, A = some ⟨b, off, none⟩ ∧ b < w.heap.size ∧ Hid (Ls.drop k = l :: Ls.drop (k + 1)) ∧ w.cell? ⟨b, off + k, none⟩ = some (.slice B m cm) ∧ Hid (RdS w (.slice B m cm) l)
theorem RdSS.op {w : World} {v : Value} {Ls : List (List ByteArray)} (h : RdSS w v Ls) : ∃ (A : Option Addr) (n c : Nat), v = .slice A n c ∧ n ≤ c ∧ c ≤ 9223372036854775807 ∧ Hid (Ls.length = n) ∧
    Hid (∀ k, k < n → SSAt w A Ls k) := by
  obtain ⟨us, ⟨A, c, rfl, h1, h2, h3, h4⟩, h5, h6⟩ := h
  refine ⟨A, _, c, rfl, h1, h2, rfl, fun k hk => ?_⟩
  obtain ⟨b, off, rfl, hb, hc⟩ := h4 (by omega)
  have hu : us[k]? = some (us[k]'(by omega)) := List.getElem?_eq_getElem (by omega)
  have hl : Ls[k]? = some (Ls[k]'hk) := List.getElem?_eq_getElem hk
  have h7 := h6 k _ _ hu hl
  obtain ⟨B, m, cm, he, _, _, _, _⟩ := h7.op
  have h8 := hc k _ hu
  rw [he] at h7 h8
  exact ⟨b, off, B, m, cm, Ls[k], rfl, hb, List.drop_eq_getElem_cons hk, h8, h7⟩
theorem SSAt.below {w w' : World} {A : Option Addr} {Ls : List (List ByteArray)} {k : Nat} (h : SSAt w A Ls k) (hb : Below w.heap.size w w') : SSAt w' A Ls k := by
  obtain ⟨b, off, B, m, cm, l, rfl, h1, h2, h3, h4⟩ := h
  exact ⟨b, off, B, m, cm, l, rfl, by have := hb.size; omega, h2, (hb.cell h1).trans h3, h4.out.below hb⟩
/-! the segments of an inventory -/
structure PPh where
  name : ByteArray
  feat : Int
def phCells (p : PPh) : List Value := [.string p.name, .int .i64 p.feat]
def RdPh (w : World) (v : Value) (l : List PPh) : Prop := Rd w 2 v l.length (l.flatMap phCells)
theorem RdPh.below {w w' : World} {v : Value} {l : List PPh} (h : RdPh w v l) (hb : Below w.heap.size w w') : RdPh w' v l := Rd.below h hb
def PhAt (w : World) (A : Option Addr) (l : List PPh) (k : Nat) : Prop :=
  ∃ b off p, A = some ⟨b, off, none⟩ ∧ b < w.heap.size ∧ Hid (l.drop k = p :: l.drop (k + 1)) ∧ w.cell? ⟨b, off + k * 2, none⟩ = some (.string p.name) ∧ w.cell? ⟨b, off + k * 2 + 1, none⟩ = some (.int .i64 p.feat)
theorem RdPh.op {w : World} {v : Value} {l : List PPh} (h : RdPh w v l) : ∃ (A : Option Addr) (n c : Nat), v = .slice A n c ∧ n ≤ c ∧ c ≤ 9223372036854775807 ∧ Hid (l.length = n) ∧ Hid (∀ k, k < n → PhAt w A l k) := by
  obtain ⟨A, c, rfl, h1, h2, h3, h4⟩ := h
  refine ⟨A, _, c, rfl, h1, h2, rfl, fun k hk => ?_⟩
  obtain ⟨b, off, rfl, hb, hc⟩ := h4 (by omega)
  exact ⟨b, off, l[k], rfl, hb, List.drop_eq_getElem_cons hk, hc (k * 2 + 0) _ (flat2_at phCells (fun _ => rfl) l k hk 0 (by omega)), hc (k * 2 + 1) _ (flat2_at phCells (fun _ => rfl) l k hk 1 (by omega))⟩
theorem PhAt.below {w w' : World} {A : Option Addr} {l : List PPh} {k : Nat} (h : PhAt w A l k) (hb : Below w.heap.size w w') : PhAt w' A l k := by
  obtain ⟨b, off, p, rfl, h1, h2, h3, h4⟩ := h
  exact ⟨b, off, p, rfl, by have := hb.size; omega, h2, (hb.cell h1).trans h3, (hb.cell h1).trans h4⟩
/-! units -/
structure PU where
  g : ByteArray
  s : List Int
def uCells (x : PU × Value) : List Value := [.string x.1.g, x.2]
def RdU (w : World) (v : Value) (P : List PU) : Prop := ∃ us : List Value, us.length = P.length ∧ Rd w 2 v P.length ((P.zip us).flatMap uCells) ∧ ∀ (i : Nat) (u : Value) (p : PU), us[i]? = some u → P[i]? = some p → RdI w u p.s
theorem RdU.below {w w' : World} {v : Value} {P : List PU} (h : RdU w v P) (hb : Below w.heap.size w w') : RdU w' v P := by
  obtain ⟨us, h1, h2, h3⟩ := h
  exact ⟨us, h1, Rd.below h2 hb, fun i u p hu hp => (h3 i u p hu hp).below hb⟩
def UAt (w : World) (A : Option Addr) (P : List PU) (k : Nat) : Prop :=
  ∃ b off B m cm p, A = some ⟨b, off, none⟩ ∧ b < w.heap.size ∧ Hid (P.drop k = p :: P.drop (k + 1)) ∧ w.cell? ⟨b, off + k * 2, none⟩ = some (.string p.g) ∧ w.cell? ⟨b, off + k * 2 + 1, none⟩ = some (.slice B m cm) ∧ Hid (RdI w (.slice B m cm) p.s)
theorem RdU.op {w : World} {v : Value} {P : List PU} (h : RdU w v P) : ∃ (A : Option Addr) (n c : Nat), v = .slice A n c ∧ n ≤ c ∧ c ≤ 9223372036854775807 ∧ Hid (P.length = n) ∧ Hid (∀ k, k < n → UAt w A P k) := by
  obtain ⟨us, h5, ⟨A, c, rfl, h1, h2, h3, h4⟩, h6⟩ := h
  refine ⟨A, _, c, rfl, h1, h2, rfl, fun k hk => ?_⟩
  obtain ⟨b, off, rfl, hb, hc⟩ := h4 (by omega)
  have hu : us[k]? = some (us[k]'(by omega)) := List.getElem?_eq_getElem (by omega)
  have hp : P[k]? = some (P[k]'hk) := List.getElem?_eq_getElem hk
  have h7 := h6 k _ _ hu hp
  obtain ⟨B, m, cm, he, _, _, _, _⟩ := h7.op
  have hz : k < (P.zip us).length := by simp; omega
  have c0 := hc (k * 2 + 0) _ (flat2_at uCells (fun _ => rfl) (P.zip us) k hz 0 (by omega))
  have c1 := hc (k * 2 + 1) _ (flat2_at uCells (fun _ => rfl) (P.zip us) k hz 1 (by omega))
  simp only [List.getElem_zip] at c0 c1
  rw [he] at h7 c1
  exact ⟨b, off, B, m, cm, P[k], rfl, hb, List.drop_eq_getElem_cons hk, c0, c1, h7⟩
theorem UAt.below {w w' : World} {A : Option Addr} {P : List PU} {k : Nat} (h : UAt w A P k) (hb : Below w.heap.size w w') : UAt w' A P k := by
  obtain ⟨b, off, B, m, cm, p, rfl, h1, h2, h3, h4, h5⟩ := h
  exact ⟨b, off, B, m, cm, p, rfl, by have := hb.size; omega, h2, (hb.cell h1).trans h3, (hb.cell h1).trans h4, h5.out.below hb⟩
/-! an orthography -/
structure PO where
  name : ByteArray
  units : List PU
  letters : List (List ByteArray)
def RdO (w : World) (v : Value) (o : PO) : Prop := ∃ vu vl, v = .agg #[.string o.name, vu, vl] ∧ RdU w vu o.units ∧ RdSS w vl o.letters
theorem RdO.below {w w' : World} {v : Value} {o : PO} (h : RdO w v o) (hb : Below w.heap.size w w') : RdO w' v o := by
  obtain ⟨vu, vl, rfl, h1, h2⟩ := h
  exact ⟨vu, vl, rfl, h1.below hb, h2.below hb⟩
theorem RdO.op {w : World} {v : Value} {o : PO} (h : RdO w v o) : ∃ (A : Option Addr) (n c : Nat) (B : Option Addr) (m d : Nat), v = .agg #[.string o.name, .slice A n c, .slice B m d] ∧ Hid (RdU w (.slice A n c) o.units) ∧ Hid (RdSS w (.slice B m d) o.letters) ∧ Hid (o.units.length = n) ∧ Hid (o.letters.length = m) := by
  obtain ⟨vu, vl, rfl, h1, h2⟩ := h
  obtain ⟨A, n, c, rfl, _, _, hn, _⟩ := id h1.op
  obtain ⟨B, m, d, rfl, _, _, hm, _⟩ := id h2.op
  exact ⟨A, n, c, B, m, d, rfl, h1, h2, hn, hm⟩
/-- texts that are not too long -/
def SmS (s : ByteArray) : Prop := s.size ≤ 1048576
end Go.Proofs.Ytdijlakeonionaa

/-
  label of the reference of orthographies; Check of the reference of phonemes.
-/
namespace Go.Proofs.Ytdijlakeonionaa
open Go.ChangeShapes Go.WideShapes Go.ChangeAt Go.RowKit
theorem cell_keep {w w' : World} {b o : Nat} {x : Value} (hb : b < w.heap.size) (hc : w.cell? ⟨b, o, none⟩ = some x) (h : Below w.heap.size w w') : w'.cell? ⟨b, o, none⟩ = some x := (h.cell (p := ⟨b, o, none⟩) hb).trans hc
/-- the call returns a number of which Q holds -/
def RetE (Q : Int → Prop) (e : Ending) : Prop := ∃ x, e = .returned (.int .i64 x) ∧ Q x
theorem RetE.mk {Q : Int → Prop} {x : Int} (h : Q x) : RetE Q (.returned (.int .i64 x)) := ⟨x, rfl, h⟩
def AnyE (_ : Int) : Prop := True
set_option maxHeartbeats 8000000 in
set_option maxRecDepth 100000 in
theorem check16_any (v : Value) (L : List PPh) (w : World) (hv : RdPh w v L) (hl : L.length ≤ 1048576) (hs : ∀ p ∈ L, SmS p.name) :
    Calls Try.prog 36 #[.agg #[v]] w fun e w' => RetE AnyE e ∧ Below w.heap.size w w' := by
  have HV := Lib.hid hv
  have HSM := Lib.hid hs
  obtain ⟨A, n, c, rfl, hnc, hcm, HN, HR⟩ := hv.op
  rw [HN.out] at hl
  clear hv hs
  go_enter Try.func36, Try.ntmps36
  go_upto_region 1 with (fail)
  generalize hW : World.alloc w _ = W
  have HBW : Hid (Below w.heap.size w W) := by rw [← hW]; repeat (first | assumption | exact Below.refl _ _ | refine Below.alloc ?_ (by first | omega | (simp; done) | (simp; omega)) _ | refine Below.drew ?_ | refine below_drewN ?_ _ | refine Below.setCell ?_ (by first | omega | (simp; done) | (simp; omega)) _)
  have z0 : W.cell? ⟨w.heap.size, 0, none⟩ = some (.slice A n c) := by rw [← hW]; simp [go_sem]
  have hgW : w.heap.size < W.heap.size := by rw [← hW]; simp
  have HRW : Hid (∀ k, k < n → PhAt W A L k) := fun k hk => (HR.out k hk).below HBW.out
  clear hW HR HV
  have HZ := Lib.hid z0
  have HBO : Hid (∀ W' : World, Below W.heap.size W W' → Below w.heap.size w W') := fun W' h => bchain HBW.out h
  clear HBW
  generalize hg : w.heap.size = g at z0 hgW HZ HBO ⊢
  have HG := Lib.hid hg
  clear hg
  by_cases h60 : 60 < n
  · have d60 : decide (60 < (n : Int)) = true := by simp; omega
    go_wp2_with fail
    go_ret
    exact ⟨RetE.mk (Q := AnyE) trivial, by rw [HG.out]; exact HBO.out _ (Below.refl _ _)⟩
  have d60 : decide (60 < (n : Int)) = false := by simp; omega
  go_wp2_with fail
  clear z0 d60
  go_loopw [12] (fun i wr => ∃ k : Nat, k ≤ n ∧ i = .int .i64 k ∧ Hid (Below W.heap.size W wr)) (fun i _ => n - (intOf i).toNat)
  case atStart => exact ⟨0, Nat.zero_le _, rfl, Below.refl _ _⟩
  case round =>
    obtain ⟨k, hk, rfl, HB⟩ := hrel
    have z0 := cell_keep hgW HZ.out HB.out
    by_cases hlt : k < n
    · obtain ⟨b, off, p, rfl, hbl, hdr, c0, c1⟩ := (HRW.out k hlt).below HB.out
      have hps : p.name.size ≤ 1048576 := HSM.out p (List.mem_of_mem_drop (by rw [hdr.out]; exact List.mem_cons_self))
      have C1 := Lib.hid c1
      have C0 := Lib.hid c0
      clear hdr
      generalize p.feat = feat at c1 C1
      generalize p.name = nm at c0 C0 hps
      clear p
      go_wp2_with fail
      refine (label_any nm _ hps).mono ?_
      rintro e w2 ⟨⟨q, rfl, _⟩, hb⟩
      have HB2 := Lib.hid (bchain HB.out hb)
      have D0 := Lib.hid (cell_keep hbl C0.out hb)
      have D1 := Lib.hid (cell_keep hbl C1.out hb)
      have hb2 : b < w2.heap.size := Nat.lt_of_lt_of_le hbl hb.size
      clear hb c0 c1 C0 C1 z0
      have z0 := cell_keep hgW HZ.out HB2.out
      cases q
      · go_wp2_with fail
        go_ret
        exact ⟨RetE.mk (Q := AnyE) trivial, by rw [HG.out]; exact HBO.out _ HB2.out⟩
      go_wp2_with fail
      have hk0 : (0 : Int) ≤ (k : Int) := by omega
      have hk1 : (k : Int) < (n : Int) := by omega
      clear z0
      go_loopw [4] (fun i wr => ∃ j : Nat, j ≤ k ∧ i = .int .i64 j ∧ Hid (Below w2.heap.size w2 wr)) (fun i _ => k - (intOf i).toNat)
      case atStart => exact ⟨0, Nat.zero_le _, rfl, Below.refl _ _⟩
      case round =>
        obtain ⟨j, hj, rfl, HB3⟩ := hrel
        have z0 := cell_keep hgW HZ.out (bchain HB2.out HB3.out)
        have c0 := cell_keep hb2 D0.out HB3.out
        have c1 := cell_keep hb2 D1.out HB3.out
        by_cases hjt : j < k
        · obtain ⟨b', off', p, hA, hbl', _, e0, _⟩ := (HRW.out j (by omega)).below (bchain HB2.out HB3.out)
          cases hA
          generalize p.name = nm2 at e0
          have hj0 : (0 : Int) ≤ (j : Int) := by omega
          have hj1 : (j : Int) < (n : Int) := by omega
          go_wp2_with fail
          go_quiet (fail)
          generalize (nm2.toList == nm.toList) = q2
          cases q2
          · go_wp2_with fail
            go_roundw
            case rel => exact ⟨j + 1, by omega, by go_num, below_drewN HB3.out _⟩
            case measure => simp [intOf]; omega
          · go_wp2_with fail
            go_ret
            exact ⟨RetE.mk (Q := AnyE) trivial, by rw [HG.out]; exact HBO.out _ (bchain HB2.out (below_drewN HB3.out _))⟩
        · go_wp2_with fail
          all_goals first
            | (go_ret; exact ⟨RetE.mk (Q := AnyE) trivial, by rw [HG.out]; exact HBO.out _ (bchain HB2.out HB3.out)⟩)
            | (go_roundw
               case rel => exact ⟨k + 1, by omega, by go_num, bchain HB2.out HB3.out⟩
               case measure => simp [intOf]; omega)
    · go_wp2_with fail
      go_ret
      exact ⟨RetE.mk (Q := AnyE) trivial, by rw [HG.out]; exact HBO.out _ HB.out⟩
end Go.Proofs.Ytdijlakeonionaa

