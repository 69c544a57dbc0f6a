/-
  The part of older texts that this seat needs (printed by shake.py): W1 W2 W3 W4 W5 W6 W7 W8 W9 W10 W11 W12 W13 WP1 W14 WP2 W15 W16
-/
import Derived.Test.YtiopgbbggeimaaaGreatY1
/-
  Points of a text: Scalar, encoded, first of the reference of runes.
-/
namespace Go.Proofs.YtiopgbbggeimaaaGreat
open Go.ChangeShapes Go.WideShapes Go.ChangeAt Go.RowKit
/-- the call returns a bool of which Q holds -/
def RetB (Q : Bool → Prop) (e : Ending) : Prop := ∃ b, e = .returned (.bool b) ∧ Q b
theorem RetB.mk {Q : Bool → Prop} {b : Bool} (h : Q b) : RetB Q (.returned (.bool b)) := ⟨b, rfl, h⟩
/-- the call returns a text of which Q holds -/
def RetS (Q : ByteArray → Prop) (e : Ending) : Prop := ∃ s, e = .returned (.string s) ∧ Q s
theorem RetS.mk {Q : ByteArray → Prop} {s : ByteArray} (h : Q s) : RetS Q (.returned (.string s)) := ⟨s, rfl, h⟩
def ScQ (p : Int) (b : Bool) : Prop := b = true → 0 ≤ p ∧ p ≤ 1114111
set_option maxHeartbeats 1000000 in
theorem scalar_any (p : Int) (w : World) : Calls Tryz.prog 132 #[.int .i64 p] w fun e w' => RetB (ScQ p) e ∧ w = w' := by
  by_cases h0 : 0 ≤ p
  rotate_left
  · have d0 : decide (0 ≤ p) = false := by simpa using h0
    go_enter Tryz.func132, Tryz.ntmps132
    go_wp2_with fail
    go_ret
    exact ⟨RetB.mk (b := false) (by simp [ScQ]), rfl⟩
  by_cases h1 : p ≤ 1114111
  rotate_left
  · have d1 : decide (p ≤ 1114111) = false := by simpa using h1
    have d0 : decide (0 ≤ p) = true := by simpa using h0
    go_enter Tryz.func132, Tryz.ntmps132
    go_wp2_with fail
    go_ret
    exact ⟨RetB.mk (b := false) (by simp [ScQ]), rfl⟩
  have d1 : decide (p ≤ 1114111) = true := by simpa using h1
  have d0 : decide (0 ≤ p) = true := by simpa using h0
  by_cases h2 : p < 55296
  · have d2 : decide (p < 55296) = true := by simpa using h2
    go_enter Tryz.func132, Tryz.ntmps132
    go_wp2_with fail
    go_ret
    exact ⟨RetB.mk fun _ => ⟨h0, h1⟩, rfl⟩
  have d2 : decide (p < 55296) = false := by simpa using h2
  go_enter Tryz.func132, Tryz.ntmps132
  go_wp2_with fail
  go_ret
  exact ⟨RetB.mk fun _ => ⟨h0, h1⟩, rfl⟩
def bs (l : List Int) : ByteArray := ⟨(l.map fun x => UInt8.ofNat x.toNat).toArray⟩
theorem conv_back (w : World) (l : List Int) (hl : ∀ x ∈ l, 0 ≤ x ∧ x < 256) : (convert 108 9 (.slice (some ⟨w.heap.size, 0, none⟩) l.length l.length)).run Tryz.prog (w.alloc (.cells (l.map (Value.int .u8)).toArray 5)) =
    .ok (.string (bs l)) (w.alloc (.cells (l.map (Value.int .u8)).toArray 5)) := by
  have := run_convert_bytes_back (P := Tryz.prog) (w.alloc (.cells (l.map (Value.int .u8)).toArray 5)) 108 9 5 ⟨w.heap.size, 0, none⟩ l.length (l.map fun x => UInt8.ofNat x.toNat) Tryz.underlying108 Tryz.underlying5 Tryz.underlying9 ?_
  · simpa [bs] using this
  · intro j hj
    have hjl : j < l.length := by simpa using hj
    have hx := hl l[j] (List.getElem_mem hjl)
    have he : (⟨w.heap.size, 0, none⟩ : Addr).add j = ⟨w.heap.size, j, none⟩ := by unfold Addr.add; split <;> simp_all
    rw [he, cell_of_row _ w.heap.size j (l.map (Value.int .u8)).toArray 5 (0, 0) (heap_alloc_new w _)]
    simp [List.getElem?_eq_getElem hjl]
    omega
theorem conv1 (w : World) (a : Int) (ha : 0 ≤ a ∧ a < 256) : (convert 108 9 (.slice (some ⟨w.heap.size, 0, none⟩) 1 1)).run Tryz.prog (w.alloc (.cells #[.int .u8 a] 5)) = .ok (.string (bs [a])) (w.alloc (.cells #[.int .u8 a] 5)) := by
  simpa using conv_back w [a] (by intro x hx; simp at hx; rcases hx with rfl <;> assumption)
theorem conv2 (w : World) (a b : Int) (ha : 0 ≤ a ∧ a < 256) (hb : 0 ≤ b ∧ b < 256) : (convert 108 9 (.slice (some ⟨w.heap.size, 0, none⟩) 2 2)).run Tryz.prog (w.alloc (.cells #[.int .u8 a, .int .u8 b] 5)) = .ok (.string (bs [a, b])) (w.alloc (.cells #[.int .u8 a, .int .u8 b] 5)) := by
  simpa using conv_back w [a, b] (by intro x hx; simp at hx; rcases hx with rfl | rfl <;> assumption)
theorem conv3 (w : World) (a b c : Int) (ha : 0 ≤ a ∧ a < 256) (hb : 0 ≤ b ∧ b < 256) (hc : 0 ≤ c ∧ c < 256) : (convert 108 9 (.slice (some ⟨w.heap.size, 0, none⟩) 3 3)).run Tryz.prog (w.alloc (.cells #[.int .u8 a, .int .u8 b, .int .u8 c] 5)) = .ok (.string (bs [a, b, c])) (w.alloc (.cells #[.int .u8 a, .int .u8 b, .int .u8 c] 5)) := by
  simpa using conv_back w [a, b, c] (by intro x hx; simp at hx; rcases hx with rfl | rfl | rfl <;> assumption)
theorem conv4 (w : World) (a b c d : Int) (ha : 0 ≤ a ∧ a < 256) (hb : 0 ≤ b ∧ b < 256) (hc : 0 ≤ c ∧ c < 256) (hd : 0 ≤ d ∧ d < 256) : (convert 108 9 (.slice (some ⟨w.heap.size, 0, none⟩) 4 4)).run Tryz.prog (w.alloc (.cells #[.int .u8 a, .int .u8 b, .int .u8 c, .int .u8 d] 5)) = .ok (.string (bs [a, b, c, d])) (w.alloc (.cells #[.int .u8 a, .int .u8 b, .int .u8 c, .int .u8 d] 5)) := by
  simpa using conv_back w [a, b, c, d] (by intro x hx; simp at hx; rcases hx with rfl | rfl | rfl | rfl <;> assumption)
set_option maxHeartbeats 4000000 in
set_option maxRecDepth 100000 in
theorem encoded_any (p : Int) (w : World) (h0 : 0 ≤ p) (h1 : p ≤ 1114111) : Calls Tryz.prog 133 #[.int .i64 p] w fun e w' => RetS (fun _ => True) e ∧ Below w.heap.size w w' := by
  by_cases h2 : p < 128
  · have d2 : decide (p < 128) = true := by simpa using h2
    have kc := conv1 w p (by omega)
    go_enter Tryz.func133, Tryz.ntmps133
    go_wp2_with fail
    go_ret
    exact ⟨RetS.mk trivial, by repeat (first | assumption | exact Below.refl _ _ | refine Below.alloc ?_ (by first | omega | (simp; done) | (simp; omega)) _ | refine Below.drew ?_ | refine below_drewN ?_ _ | refine Below.setCell ?_ (by first | omega | (simp; done) | (simp; omega)) _)⟩
  have d2 : decide (p < 128) = false := by simpa using h2
  by_cases h3 : p < 2048
  · have d3 : decide (p < 2048) = true := by simpa using h3
    have kc := conv2 w (192 + p / 64) (128 + p % 64) (by omega) (by omega)
    go_enter Tryz.func133, Tryz.ntmps133
    go_wp2_with fail
    go_ret
    exact ⟨RetS.mk trivial, by repeat (first | assumption | exact Below.refl _ _ | refine Below.alloc ?_ (by first | omega | (simp; done) | (simp; omega)) _ | refine Below.drew ?_ | refine below_drewN ?_ _ | refine Below.setCell ?_ (by first | omega | (simp; done) | (simp; omega)) _)⟩
  have d3 : decide (p < 2048) = false := by simpa using h3
  by_cases h4 : p < 65536
  · have d4 : decide (p < 65536) = true := by simpa using h4
    have kc := conv3 w (224 + p / 4096) (128 + p / 64 % 64) (128 + p % 64) (by omega) (by omega) (by omega)
    go_enter Tryz.func133, Tryz.ntmps133
    go_wp2_with fail
    go_ret
    exact ⟨RetS.mk trivial, by repeat (first | assumption | exact Below.refl _ _ | refine Below.alloc ?_ (by first | omega | (simp; done) | (simp; omega)) _ | refine Below.drew ?_ | refine below_drewN ?_ _ | refine Below.setCell ?_ (by first | omega | (simp; done) | (simp; omega)) _)⟩
  have d4 : decide (p < 65536) = false := by simpa using h4
  have kc := conv4 w (240 + p / 262144) (128 + p / 4096 % 64) (128 + p / 64 % 64) (128 + p % 64) (by omega) (by omega) (by omega) (by omega)
  go_enter Tryz.func133, Tryz.ntmps133
  go_wp2_with fail
  go_ret
  exact ⟨RetS.mk trivial, by repeat (first | assumption | exact Below.refl _ _ | refine Below.alloc ?_ (by first | omega | (simp; done) | (simp; omega)) _ | refine Below.drew ?_ | refine below_drewN ?_ _ | refine Below.setCell ?_ (by first | omega | (simp; done) | (simp; omega)) _)⟩
end Go.Proofs.YtiopgbbggeimaaaGreat

/-
  first of the reference of runes.
-/
namespace Go.Proofs.YtiopgbbggeimaaaGreat
open Go.ChangeShapes Go.WideShapes Go.ChangeAt Go.RowKit
/-- what first returns: nothing, or a number of bytes that lie in the text -/
def FirstQ (n at' : Nat) (e : Ending) : Prop := ∃ (p : Int) (k : Nat), e = .returned (.tuple #[.int .i64 p, .int .i64 k]) ∧ (0 < k → at' + k ≤ n)
theorem FirstQ.none {n a : Nat} : FirstQ n a (.returned (.tuple #[.int .i64 (-1), .int .i64 0])) := ⟨-1, 0, rfl, fun h => absurd h (Nat.lt_irrefl 0)⟩
theorem FirstQ.mk {n a : Nat} {p z : Int} {k : Nat} (h : a + k ≤ n) (hz : z = k) : FirstQ n a (.returned (.tuple #[.int .i64 p, .int .i64 z])) := ⟨p, k, by rw [hz], fun _ => h⟩
theorem wrap64_of (n : Int) (h : 0 ≤ n ∧ n ≤ 9223372036854775807) : wrap64 n = n := by unfold wrap64; omega
set_option maxHeartbeats 4000000 in
set_option maxRecDepth 100000 in
theorem first_any (s : ByteArray) (a : Nat) (w : World) (hs : s.size ≤ 1048576) (ha : a < s.size) : Calls Tryz.prog 118 #[.string s, .int .i64 a] w fun e w' => FirstQ s.size a e ∧ Below w.heap.size w w' := by
  obtain ⟨y, hy, hy0, hy1⟩ : ∃ y : Int, wrap64 (((s[a]'ha).toNat : Nat) : Int) = y ∧ 0 ≤ y ∧ y < 256 := by
    have h1 := (s[a]'ha).toNat_lt
    exact ⟨(s[a]'ha).toNat, wrap64_of _ (by omega), by omega, by omega⟩
  go_enter Tryz.func118, Tryz.ntmps118
  go_upto_region 3 with (fail)
  simp only [hy]
  clear hy
  by_cases h1 : 240 ≤ y
  · have d1 : decide (240 ≤ y) = true := by simpa using h1
    have hn1 : 1 ≤ 4 := by omega
    by_cases hsz : s.size < a + 4
    · have e1 : decide ((s.size : Int) < (a : Int) + 4) = true := by simp; omega
      go_wp2_with fail
      go_ret2
      exact ⟨FirstQ.none, Below.refl _ _⟩
    have e1 : decide ((s.size : Int) < (a : Int) + 4) = false := by simp; omega
    go_wp2_with fail
    clear e1
    go_loop [6, 8] (fun p i => ∃ (q : Int) (k : Nat), p = .int .i64 q ∧ i = .int .i64 k ∧ 1 ≤ k ∧ k ≤ 4 ∧ 0 ≤ q ∧ ((k = 1 ∧ q < 256) ∨ (k = 2 ∧ q < 16384) ∨ (k = 3 ∧ q < 1048576) ∨ (k = 4 ∧ q < 67108864))) (fun _ i => 4 - (intOf i).toNat)
    case atStart => exact ⟨y - 240, 1, rfl, rfl, by omega, by omega, by omega, .inl ⟨rfl, by omega⟩⟩
    case round =>
      obtain ⟨q, k, rfl, rfl, hk1, hkn, hq0, hq1⟩ := hrel
      by_cases hlt : k < 4
      · have hak : a + k < s.size := by omega
        obtain ⟨z, hz, hz0, hz1⟩ : ∃ z : Int, wrap64 (((s[a + k]'hak).toNat : Nat) : Int) = z ∧ 0 ≤ z ∧ z < 256 := by
          have h1 := (s[a + k]'hak).toNat_lt
          exact ⟨(s[a + k]'hak).toNat, wrap64_of _ (by omega), by omega, by omega⟩
        go_wp2_with fail
        go_round
        case rel => exact ⟨_, k + 1, rfl, by go_num, by omega, by omega, by omega, by omega⟩
        case measure => simp [intOf]; omega
      · obtain rfl : k = 4 := by omega
        clear hq1 hlt
        go_wp2_with fail
        refine wp_region_mix 12 [0, 1, 2, 3, 4, 5, 6, 7, 8, 9, 10, 11] [] [(true, 0), (false, 1), (true, 2), (true, 3), (true, 4), (true, 6), (true, 7), (true, 8), (true, 9), (true, 10), (true, 11), (false, 5), (false, 12), (false, 13)] (fun w' => Below w.heap.size w w') (by kernel_rfl) (by kernel_rfl) ?_
        rintro D hD
        have HSD : Hid (Below w.heap.size w D) := by rw [hD]; exact (Below.refl _ _).drew
        clear hD
        refine ⟨HSD.out, ?_⟩
        have HS : Hid (∀ w' : World, Below w.heap.size w w' → True) := fun _ _ => trivial
        (refine wpMix_q (v := ?_) rfl rfl (fun w' hS => ?_) ?_; rotate_left; (focus ((try obtain s0 := HS.out _ (hS rfl)); clear hS; go_simp; try with_reducible rfl; done)); (try simp only [Act.put, List.setIfInBounds_toArray, List.set_cons_zero, List.set_cons_succ]))
        refine wpMix_e rfl rfl (fun K hK => ?_)
        go_simp
        refine (scalar_any q _).mono ?_
        rintro e Y ⟨⟨b, rfl, hq⟩, rfl⟩
        refine hK.out _ _ (fun _ => HSD.out) ?_
        clear hK K
        (try simp only [Act.put, List.setIfInBounds_toArray, List.set_cons_zero, List.set_cons_succ])
        cases b
        · clear hq
          (refine wpMix_q (v := ?_) rfl rfl (fun w' hS => ?_) ?_; rotate_left; (focus ((try obtain s0 := HS.out _ (hS rfl)); clear hS; go_simp; try with_reducible rfl; done)); (try simp only [Act.put, List.setIfInBounds_toArray, List.set_cons_zero, List.set_cons_succ]))
          (refine wpMix_q (v := ?_) rfl rfl (fun w' hS => ?_) ?_; rotate_left; (focus ((try obtain s0 := HS.out _ (hS rfl)); clear hS; go_simp; try with_reducible rfl; done)); (try simp only [Act.put, List.setIfInBounds_toArray, List.set_cons_zero, List.set_cons_succ]))
          iterate 7 (refine wpMix_qskip rfl rfl ?_; (try simp only [Act.put, List.setIfInBounds_toArray, List.set_cons_zero, List.set_cons_succ]))
          (refine wpMix_eskip rfl rfl (HSD).out ?_; (try simp only [Act.put, List.setIfInBounds_toArray, List.set_cons_zero, List.set_cons_succ]))
          (refine wpMix_eskip rfl rfl (HSD).out ?_; (try simp only [Act.put, List.setIfInBounds_toArray, List.set_cons_zero, List.set_cons_succ]))
          (refine wpMix_e rfl rfl (fun K hK => ?_); go_simp; refine hK.out _ _ (fun h => absurd h (by decide)) ?_; clear hK K; (try simp only [Act.put, List.setIfInBounds_toArray, List.set_cons_zero, List.set_cons_succ]))
          refine wpMix_nil ?_
          refine NoPanic.normal ?_
          go_wp2_with fail
          go_ret2
          exact ⟨FirstQ.none, HSD.out⟩
        · have hq2 := hq rfl
          have hsl : (a : Int) + 4 ≤ (s.size : Int) := by omega
          have HQ := Lib.hid hq2
          clear hq hq2
          (refine wpMix_q (v := ?_) rfl rfl (fun w' hS => ?_) ?_; rotate_left; (focus ((try obtain s0 := HS.out _ (hS rfl)); clear hS; go_simp; try with_reducible rfl; done)); (try simp only [Act.put, List.setIfInBounds_toArray, List.set_cons_zero, List.set_cons_succ]))
          (refine wpMix_q (v := ?_) rfl rfl (fun w' hS => ?_) ?_; rotate_left; (focus ((try obtain s0 := HS.out _ (hS rfl)); clear hS; go_simp; try with_reducible rfl; done)); (try simp only [Act.put, List.setIfInBounds_toArray, List.set_cons_zero, List.set_cons_succ]))
          iterate 6 (refine wpMix_q (v := ?_) rfl rfl (fun w' hS => ?_) ?_; rotate_left; (focus ((try obtain s0 := HS.out _ (hS rfl)); clear hS; go_simp; try with_reducible rfl; done)); (try simp only [Act.put, List.setIfInBounds_toArray, List.set_cons_zero, List.set_cons_succ]))
          have hwr : IntKind.i64.wrap ((a : Int) + 4) = (a : Int) + 4 := (IntWalk.i64_left _).trans (wrap64_of _ (by omega))
          have htn : ((a : Int) + 4).toNat = a + 4 := by omega
          have h00 : 0 ≤ (a : Int) + 4 := by omega
          have haa : (a : Int) ≤ (a : Int) + 4 := by omega
          (refine wpMix_q (v := ?_) rfl rfl (fun w' hS => ?_) ?_; rotate_left; (focus ((try obtain s0 := HS.out _ (hS rfl)); clear hS; go_simp; try with_reducible rfl; done)); (try simp only [Act.put, List.setIfInBounds_toArray, List.set_cons_zero, List.set_cons_succ]))
          clear hwr htn h00 haa
          refine wpMix_e rfl rfl (fun K hK => ?_)
          go_simp
          refine (encoded_any q _ HQ.out.1 HQ.out.2).mono ?_
          rintro e Y2 ⟨⟨s', rfl, _⟩, hb⟩
          have HSY := Lib.hid (bchain HSD.out hb)
          refine hK.out _ _ (fun _ => HSY.out) ?_
          clear hK K hb
          (try simp only [Act.put, List.setIfInBounds_toArray, List.set_cons_zero, List.set_cons_succ])
          (refine wpMix_e rfl rfl (fun K hK => ?_); go_simp; refine hK.out _ _ (fun h => absurd h (by decide)) ?_; clear hK K; (try simp only [Act.put, List.setIfInBounds_toArray, List.set_cons_zero, List.set_cons_succ]))
          (refine wpMix_e rfl rfl (fun K hK => ?_); go_simp; refine hK.out _ _ (fun h => absurd h (by decide)) ?_; clear hK K; (try simp only [Act.put, List.setIfInBounds_toArray, List.set_cons_zero, List.set_cons_succ]))
          refine wpMix_nil ?_
          refine NoPanic.normal ?_
          go_wp2_with fail
          · go_ret2
            exact ⟨FirstQ.none, HSY.out⟩
          · go_ret2
            exact ⟨FirstQ.mk (k := 4) (by omega) rfl, HSY.out⟩
  have d1 : decide (240 ≤ y) = false := by simpa using h1
  by_cases h2 : 224 ≤ y
  · have d2 : decide (224 ≤ y) = true := by simpa using h2
    have hn1 : 1 ≤ 3 := by omega
    by_cases hsz : s.size < a + 3
    · have e1 : decide ((s.size : Int) < (a : Int) + 3) = true := by simp; omega
      go_wp2_with fail
      go_ret2
      exact ⟨FirstQ.none, Below.refl _ _⟩
    have e1 : decide ((s.size : Int) < (a : Int) + 3) = false := by simp; omega
    go_wp2_with fail
    clear e1
    go_loop [6, 8] (fun p i => ∃ (q : Int) (k : Nat), p = .int .i64 q ∧ i = .int .i64 k ∧ 1 ≤ k ∧ k ≤ 3 ∧ 0 ≤ q ∧ ((k = 1 ∧ q < 256) ∨ (k = 2 ∧ q < 16384) ∨ (k = 3 ∧ q < 1048576) ∨ (k = 4 ∧ q < 67108864))) (fun _ i => 3 - (intOf i).toNat)
    case atStart => exact ⟨y - 224, 1, rfl, rfl, by omega, by omega, by omega, .inl ⟨rfl, by omega⟩⟩
    case round =>
      obtain ⟨q, k, rfl, rfl, hk1, hkn, hq0, hq1⟩ := hrel
      by_cases hlt : k < 3
      · have hak : a + k < s.size := by omega
        obtain ⟨z, hz, hz0, hz1⟩ : ∃ z : Int, wrap64 (((s[a + k]'hak).toNat : Nat) : Int) = z ∧ 0 ≤ z ∧ z < 256 := by
          have h1 := (s[a + k]'hak).toNat_lt
          exact ⟨(s[a + k]'hak).toNat, wrap64_of _ (by omega), by omega, by omega⟩
        go_wp2_with fail
        go_round
        case rel => exact ⟨_, k + 1, rfl, by go_num, by omega, by omega, by omega, by omega⟩
        case measure => simp [intOf]; omega
      · obtain rfl : k = 3 := by omega
        clear hq1 hlt
        go_wp2_with fail
        refine wp_region_mix 12 [0, 1, 2, 3, 4, 5, 6, 7, 8, 9, 10, 11] [] [(true, 0), (false, 1), (true, 2), (true, 3), (true, 4), (true, 6), (true, 7), (true, 8), (true, 9), (true, 10), (true, 11), (false, 5), (false, 12), (false, 13)] (fun w' => Below w.heap.size w w') (by kernel_rfl) (by kernel_rfl) ?_
        rintro D hD
        have HSD : Hid (Below w.heap.size w D) := by rw [hD]; exact (Below.refl _ _).drew
        clear hD
        refine ⟨HSD.out, ?_⟩
        have HS : Hid (∀ w' : World, Below w.heap.size w w' → True) := fun _ _ => trivial
        (refine wpMix_q (v := ?_) rfl rfl (fun w' hS => ?_) ?_; rotate_left; (focus ((try obtain s0 := HS.out _ (hS rfl)); clear hS; go_simp; try with_reducible rfl; done)); (try simp only [Act.put, List.setIfInBounds_toArray, List.set_cons_zero, List.set_cons_succ]))
        refine wpMix_e rfl rfl (fun K hK => ?_)
        go_simp
        refine (scalar_any q _).mono ?_
        rintro e Y ⟨⟨b, rfl, hq⟩, rfl⟩
        refine hK.out _ _ (fun _ => HSD.out) ?_
        clear hK K
        (try simp only [Act.put, List.setIfInBounds_toArray, List.set_cons_zero, List.set_cons_succ])
        cases b
        · clear hq
          (refine wpMix_q (v := ?_) rfl rfl (fun w' hS => ?_) ?_; rotate_left; (focus ((try obtain s0 := HS.out _ (hS rfl)); clear hS; go_simp; try with_reducible rfl; done)); (try simp only [Act.put, List.setIfInBounds_toArray, List.set_cons_zero, List.set_cons_succ]))
          (refine wpMix_q (v := ?_) rfl rfl (fun w' hS => ?_) ?_; rotate_left; (focus ((try obtain s0 := HS.out _ (hS rfl)); clear hS; go_simp; try with_reducible rfl; done)); (try simp only [Act.put, List.setIfInBounds_toArray, List.set_cons_zero, List.set_cons_succ]))
          iterate 7 (refine wpMix_qskip rfl rfl ?_; (try simp only [Act.put, List.setIfInBounds_toArray, List.set_cons_zero, List.set_cons_succ]))
          (refine wpMix_eskip rfl rfl (HSD).out ?_; (try simp only [Act.put, List.setIfInBounds_toArray, List.set_cons_zero, List.set_cons_succ]))
          (refine wpMix_eskip rfl rfl (HSD).out ?_; (try simp only [Act.put, List.setIfInBounds_toArray, List.set_cons_zero, List.set_cons_succ]))
          (refine wpMix_e rfl rfl (fun K hK => ?_); go_simp; refine hK.out _ _ (fun h => absurd h (by decide)) ?_; clear hK K; (try simp only [Act.put, List.setIfInBounds_toArray, List.set_cons_zero, List.set_cons_succ]))
          refine wpMix_nil ?_
          refine NoPanic.normal ?_
          go_wp2_with fail
          go_ret2
          exact ⟨FirstQ.none, HSD.out⟩
        · have hq2 := hq rfl
          have hsl : (a : Int) + 3 ≤ (s.size : Int) := by omega
          have HQ := Lib.hid hq2
          clear hq hq2
          (refine wpMix_q (v := ?_) rfl rfl (fun w' hS => ?_) ?_; rotate_left; (focus ((try obtain s0 := HS.out _ (hS rfl)); clear hS; go_simp; try with_reducible rfl; done)); (try simp only [Act.put, List.setIfInBounds_toArray, List.set_cons_zero, List.set_cons_succ]))
          (refine wpMix_q (v := ?_) rfl rfl (fun w' hS => ?_) ?_; rotate_left; (focus ((try obtain s0 := HS.out _ (hS rfl)); clear hS; go_simp; try with_reducible rfl; done)); (try simp only [Act.put, List.setIfInBounds_toArray, List.set_cons_zero, List.set_cons_succ]))
          iterate 6 (refine wpMix_q (v := ?_) rfl rfl (fun w' hS => ?_) ?_; rotate_left; (focus ((try obtain s0 := HS.out _ (hS rfl)); clear hS; go_simp; try with_reducible rfl; done)); (try simp only [Act.put, List.setIfInBounds_toArray, List.set_cons_zero, List.set_cons_succ]))
          have hwr : IntKind.i64.wrap ((a : Int) + 3) = (a : Int) + 3 := (IntWalk.i64_left _).trans (wrap64_of _ (by omega))
          have htn : ((a : Int) + 3).toNat = a + 3 := by omega
          have h00 : 0 ≤ (a : Int) + 3 := by omega
          have haa : (a : Int) ≤ (a : Int) + 3 := by omega
          (refine wpMix_q (v := ?_) rfl rfl (fun w' hS => ?_) ?_; rotate_left; (focus ((try obtain s0 := HS.out _ (hS rfl)); clear hS; go_simp; try with_reducible rfl; done)); (try simp only [Act.put, List.setIfInBounds_toArray, List.set_cons_zero, List.set_cons_succ]))
          clear hwr htn h00 haa
          refine wpMix_e rfl rfl (fun K hK => ?_)
          go_simp
          refine (encoded_any q _ HQ.out.1 HQ.out.2).mono ?_
          rintro e Y2 ⟨⟨s', rfl, _⟩, hb⟩
          have HSY := Lib.hid (bchain HSD.out hb)
          refine hK.out _ _ (fun _ => HSY.out) ?_
          clear hK K hb
          (try simp only [Act.put, List.setIfInBounds_toArray, List.set_cons_zero, List.set_cons_succ])
          (refine wpMix_e rfl rfl (fun K hK => ?_); go_simp; refine hK.out _ _ (fun h => absurd h (by decide)) ?_; clear hK K; (try simp only [Act.put, List.setIfInBounds_toArray, List.set_cons_zero, List.set_cons_succ]))
          (refine wpMix_e rfl rfl (fun K hK => ?_); go_simp; refine hK.out _ _ (fun h => absurd h (by decide)) ?_; clear hK K; (try simp only [Act.put, List.setIfInBounds_toArray, List.set_cons_zero, List.set_cons_succ]))
          refine wpMix_nil ?_
          refine NoPanic.normal ?_
          go_wp2_with fail
          · go_ret2
            exact ⟨FirstQ.none, HSY.out⟩
          · go_ret2
            exact ⟨FirstQ.mk (k := 3) (by omega) rfl, HSY.out⟩
  have d2 : decide (224 ≤ y) = false := by simpa using h2
  by_cases h3 : 192 ≤ y
  · have d3 : decide (192 ≤ y) = true := by simpa using h3
    have hn1 : 1 ≤ 2 := by omega
    by_cases hsz : s.size < a + 2
    · have e1 : decide ((s.size : Int) < (a : Int) + 2) = true := by simp; omega
      go_wp2_with fail
      go_ret2
      exact ⟨FirstQ.none, Below.refl _ _⟩
    have e1 : decide ((s.size : Int) < (a : Int) + 2) = false := by simp; omega
    go_wp2_with fail
    clear e1
    go_loop [6, 8] (fun p i => ∃ (q : Int) (k : Nat), p = .int .i64 q ∧ i = .int .i64 k ∧ 1 ≤ k ∧ k ≤ 2 ∧ 0 ≤ q ∧ ((k = 1 ∧ q < 256) ∨ (k = 2 ∧ q < 16384) ∨ (k = 3 ∧ q < 1048576) ∨ (k = 4 ∧ q < 67108864))) (fun _ i => 2 - (intOf i).toNat)
    case atStart => exact ⟨y - 192, 1, rfl, rfl, by omega, by omega, by omega, .inl ⟨rfl, by omega⟩⟩
    case round =>
      obtain ⟨q, k, rfl, rfl, hk1, hkn, hq0, hq1⟩ := hrel
      by_cases hlt : k < 2
      · have hak : a + k < s.size := by omega
        obtain ⟨z, hz, hz0, hz1⟩ : ∃ z : Int, wrap64 (((s[a + k]'hak).toNat : Nat) : Int) = z ∧ 0 ≤ z ∧ z < 256 := by
          have h1 := (s[a + k]'hak).toNat_lt
          exact ⟨(s[a + k]'hak).toNat, wrap64_of _ (by omega), by omega, by omega⟩
        go_wp2_with fail
        go_round
        case rel => exact ⟨_, k + 1, rfl, by go_num, by omega, by omega, by omega, by omega⟩
        case measure => simp [intOf]; omega
      · obtain rfl : k = 2 := by omega
        clear hq1 hlt
        go_wp2_with fail
        refine wp_region_mix 12 [0, 1, 2, 3, 4, 5, 6, 7, 8, 9, 10, 11] [] [(true, 0), (false, 1), (true, 2), (true, 3), (true, 4), (true, 6), (true, 7), (true, 8), (true, 9), (true, 10), (true, 11), (false, 5), (false, 12), (false, 13)] (fun w' => Below w.heap.size w w') (by kernel_rfl) (by kernel_rfl) ?_
        rintro D hD
        have HSD : Hid (Below w.heap.size w D) := by rw [hD]; exact (Below.refl _ _).drew
        clear hD
        refine ⟨HSD.out, ?_⟩
        have HS : Hid (∀ w' : World, Below w.heap.size w w' → True) := fun _ _ => trivial
        (refine wpMix_q (v := ?_) rfl rfl (fun w' hS => ?_) ?_; rotate_left; (focus ((try obtain s0 := HS.out _ (hS rfl)); clear hS; go_simp; try with_reducible rfl; done)); (try simp only [Act.put, List.setIfInBounds_toArray, List.set_cons_zero, List.set_cons_succ]))
        refine wpMix_e rfl rfl (fun K hK => ?_)
        go_simp
        refine (scalar_any q _).mono ?_
        rintro e Y ⟨⟨b, rfl, hq⟩, rfl⟩
        refine hK.out _ _ (fun _ => HSD.out) ?_
        clear hK K
        (try simp only [Act.put, List.setIfInBounds_toArray, List.set_cons_zero, List.set_cons_succ])
        cases b
        · clear hq
          (refine wpMix_q (v := ?_) rfl rfl (fun w' hS => ?_) ?_; rotate_left; (focus ((try obtain s0 := HS.out _ (hS rfl)); clear hS; go_simp; try with_reducible rfl; done)); (try simp only [Act.put, List.setIfInBounds_toArray, List.set_cons_zero, List.set_cons_succ]))
          (refine wpMix_q (v := ?_) rfl rfl (fun w' hS => ?_) ?_; rotate_left; (focus ((try obtain s0 := HS.out _ (hS rfl)); clear hS; go_simp; try with_reducible rfl; done)); (try simp only [Act.put, List.setIfInBounds_toArray, List.set_cons_zero, List.set_cons_succ]))
          iterate 7 (refine wpMix_qskip rfl rfl ?_; (try simp only [Act.put, List.setIfInBounds_toArray, List.set_cons_zero, List.set_cons_succ]))
          (refine wpMix_eskip rfl rfl (HSD).out ?_; (try simp only [Act.put, List.setIfInBounds_toArray, List.set_cons_zero, List.set_cons_succ]))
          (refine wpMix_eskip rfl rfl (HSD).out ?_; (try simp only [Act.put, List.setIfInBounds_toArray, List.set_cons_zero, List.set_cons_succ]))
          (refine wpMix_e rfl rfl (fun K hK => ?_); go_simp; refine hK.out _ _ (fun h => absurd h (by decide)) ?_; clear hK K; (try simp only [Act.put, List.setIfInBounds_toArray, List.set_cons_zero, List.set_cons_succ]))
          refine wpMix_nil ?_
          refine NoPanic.normal ?_
          go_wp2_with fail
          go_ret2
          exact ⟨FirstQ.none, HSD.out⟩
        · have hq2 := hq rfl
          have hsl : (a : Int) + 2 ≤ (s.size : Int) := by omega
          have HQ := Lib.hid hq2
          clear hq hq2
          (refine wpMix_q (v := ?_) rfl rfl (fun w' hS => ?_) ?_; rotate_left; (focus ((try obtain s0 := HS.out _ (hS rfl)); clear hS; go_simp; try with_reducible rfl; done)); (try simp only [Act.put, List.setIfInBounds_toArray, List.set_cons_zero, List.set_cons_succ]))
          (refine wpMix_q (v := ?_) rfl rfl (fun w' hS => ?_) ?_; rotate_left; (focus ((try obtain s0 := HS.out _ (hS rfl)); clear hS; go_simp; try with_reducible rfl; done)); (try simp only [Act.put, List.setIfInBounds_toArray, List.set_cons_zero, List.set_cons_succ]))
          iterate 6 (refine wpMix_q (v := ?_) rfl rfl (fun w' hS => ?_) ?_; rotate_left; (focus ((try obtain s0 := HS.out _ (hS rfl)); clear hS; go_simp; try with_reducible rfl; done)); (try simp only [Act.put, List.setIfInBounds_toArray, List.set_cons_zero, List.set_cons_succ]))
          have hwr : IntKind.i64.wrap ((a : Int) + 2) = (a : Int) + 2 := (IntWalk.i64_left _).trans (wrap64_of _ (by omega))
          have htn : ((a : Int) + 2).toNat = a + 2 := by omega
          have h00 : 0 ≤ (a : Int) + 2 := by omega
          have haa : (a : Int) ≤ (a : Int) + 2 := by omega
          (refine wpMix_q (v := ?_) rfl rfl (fun w' hS => ?_) ?_; rotate_left; (focus ((try obtain s0 := HS.out _ (hS rfl)); clear hS; go_simp; try with_reducible rfl; done)); (try simp only [Act.put, List.setIfInBounds_toArray, List.set_cons_zero, List.set_cons_succ]))
          clear hwr htn h00 haa
          refine wpMix_e rfl rfl (fun K hK => ?_)
          go_simp
          refine (encoded_any q _ HQ.out.1 HQ.out.2).mono ?_
          rintro e Y2 ⟨⟨s', rfl, _⟩, hb⟩
          have HSY := Lib.hid (bchain HSD.out hb)
          refine hK.out _ _ (fun _ => HSY.out) ?_
          clear hK K hb
          (try simp only [Act.put, List.setIfInBounds_toArray, List.set_cons_zero, List.set_cons_succ])
          (refine wpMix_e rfl rfl (fun K hK => ?_); go_simp; refine hK.out _ _ (fun h => absurd h (by decide)) ?_; clear hK K; (try simp only [Act.put, List.setIfInBounds_toArray, List.set_cons_zero, List.set_cons_succ]))
          (refine wpMix_e rfl rfl (fun K hK => ?_); go_simp; refine hK.out _ _ (fun h => absurd h (by decide)) ?_; clear hK K; (try simp only [Act.put, List.setIfInBounds_toArray, List.set_cons_zero, List.set_cons_succ]))
          refine wpMix_nil ?_
          refine NoPanic.normal ?_
          go_wp2_with fail
          · go_ret2
            exact ⟨FirstQ.none, HSY.out⟩
          · go_ret2
            exact ⟨FirstQ.mk (k := 2) (by omega) rfl, HSY.out⟩
  have d3 : decide (192 ≤ y) = false := by simpa using h3
  have hn1 : 1 ≤ 1 := by omega
  by_cases hsz : s.size < a + 1
  · have e1 : decide ((s.size : Int) < (a : Int) + 1) = true := by simp; omega
    go_wp2_with fail
    go_ret2
    exact ⟨FirstQ.none, Below.refl _ _⟩
  have e1 : decide ((s.size : Int) < (a : Int) + 1) = false := by simp; omega
  go_wp2_with fail
  clear e1
  go_loop [6, 8] (fun p i => ∃ (q : Int) (k : Nat), p = .int .i64 q ∧ i = .int .i64 k ∧ 1 ≤ k ∧ k ≤ 1 ∧ 0 ≤ q ∧ ((k = 1 ∧ q < 256) ∨ (k = 2 ∧ q < 16384) ∨ (k = 3 ∧ q < 1048576) ∨ (k = 4 ∧ q < 67108864))) (fun _ i => 1 - (intOf i).toNat)
  case atStart => exact ⟨y, 1, rfl, rfl, by omega, by omega, by omega, .inl ⟨rfl, by omega⟩⟩
  case round =>
    obtain ⟨q, k, rfl, rfl, hk1, hkn, hq0, hq1⟩ := hrel
    by_cases hlt : k < 1
    · exact absurd hlt (by omega)
    · obtain rfl : k = 1 := by omega
      clear hq1 hlt
      go_wp2_with fail
      refine wp_region_mix 12 [0, 1, 2, 3, 4, 5, 6, 7, 8, 9, 10, 11] [] [(true, 0), (false, 1), (true, 2), (true, 3), (true, 4), (true, 6), (true, 7), (true, 8), (true, 9), (true, 10), (true, 11), (false, 5), (false, 12), (false, 13)] (fun w' => Below w.heap.size w w') (by kernel_rfl) (by kernel_rfl) ?_
      rintro D hD
      have HSD : Hid (Below w.heap.size w D) := by rw [hD]; exact (Below.refl _ _).drew
      clear hD
      refine ⟨HSD.out, ?_⟩
      have HS : Hid (∀ w' : World, Below w.heap.size w w' → True) := fun _ _ => trivial
      (refine wpMix_q (v := ?_) rfl rfl (fun w' hS => ?_) ?_; rotate_left; (focus ((try obtain s0 := HS.out _ (hS rfl)); clear hS; go_simp; try with_reducible rfl; done)); (try simp only [Act.put, List.setIfInBounds_toArray, List.set_cons_zero, List.set_cons_succ]))
      refine wpMix_e rfl rfl (fun K hK => ?_)
      go_simp
      refine (scalar_any q _).mono ?_
      rintro e Y ⟨⟨b, rfl, hq⟩, rfl⟩
      refine hK.out _ _ (fun _ => HSD.out) ?_
      clear hK K
      (try simp only [Act.put, List.setIfInBounds_toArray, List.set_cons_zero, List.set_cons_succ])
      cases b
      · clear hq
        (refine wpMix_q (v := ?_) rfl rfl (fun w' hS => ?_) ?_; rotate_left; (focus ((try obtain s0 := HS.out _ (hS rfl)); clear hS; go_simp; try with_reducible rfl; done)); (try simp only [Act.put, List.setIfInBounds_toArray, List.set_cons_zero, List.set_cons_succ]))
        (refine wpMix_q (v := ?_) rfl rfl (fun w' hS => ?_) ?_; rotate_left; (focus ((try obtain s0 := HS.out _ (hS rfl)); clear hS; go_simp; try with_reducible rfl; done)); (try simp only [Act.put, List.setIfInBounds_toArray, List.set_cons_zero, List.set_cons_succ]))
        iterate 7 (refine wpMix_qskip rfl rfl ?_; (try simp only [Act.put, List.setIfInBounds_toArray, List.set_cons_zero, List.set_cons_succ]))
        (refine wpMix_eskip rfl rfl (HSD).out ?_; (try simp only [Act.put, List.setIfInBounds_toArray, List.set_cons_zero, List.set_cons_succ]))
        (refine wpMix_eskip rfl rfl (HSD).out ?_; (try simp only [Act.put, List.setIfInBounds_toArray, List.set_cons_zero, List.set_cons_succ]))
        (refine wpMix_e rfl rfl (fun K hK => ?_); go_simp; refine hK.out _ _ (fun h => absurd h (by decide)) ?_; clear hK K; (try simp only [Act.put, List.setIfInBounds_toArray, List.set_cons_zero, List.set_cons_succ]))
        refine wpMix_nil ?_
        refine NoPanic.normal ?_
        go_wp2_with fail
        go_ret2
        exact ⟨FirstQ.none, HSD.out⟩
      · have hq2 := hq rfl
        have hsl : (a : Int) + 1 ≤ (s.size : Int) := by omega
        have HQ := Lib.hid hq2
        clear hq hq2
        (refine wpMix_q (v := ?_) rfl rfl (fun w' hS => ?_) ?_; rotate_left; (focus ((try obtain s0 := HS.out _ (hS rfl)); clear hS; go_simp; try with_reducible rfl; done)); (try simp only [Act.put, List.setIfInBounds_toArray, List.set_cons_zero, List.set_cons_succ]))
        (refine wpMix_q (v := ?_) rfl rfl (fun w' hS => ?_) ?_; rotate_left; (focus ((try obtain s0 := HS.out _ (hS rfl)); clear hS; go_simp; try with_reducible rfl; done)); (try simp only [Act.put, List.setIfInBounds_toArray, List.set_cons_zero, List.set_cons_succ]))
        iterate 6 (refine wpMix_q (v := ?_) rfl rfl (fun w' hS => ?_) ?_; rotate_left; (focus ((try obtain s0 := HS.out _ (hS rfl)); clear hS; go_simp; try with_reducible rfl; done)); (try simp only [Act.put, List.setIfInBounds_toArray, List.set_cons_zero, List.set_cons_succ]))
        have hwr : IntKind.i64.wrap ((a : Int) + 1) = (a : Int) + 1 := (IntWalk.i64_left _).trans (wrap64_of _ (by omega))
        have htn : ((a : Int) + 1).toNat = a + 1 := by omega
        have h00 : 0 ≤ (a : Int) + 1 := by omega
        have haa : (a : Int) ≤ (a : Int) + 1 := by omega
        (refine wpMix_q (v := ?_) rfl rfl (fun w' hS => ?_) ?_; rotate_left; (focus ((try obtain s0 := HS.out _ (hS rfl)); clear hS; go_simp; try with_reducible rfl; done)); (try simp only [Act.put, List.setIfInBounds_toArray, List.set_cons_zero, List.set_cons_succ]))
        clear hwr htn h00 haa
        refine wpMix_e rfl rfl (fun K hK => ?_)
        go_simp
        refine (encoded_any q _ HQ.out.1 HQ.out.2).mono ?_
        rintro e Y2 ⟨⟨s', rfl, _⟩, hb⟩
        have HSY := Lib.hid (bchain HSD.out hb)
        refine hK.out _ _ (fun _ => HSY.out) ?_
        clear hK K hb
        (try simp only [Act.put, List.setIfInBounds_toArray, List.set_cons_zero, List.set_cons_succ])
        (refine wpMix_e rfl rfl (fun K hK => ?_); go_simp; refine hK.out _ _ (fun h => absurd h (by decide)) ?_; clear hK K; (try simp only [Act.put, List.setIfInBounds_toArray, List.set_cons_zero, List.set_cons_succ]))
        (refine wpMix_e rfl rfl (fun K hK => ?_); go_simp; refine hK.out _ _ (fun h => absurd h (by decide)) ?_; clear hK K; (try simp only [Act.put, List.setIfInBounds_toArray, List.set_cons_zero, List.set_cons_succ]))
        refine wpMix_nil ?_
        refine NoPanic.normal ?_
        go_wp2_with fail
        · go_ret2
          exact ⟨FirstQ.none, HSY.out⟩
        · go_ret2
          exact ⟨FirstQ.mk (k := 1) (by omega) rfl, HSY.out⟩
end Go.Proofs.YtiopgbbggeimaaaGreat

/-
  Points, Label and Name of the references: each returns.
-/
namespace Go.Proofs.YtiopgbbggeimaaaGreat
open Go.ChangeShapes Go.WideShapes Go.ChangeAt Go.RowKit
theorem wpList_app_int2 {ops : Array Oper} {rest : List Oper} {o : Oper} {a : Act} {Q : Exit → Act → World → Prop} {w : World} (hgd : o.guard = none) (s x : Operand)
    (ho : o.op = .call { callee := .builtin .append, args := #[s, x], argTypes := #[31, 31] })
    (base : Nat) (v : Value) (l : List Int) (hs : a.eval s = v) (hown : OwnI w base v l) (x0 : Int) (m : Nat) (hm : Hid (l.length = m)) (hl : m ≤ 200000000) (hbase : base ≤ w.heap.size)
    (hx : a.eval x = .slice (some ⟨w.heap.size, 0, none⟩) 1 1)
    (h : ∀ g' cap w', OwnI w' base (.slice (some ⟨g', 0, none⟩) (m + 1) cap) (l ++ [x0]) → base ≤ g' → w.grownBy w' v.ownBlock → wpList Tryz.prog ops Q rest (a.put o.dst (.slice (some ⟨g', 0, none⟩) (m + 1) cap)) w') :
    wpList Tryz.prog ops Q (o :: rest) a (w.alloc (.cells #[.int .i64 x0] 3)) := by
  obtain rfl := hm.out
  obtain ⟨i0, hi, hz0, hz1, hz2⟩ := info_parts infoI0
  refine wpList_append_own _ hgd s x 31 ho base 3 i0 _ 1 8 Tryz.underlying31 hi hz0 hz1 hz2 rfl (by decide) v l.length (l.map (Value.int .i64)) hs (World.ownsRow.alloc hown _) ⟨w.heap.size, 0, none⟩ 1 1
    [.int .i64 x0] hx rfl ?_ ?_ (by simp only [maxLen]; omega) (by omega) (by simp; omega) ?_
  · intro j u hu
    match j, hu with
    | 0, hu => simp at hu; subst hu; simp [go_sem, Addr.add]
  · intro u hu
    simp at hu
    subst hu
    rfl
  · intro v' w' h1 h2 _
    obtain ⟨g', cap, rfl, hg1, hg2⟩ := h1.form (by omega)
    refine h g' cap w' ?_ hg1 ?_
    · unfold OwnI
      rw [List.map_append, List.length_append]
      exact h1
    · exact ⟨h2.os, h2.tape, h2.output, Nat.le_trans (by simp) h2.size, fun k hk hne => (h2.block k (by simp; omega) hne).trans (Below.heap_alloc w _ k hk)⟩
/-- what Points returns -/
def PtsQ (e : Ending) : Prop := ∃ v b, e = .returned (.tuple #[v, .bool b])
theorem PtsQ.mk (v : Value) (b : Bool) : PtsQ (.returned (.tuple #[v, .bool b])) := ⟨v, b, rfl⟩
set_option maxHeartbeats 4000000 in
set_option maxRecDepth 100000 in
theorem points_any (s : ByteArray) (w : World) (hs : s.size ≤ 1048576) : Calls Tryz.prog 96 #[.string s] w fun e w' => PtsQ e ∧ Below w.heap.size w w' := by
  go_enter Tryz.func96, Tryz.ntmps96
  go_wp2_with fail
  go_loopw [4, 5] (fun v i wr => ∃ (k : Nat) (l : List Int), k ≤ s.size ∧ i = .int .i64 k ∧ Hid (l.length ≤ k) ∧ Hid (OwnI wr w.heap.size v l) ∧ Hid (Below w.heap.size w wr)) (fun _ i _ => s.size - (intOf i).toNat)
  case atStart => exact ⟨0, [], Nat.zero_le _, rfl, Nat.le_refl _, World.ownsRow_nil _ _ _ _, Below.refl _ _⟩
  case round =>
    obtain ⟨k, l, hk, rfl, HL, HO, HB⟩ := hrel
    obtain ⟨A, n, c, rfl, _, _, HN, _⟩ := HO.out.rd.op
    by_cases hlt : k < s.size
    · go_wp2_with fail
      refine (first_any s k _ hs hlt).mono ?_
      rintro e w2 ⟨⟨p, j, rfl, hj⟩, hb⟩
      have HB2 := Lib.hid (bchain HB.out hb)
      have HO2 : Hid (OwnI w2 w.heap.size (.slice A n c) l) := own_below HO.out hb
      have hbl : w.heap.size ≤ w2.heap.size := HB2.out.size
      clear hb
      by_cases hj0 : j = 0
      · subst hj0
        clear hj
        go_wp2_with fail
        go_ret2
        exact ⟨PtsQ.mk _ _, HB2.out⟩
      · have hd : ((j : Int) == 0) = false := by simp; omega
        have hj2 := hj (by omega)
        have hn : n ≤ 200000000 := by have := HL.out; have := HN.out; omega
        clear hj
        go_wp2_with (at_builtin; refine wpList_app_int2 rfl (.tmp 20) (.tmp 22) rfl w.heap.size (.slice A n c) l rfl HO2.out p n HN hn hbl rfl ?_; intro g' cap' w5 ho hge hg)
        have HO5 := Lib.hid ho
        have HG5 := Lib.hid hg
        clear ho hg
        go_roundw
        case rel => exact ⟨k + j, l ++ [p], by omega, by go_num, by rw [Hid, List.length_append]; have := HL.out; simp; omega, HO5.out, HB2.out.grown HG5.out HB2.out.size (fun j hj => (World.ownsRow.lt HO2.out j hj).1)⟩
        case measure => simp [intOf]; omega
    · go_wp2_with fail
      go_ret2
      exact ⟨PtsQ.mk _ _, HB.out⟩
/-- Label is true of no empty text -/
def LabQ (s : ByteArray) (b : Bool) : Prop := b = true → 0 < s.size
set_option maxHeartbeats 4000000 in
set_option maxRecDepth 100000 in
theorem label_any (s : ByteArray) (w : World) (hs : s.size ≤ 1048576) : Calls Tryz.prog 65 #[.string s] w fun e w' => RetB (LabQ s) e ∧ Below w.heap.size w w' := by
  go_enter Tryz.func65, Tryz.ntmps65
  go_wp2_with fail
  go_loop [3] (fun i => ∃ k : Nat, k ≤ s.size ∧ i = .int .i64 k) (fun i => s.size - (intOf i).toNat)
  case atStart => exact ⟨0, Nat.zero_le _, rfl⟩
  case round =>
    obtain ⟨k, hk, rfl⟩ := hrel
    by_cases hlt : k < s.size
    · cases hd : decide ((((s[k]'hlt).toNat : Nat) : Int) < 32)
      · cases hd2 : ((((s[k]'hlt).toNat : Nat) : Int) == 127)
        · go_wp2_with fail
          go_round
          case rel => exact ⟨k + 1, by omega, by go_num⟩
          case measure => simp [intOf]; omega
        · go_wp2_with fail
          go_ret
          exact ⟨RetB.mk (b := false) (by simp [LabQ]), Below.refl _ _⟩
      · go_wp2_with fail
        go_ret
        exact ⟨RetB.mk (b := false) (by simp [LabQ]), Below.refl _ _⟩
    · go_wp2_with fail
      refine (points_any s _ hs).mono ?_
      rintro e w2 ⟨⟨v, b, rfl⟩, hb⟩
      cases b
      · go_wp2_with fail
        go_ret
        exact ⟨RetB.mk (b := false) (by simp [LabQ]), hb⟩
      · by_cases h1 : 1 ≤ s.size
        · have d1 : decide ((1 : Int) ≤ (s.size : Int)) = true := by simp; omega
          go_wp2_with fail
          go_ret
          exact ⟨RetB.mk (fun _ => h1), hb⟩
        · have d1 : decide ((1 : Int) ≤ (s.size : Int)) = false := by simp; omega
          go_wp2_with fail
          go_ret
          exact ⟨RetB.mk (b := false) (by simp [LabQ]), hb⟩
end Go.Proofs.YtiopgbbggeimaaaGreat

/-
  Name of the reference of media.
-/
namespace Go.Proofs.YtiopgbbggeimaaaGreat
open Go.ChangeShapes Go.WideShapes Go.ChangeAt Go.RowKit
def AnyB (_ : Bool) : Prop := True
set_option maxHeartbeats 8000000 in
set_option maxRecDepth 100000 in
theorem name_any (s : ByteArray) (w : World) (hs : s.size ≤ 1048576) : Calls Tryz.prog 30 #[.string s] w fun e w' => RetB AnyB e ∧ w = w' := by
  go_enter Tryz.func30, Tryz.ntmps30
  go_wp2_with fail
  go_loop [3, 4] (fun i _ => ∃ k : Nat, k ≤ s.size ∧ i = .int .i64 k) (fun i _ => s.size - (intOf i).toNat)
  case atStart => exact ⟨0, Nat.zero_le _, rfl⟩
  case round =>
    obtain ⟨k, hk, rfl⟩ := hrel
    by_cases hlt : k < s.size
    · generalize hx : (((s[k]'hlt).toNat : Nat) : Int) = x
      go_wp2_with fail
      all_goals first
        | (go_ret; exact ⟨RetB.mk (Q := AnyB) trivial, rfl⟩)
        | (go_round
           case rel => exact ⟨k + 1, by omega, by go_num⟩
           case measure => simp [intOf]; omega)
    · go_wp2_with fail
      all_goals (go_ret; exact ⟨RetB.mk (Q := AnyB) trivial, rfl⟩)
end Go.Proofs.YtiopgbbggeimaaaGreat

/-
  Texts, inventories and orthographies in memory.
-/
namespace Go.Proofs.YtiopgbbggeimaaaGreat
open Go.ChangeShapes Go.WideShapes Go.ChangeAt Go.RowKit
theorem flat2_at {α : Type} (f : α → List Value) (hf : ∀ a, (f a).length = 2) (l : List α) (k : Nat) (h : k < l.length) (j : Nat) (hj : j < 2) : (l.flatMap f)[k * 2 + j]? = (f l[k])[j]? := by
  induction l generalizing k with
  | nil => simp at h
  | cons a l ih =>
    have ha := hf a
    cases k with
    | zero => rw [List.flatMap_cons, List.getElem?_append_left (by omega)]; simp
    | succ k =>
      rw [List.flatMap_cons, List.getElem?_append_right (by omega), show (k + 1) * 2 + j - (f a).length = k * 2 + j by omega]
      exact ih k (by simpa using h)
/-! a list of texts -/
def RdS (w : World) (v : Value) (ss : List ByteArray) : Prop := Rd w 1 v ss.length (ss.map Value.string)
theorem RdS.below {w w' : World} {v : Value} {ss : List ByteArray} (h : RdS w v ss) (hb : Below w.heap.size w w') : RdS w' v ss := Rd.below h hb
def StAt (w : World) (A : Option Addr) (l : List ByteArray) (k : Nat) : Prop :=
  ∃ b off s, A = some ⟨b, off, none⟩ ∧ b < w.heap.size ∧ Hid (l.drop k = s :: l.drop (k + 1)) ∧ w.cell? ⟨b, off + k, none⟩ = some (.string s)
theorem RdS.op {w : World} {v : Value} {l : List ByteArray} (h : RdS w v l) : ∃ (A : Option Addr) (n c : Nat), v = .slice A n c ∧ n ≤ c ∧ c ≤ 9223372036854775807 ∧ Hid (l.length = n) ∧ Hid (∀ k, k < n → StAt w A l k) := by
  obtain ⟨A, c, rfl, h1, h2, h3, h4⟩ := h
  refine ⟨A, _, c, rfl, h1, h2, rfl, fun k hk => ?_⟩
  obtain ⟨b, off, rfl, hb, hc⟩ := h4 (by omega)
  exact ⟨b, off, l[k], rfl, hb, List.drop_eq_getElem_cons hk, hc k _ (by simp [hk])⟩
theorem StAt.below {w w' : World} {A : Option Addr} {l : List ByteArray} {k : Nat} (h : StAt w A l k) (hb : Below w.heap.size w w') : StAt w' A l k := by
  obtain ⟨b, off, s, rfl, h1, h2, h3⟩ := h
  exact ⟨b, off, s, rfl, by have := hb.size; omega, h2, (hb.cell h1).trans h3⟩
/-! a list of lists of texts -/
def RdSS (w : World) (v : Value) (Ls : List (List ByteArray)) : Prop := ∃ us : List Value, Rd w 1 v Ls.length us ∧ us.length = Ls.length ∧ ∀ (i : Nat) (u : Value) (l : List ByteArray), us[i]? = some u → Ls[i]? = some l → RdS w u l
theorem RdSS.below {w w' : World} {v : Value} {Ls : List (List ByteArray)} (h : RdSS w v Ls) (hb : Below w.heap.size w w') : RdSS w' v Ls := by
  obtain ⟨us, h1, h2, h3⟩ := h
  exact ⟨us, Rd.below h1 hb, h2, fun i u l hu hl => (h3 i u l hu hl).below hb⟩
def SSAt (w : World) (A : Option Addr) (Ls : List (List ByteArray)) (k : Nat) : Prop :=
  ∃ b off B m cm l, A = some ⟨b, off, none⟩ ∧ b < w.heap.size ∧ Hid (Ls.drop k = l :: Ls.drop (k + 1)) ∧ w.cell? ⟨b, off + k, none⟩ = some (.slice B m cm) ∧ Hid (RdS w (.slice B m cm) l)
theorem RdSS.op {w : World} {v : Value} {Ls : List (List ByteArray)} (h : RdSS w v Ls) : ∃ (A : Option Addr) (n c : Nat), v = .slice A n c ∧ n ≤ c ∧ c ≤ 9223372036854775807 ∧ Hid (Ls.length = n) ∧
    Hid (∀ k, k < n → SSAt w A Ls k) := by
  obtain ⟨us, ⟨A, c, rfl, h1, h2, h3, h4⟩, h5, h6⟩ := h
  refine ⟨A, _, c, rfl, h1, h2, rfl, fun k hk => ?_⟩
  obtain ⟨b, off, rfl, hb, hc⟩ := h4 (by omega)
  have hu : us[k]? = some (us[k]'(by omega)) := List.getElem?_eq_getElem (by omega)
  have hl : Ls[k]? = some (Ls[k]'hk) := List.getElem?_eq_getElem hk
  have h7 := h6 k _ _ hu hl
  obtain ⟨B, m, cm, he, _, _, _, _⟩ := h7.op
  have h8 := hc k _ hu
  rw [he] at h7 h8
  exact ⟨b, off, B, m, cm, Ls[k], rfl, hb, List.drop_eq_getElem_cons hk, h8, h7⟩
theorem SSAt.below {w w' : World} {A : Option Addr} {Ls : List (List ByteArray)} {k : Nat} (h : SSAt w A Ls k) (hb : Below w.heap.size w w') : SSAt w' A Ls k := by
  obtain ⟨b, off, B, m, cm, l, rfl, h1, h2, h3, h4⟩ := h
  exact ⟨b, off, B, m, cm, l, rfl, by have := hb.size; omega, h2, (hb.cell h1).trans h3, h4.out.below hb⟩
/-! the segments of an inventory -/
structure PPh where
  name : ByteArray
  feat : Int
def phCells (p : PPh) : List Value := [.string p.name, .int .i64 p.feat]
def RdPh (w : World) (v : Value) (l : List PPh) : Prop := Rd w 2 v l.length (l.flatMap phCells)
theorem RdPh.below {w w' : World} {v : Value} {l : List PPh} (h : RdPh w v l) (hb : Below w.heap.size w w') : RdPh w' v l := Rd.below h hb
def PhAt (w : World) (A : Option Addr) (l : List PPh) (k : Nat) : Prop :=
  ∃ b off p, A = some ⟨b, off, none⟩ ∧ b < w.heap.size ∧ Hid (l.drop k = p :: l.drop (k + 1)) ∧ w.cell? ⟨b, off + k * 2, none⟩ = some (.string p.name) ∧ w.cell? ⟨b, off + k * 2 + 1, none⟩ = some (.int .i64 p.feat)
theorem RdPh.op {w : World} {v : Value} {l : List PPh} (h : RdPh w v l) : ∃ (A : Option Addr) (n c : Nat), v = .slice A n c ∧ n ≤ c ∧ c ≤ 9223372036854775807 ∧ Hid (l.length = n) ∧ Hid (∀ k, k < n → PhAt w A l k) := by
  obtain ⟨A, c, rfl, h1, h2, h3, h4⟩ := h
  refine ⟨A, _, c, rfl, h1, h2, rfl, fun k hk => ?_⟩
  obtain ⟨b, off, rfl, hb, hc⟩ := h4 (by omega)
  exact ⟨b, off, l[k], rfl, hb, List.drop_eq_getElem_cons hk, hc (k * 2 + 0) _ (flat2_at phCells (fun _ => rfl) l k hk 0 (by omega)), hc (k * 2 + 1) _ (flat2_at phCells (fun _ => rfl) l k hk 1 (by omega))⟩
theorem PhAt.below {w w' : World} {A : Option Addr} {l : List PPh} {k : Nat} (h : PhAt w A l k) (hb : Below w.heap.size w w') : PhAt w' A l k := by
  obtain ⟨b, off, p, rfl, h1, h2, h3, h4⟩ := h
  exact ⟨b, off, p, rfl, by have := hb.size; omega, h2, (hb.cell h1).trans h3, (hb.cell h1).trans h4⟩
/-! units -/
structure PU where
  g : ByteArray
  s : List Int
def uCells (x : PU × Value) : List Value := [.string x.1.g, x.2]
def RdU (w : World) (v : Value) (P : List PU) : Prop := ∃ us : List Value, us.length = P.length ∧ Rd w 2 v P.length ((P.zip us).flatMap uCells) ∧ ∀ (i : Nat) (u : Value) (p : PU), us[i]? = some u → P[i]? = some p → RdI w u p.s
theorem RdU.below {w w' : World} {v : Value} {P : List PU} (h : RdU w v P) (hb : Below w.heap.size w w') : RdU w' v P := by
  obtain ⟨us, h1, h2, h3⟩ := h
  exact ⟨us, h1, Rd.below h2 hb, fun i u p hu hp => (h3 i u p hu hp).below hb⟩
def UAt (w : World) (A : Option Addr) (P : List PU) (k : Nat) : Prop :=
  ∃ b off B m cm p, A = some ⟨b, off, none⟩ ∧ b < w.heap.size ∧ Hid (P.drop k = p :: P.drop (k + 1)) ∧ w.cell? ⟨b, off + k * 2, none⟩ = some (.string p.g) ∧ w.cell? ⟨b, off + k * 2 + 1, none⟩ = some (.slice B m cm) ∧ Hid (RdI w (.slice B m cm) p.s)
theorem RdU.op {w : World} {v : Value} {P : List PU} (h : RdU w v P) : ∃ (A : Option Addr) (n c : Nat), v = .slice A n c ∧ n ≤ c ∧ c ≤ 9223372036854775807 ∧ Hid (P.length = n) ∧ Hid (∀ k, k < n → UAt w A P k) := by
  obtain ⟨us, h5, ⟨A, c, rfl, h1, h2, h3, h4⟩, h6⟩ := h
  refine ⟨A, _, c, rfl, h1, h2, rfl, fun k hk => ?_⟩
  obtain ⟨b, off, rfl, hb, hc⟩ := h4 (by omega)
  have hu : us[k]? = some (us[k]'(by omega)) := List.getElem?_eq_getElem (by omega)
  have hp : P[k]? = some (P[k]'hk) := List.getElem?_eq_getElem hk
  have h7 := h6 k _ _ hu hp
  obtain ⟨B, m, cm, he, _, _, _, _⟩ := h7.op
  have hz : k < (P.zip us).length := by simp; omega
  have c0 := hc (k * 2 + 0) _ (flat2_at uCells (fun _ => rfl) (P.zip us) k hz 0 (by omega))
  have c1 := hc (k * 2 + 1) _ (flat2_at uCells (fun _ => rfl) (P.zip us) k hz 1 (by omega))
  simp only [List.getElem_zip] at c0 c1
  rw [he] at h7 c1
  exact ⟨b, off, B, m, cm, P[k], rfl, hb, List.drop_eq_getElem_cons hk, c0, c1, h7⟩
theorem UAt.below {w w' : World} {A : Option Addr} {P : List PU} {k : Nat} (h : UAt w A P k) (hb : Below w.heap.size w w') : UAt w' A P k := by
  obtain ⟨b, off, B, m, cm, p, rfl, h1, h2, h3, h4, h5⟩ := h
  exact ⟨b, off, B, m, cm, p, rfl, by have := hb.size; omega, h2, (hb.cell h1).trans h3, (hb.cell h1).trans h4, h5.out.below hb⟩
/-! an orthography -/
structure PO where
  name : ByteArray
  units : List PU
  letters : List (List ByteArray)
def RdO (w : World) (v : Value) (o : PO) : Prop := ∃ vu vl, v = .agg #[.string o.name, vu, vl] ∧ RdU w vu o.units ∧ RdSS w vl o.letters
theorem RdO.below {w w' : World} {v : Value} {o : PO} (h : RdO w v o) (hb : Below w.heap.size w w') : RdO w' v o := by
  obtain ⟨vu, vl, rfl, h1, h2⟩ := h
  exact ⟨vu, vl, rfl, h1.below hb, h2.below hb⟩
theorem RdO.op {w : World} {v : Value} {o : PO} (h : RdO w v o) : ∃ (A : Option Addr) (n c : Nat) (B : Option Addr) (m d : Nat), v = .agg #[.string o.name, .slice A n c, .slice B m d] ∧ Hid (RdU w (.slice A n c) o.units) ∧ Hid (RdSS w (.slice B m d) o.letters) ∧ Hid (o.units.length = n) ∧ Hid (o.letters.length = m) := by
  obtain ⟨vu, vl, rfl, h1, h2⟩ := h
  obtain ⟨A, n, c, rfl, _, _, hn, _⟩ := id h1.op
  obtain ⟨B, m, d, rfl, _, _, hm, _⟩ := id h2.op
  exact ⟨A, n, c, B, m, d, rfl, h1, h2, hn, hm⟩
/-- texts that are not too long -/
def SmS (s : ByteArray) : Prop := s.size ≤ 1048576
structure SmO (o : PO) : Prop where
  name : SmS o.name
  units : o.units.length ≤ 1048576
  graph : ∀ u ∈ o.units, SmS u.g
  segs : ∀ u ∈ o.units, u.s.length ≤ 1048576
  letters : o.letters.length ≤ 1048576
  letter : ∀ l ∈ o.letters, l.length ≤ 1048576 ∧ ∀ s ∈ l, SmS s
end Go.Proofs.YtiopgbbggeimaaaGreat

/-
  label of the reference of orthographies; Check of the reference of phonemes.
-/
namespace Go.Proofs.YtiopgbbggeimaaaGreat
open Go.ChangeShapes Go.WideShapes Go.ChangeAt Go.RowKit
set_option maxHeartbeats 4000000 in
set_option maxRecDepth 100000 in
theorem label17_any (s : ByteArray) (w : World) (hs : s.size ≤ 1048576) : Calls Tryz.prog 32 #[.string s] w fun e w' => RetB (LabQ s) e ∧ Below w.heap.size w w' := by
  go_enter Tryz.func32, Tryz.ntmps32
  go_wp2_with fail
  go_loop [3] (fun i => ∃ k : Nat, k ≤ s.size ∧ i = .int .i64 k) (fun i => s.size - (intOf i).toNat)
  case atStart => exact ⟨0, Nat.zero_le _, rfl⟩
  case round =>
    obtain ⟨k, hk, rfl⟩ := hrel
    by_cases hlt : k < s.size
    · cases hd2 : ((((s[k]'hlt).toNat : Nat) : Int) == 32)
      · go_wp2_with fail
        go_round
        case rel => exact ⟨k + 1, by omega, by go_num⟩
        case measure => simp [intOf]; omega
      · go_wp2_with fail
        go_ret
        exact ⟨RetB.mk (b := false) (by simp [LabQ]), Below.refl _ _⟩
    · go_wp2_with fail
      refine (label_any s _ hs).mono ?_
      rintro e w2 ⟨⟨b, rfl, hq⟩, hb⟩
      have HQ := Lib.hid hq
      clear hq
      go_wp2_with fail
      go_ret
      exact ⟨RetB.mk HQ.out, hb⟩
theorem cell_keep {w w' : World} {b o : Nat} {x : Value} (hb : b < w.heap.size) (hc : w.cell? ⟨b, o, none⟩ = some x) (h : Below w.heap.size w w') : w'.cell? ⟨b, o, none⟩ = some x := (h.cell (p := ⟨b, o, none⟩) hb).trans hc
/-- the call returns a number of which Q holds -/
def RetE (Q : Int → Prop) (e : Ending) : Prop := ∃ x, e = .returned (.int .i64 x) ∧ Q x
theorem RetE.mk {Q : Int → Prop} {x : Int} (h : Q x) : RetE Q (.returned (.int .i64 x)) := ⟨x, rfl, h⟩
def AnyE (_ : Int) : Prop := True
set_option maxHeartbeats 8000000 in
set_option maxRecDepth 100000 in
theorem check16_any (v : Value) (L : List PPh) (w : World) (hv : RdPh w v L) (hl : L.length ≤ 1048576) (hs : ∀ p ∈ L, SmS p.name) :
    Calls Tryz.prog 35 #[.agg #[v]] w fun e w' => RetE AnyE e ∧ Below w.heap.size w w' := by
  have HV := Lib.hid hv
  have HSM := Lib.hid hs
  obtain ⟨A, n, c, rfl, hnc, hcm, HN, HR⟩ := hv.op
  rw [HN.out] at hl
  clear hv hs
  go_enter Tryz.func35, Tryz.ntmps35
  go_upto_region 1 with (fail)
  generalize hW : World.alloc w _ = W
  have HBW : Hid (Below w.heap.size w W) := by rw [← hW]; repeat (first | assumption | exact Below.refl _ _ | refine Below.alloc ?_ (by first | omega | (simp; done) | (simp; omega)) _ | refine Below.drew ?_ | refine below_drewN ?_ _ | refine Below.setCell ?_ (by first | omega | (simp; done) | (simp; omega)) _)
  have z0 : W.cell? ⟨w.heap.size, 0, none⟩ = some (.slice A n c) := by rw [← hW]; simp [go_sem]
  have hgW : w.heap.size < W.heap.size := by rw [← hW]; simp
  have HRW : Hid (∀ k, k < n → PhAt W A L k) := fun k hk => (HR.out k hk).below HBW.out
  clear hW HR HV
  have HZ := Lib.hid z0
  have HBO : Hid (∀ W' : World, Below W.heap.size W W' → Below w.heap.size w W') := fun W' h => bchain HBW.out h
  clear HBW
  generalize hg : w.heap.size = g at z0 hgW HZ HBO ⊢
  have HG := Lib.hid hg
  clear hg
  by_cases h60 : 60 < n
  · have d60 : decide (60 < (n : Int)) = true := by simp; omega
    go_wp2_with fail
    go_ret
    exact ⟨RetE.mk (Q := AnyE) trivial, by rw [HG.out]; exact HBO.out _ (Below.refl _ _)⟩
  have d60 : decide (60 < (n : Int)) = false := by simp; omega
  go_wp2_with fail
  clear z0 d60
  go_loopw [12] (fun i wr => ∃ k : Nat, k ≤ n ∧ i = .int .i64 k ∧ Hid (Below W.heap.size W wr)) (fun i _ => n - (intOf i).toNat)
  case atStart => exact ⟨0, Nat.zero_le _, rfl, Below.refl _ _⟩
  case round =>
    obtain ⟨k, hk, rfl, HB⟩ := hrel
    have z0 := cell_keep hgW HZ.out HB.out
    by_cases hlt : k < n
    · obtain ⟨b, off, p, rfl, hbl, hdr, c0, c1⟩ := (HRW.out k hlt).below HB.out
      have hps : p.name.size ≤ 1048576 := HSM.out p (List.mem_of_mem_drop (by rw [hdr.out]; exact List.mem_cons_self))
      have C1 := Lib.hid c1
      have C0 := Lib.hid c0
      clear hdr
      generalize p.feat = feat at c1 C1
      generalize p.name = nm at c0 C0 hps
      clear p
      go_wp2_with fail
      refine (label_any nm _ hps).mono ?_
      rintro e w2 ⟨⟨q, rfl, _⟩, hb⟩
      have HB2 := Lib.hid (bchain HB.out hb)
      have D0 := Lib.hid (cell_keep hbl C0.out hb)
      have D1 := Lib.hid (cell_keep hbl C1.out hb)
      have hb2 : b < w2.heap.size := Nat.lt_of_lt_of_le hbl hb.size
      clear hb c0 c1 C0 C1 z0
      have z0 := cell_keep hgW HZ.out HB2.out
      cases q
      · go_wp2_with fail
        go_ret
        exact ⟨RetE.mk (Q := AnyE) trivial, by rw [HG.out]; exact HBO.out _ HB2.out⟩
      go_wp2_with fail
      have hk0 : (0 : Int) ≤ (k : Int) := by omega
      have hk1 : (k : Int) < (n : Int) := by omega
      clear z0
      go_loopw [4] (fun i wr => ∃ j : Nat, j ≤ k ∧ i = .int .i64 j ∧ Hid (Below w2.heap.size w2 wr)) (fun i _ => k - (intOf i).toNat)
      case atStart => exact ⟨0, Nat.zero_le _, rfl, Below.refl _ _⟩
      case round =>
        obtain ⟨j, hj, rfl, HB3⟩ := hrel
        have z0 := cell_keep hgW HZ.out (bchain HB2.out HB3.out)
        have c0 := cell_keep hb2 D0.out HB3.out
        have c1 := cell_keep hb2 D1.out HB3.out
        by_cases hjt : j < k
        · obtain ⟨b', off', p, hA, hbl', _, e0, _⟩ := (HRW.out j (by omega)).below (bchain HB2.out HB3.out)
          cases hA
          generalize p.name = nm2 at e0
          have hj0 : (0 : Int) ≤ (j : Int) := by omega
          have hj1 : (j : Int) < (n : Int) := by omega
          go_wp2_with fail
          go_quiet (fail)
          generalize (nm2.toList == nm.toList) = q2
          cases q2
          · go_wp2_with fail
            go_roundw
            case rel => exact ⟨j + 1, by omega, by go_num, below_drewN HB3.out _⟩
            case measure => simp [intOf]; omega
          · go_wp2_with fail
            go_ret
            exact ⟨RetE.mk (Q := AnyE) trivial, by rw [HG.out]; exact HBO.out _ (bchain HB2.out (below_drewN HB3.out _))⟩
        · go_wp2_with fail
          all_goals first
            | (go_ret; exact ⟨RetE.mk (Q := AnyE) trivial, by rw [HG.out]; exact HBO.out _ (bchain HB2.out HB3.out)⟩)
            | (go_roundw
               case rel => exact ⟨k + 1, by omega, by go_num, bchain HB2.out HB3.out⟩
               case measure => simp [intOf]; omega)
    · go_wp2_with fail
      go_ret
      exact ⟨RetE.mk (Q := AnyE) trivial, by rw [HG.out]; exact HBO.out _ HB.out⟩
end Go.Proofs.YtiopgbbggeimaaaGreat

/-
  unit of the reference of orthographies.
-/
namespace Go.Proofs.YtiopgbbggeimaaaGreat
open Go.ChangeShapes Go.WideShapes Go.ChangeAt Go.RowKit
def GoodU (p : PU) : Prop := 0 < p.g.size ∧ 1 ≤ p.s.length ∧ p.s.length ≤ 3
/-- what unit answers 0 at -/
def UnitQ (us : List PU) (i : Nat) (p : PU) (x : Int) : Prop := x = 0 → GoodU p ∧ ∀ (k : Nat) (q : PU), k < i → us[k]? = some q → (q.g.toList == p.g.toList) = false
theorem UnitQ.ne {us : List PU} {i : Nat} {p : PU} {x : Int} (h : x ≠ 0) : UnitQ us i p x := fun h' => absurd h' h
set_option maxHeartbeats 8000000 in
set_option maxRecDepth 100000 in
theorem unit17_any (vi vo : Value) (L : List PPh) (o : PO) (i : Nat) (p : PU) (w : World) (hvi : RdPh w vi L) (hvo : RdO w vo o) (hi : o.units[i]? = some p) (hso : SmO o) :
    Calls Tryz.prog 31 #[.agg #[vi], vo, .int .i64 i] w fun e w' => RetE (UnitQ o.units i p) e ∧ Below w.heap.size w w' := by
  obtain ⟨Ai, ni, ci, rfl, _, _, _, _⟩ := hvi.op
  obtain ⟨vu, vl, rfl, hu, hl⟩ := hvo
  obtain ⟨A, n, c, rfl, hnc, hcm, HN, HR⟩ := hu.op
  obtain ⟨B, m, d, rfl, _, _, _, _⟩ := hl.op
  have hlt : i < n := by rw [← HN.out]; exact (List.getElem?_eq_some_iff.1 hi).1
  have hn2 : n ≤ 1048576 := by rw [← HN.out]; exact hso.units
  have hgs : p.g.size ≤ 1048576 := hso.graph p (List.mem_of_getElem? hi)
  have HP : Hid (∀ q r, o.units.drop i = q :: r → q = p) := fun q r h => by
    have := congrArg (fun l => l[0]?) h
    simp only [List.getElem?_drop, Nat.add_zero, List.getElem?_cons_zero] at this
    rw [hi] at this
    exact (Option.some.inj this).symm
  clear hvi hu hl hi hso
  obtain ⟨b, off, Bu, mu, cu, q, rfl, hbl, hdr, c0, c1, hrs⟩ := HR.out i hlt
  obtain rfl := HP.out q _ hdr.out
  obtain ⟨_, _, _, h0, hmc, hcm2, HNS, HRS⟩ := hrs.out.op
  cases h0
  clear HP hdr
  go_enter Tryz.func31, Tryz.ntmps31
  go_upto_region 2 with (fail)
  generalize hW : World.alloc (World.alloc (World.alloc w _) _) _ = W
  have HBW : Hid (Below w.heap.size w W) := by rw [← hW]; repeat (first | assumption | exact Below.refl _ _ | refine Below.alloc ?_ (by first | omega | (simp; done) | (simp; omega)) _ | refine Below.drew ?_ | refine below_drewN ?_ _ | refine Below.setCell ?_ (by first | omega | (simp; done) | (simp; omega)) _)
  have z0 : W.cell? ⟨w.heap.size, 0, none⟩ = some (.slice Ai ni ci) := by rw [← hW]; simp [go_sem]
  have z1 : W.cell? ⟨w.heap.size + 1, 1, none⟩ = some (.slice (some ⟨b, off, none⟩) n c) := by rw [← hW]; simp [go_sem]
  have z2 : W.cell? ⟨w.heap.size + 1 + 1, 0, none⟩ = some (.string q.g) := by rw [← hW]; simp [go_sem]
  have z3 : W.cell? ⟨w.heap.size + 1 + 1, 1, none⟩ = some (.slice Bu mu cu) := by rw [← hW]; simp [go_sem]
  have hgW : w.heap.size + 1 + 1 < W.heap.size := by rw [← hW]; simp
  clear hW
  have HZ : Hid (∀ W' : World, Below W.heap.size W W' → W'.cell? ⟨w.heap.size, 0, none⟩ = some (.slice Ai ni ci) ∧ W'.cell? ⟨w.heap.size + 1, 1, none⟩ = some (.slice (some ⟨b, off, none⟩) n c) ∧ W'.cell? ⟨w.heap.size + 1 + 1, 0, none⟩ = some (.string q.g) ∧ W'.cell? ⟨w.heap.size + 1 + 1, 1, none⟩ = some (.slice Bu mu cu)) := fun W' h =>
    ⟨cell_keep (by omega) z0 h, cell_keep (by omega) z1 h, cell_keep (by omega) z2 h, cell_keep (by omega) z3 h⟩
  have HRW : Hid (∀ k, k < n → UAt W (some ⟨b, off, none⟩) o.units k) := fun k hk => (HR.out k hk).below HBW.out
  have HRI : Hid (∀ k, k < mu → IAt W Bu q.s k) := fun k hk => (HRS.out k hk).below HBW.out
  have HBO : Hid (∀ W' : World, Below W.heap.size W W' → Below w.heap.size w W') := fun W' h => bchain HBW.out h
  clear HBW HR HRS hrs c0 c1 z0 z1 z2 z3 hgW
  generalize hg : w.heap.size = g at HZ HBO ⊢
  have HG := Lib.hid hg
  clear hg
  obtain ⟨z0, z1, z2, z3⟩ := HZ.out W (Below.refl _ _)
  go_wp2_with fail
  refine (label17_any q.g _ hgs).mono ?_
  rintro e w2 ⟨⟨ok, rfl, hq⟩, hb⟩
  have HQ := Lib.hid hq
  have HB2 := Lib.hid hb
  clear hq hb z0 z1 z2 z3
  obtain ⟨z0, z1, z2, z3⟩ := HZ.out w2 HB2.out
  cases ok
  · go_wp2_with fail
    go_ret
    exact ⟨RetE.mk (UnitQ.ne (by decide)), by rw [HG.out]; exact HBO.out _ HB2.out⟩
  go_wp2_with fail
  clear z0 z1 z2 z3
  have hi0 : (0 : Int) ≤ (i : Int) := by omega
  go_loopw [8] (fun x wr => ∃ j : Nat, j ≤ i ∧ x = .int .i64 j ∧ Hid (∀ (k : Nat) (p' : PU), k < j → o.units[k]? = some p' → (p'.g.toList == q.g.toList) = false) ∧ Hid (Below W.heap.size W wr)) (fun x _ => i - (intOf x).toNat)
  case atStart => exact ⟨0, Nat.zero_le _, rfl, (fun k p' h => absurd h (by omega)), HB2.out⟩
  case round =>
    obtain ⟨j, hj, rfl, HNE, HB3⟩ := hrel
    obtain ⟨z0, z1, z2, z3⟩ := HZ.out wr HB3.out
    by_cases hjt : j < i
    · obtain ⟨b', off', B', m', c', p', hA, hbl', hdr', e0, _, _⟩ := (HRW.out j (by omega)).below HB3.out
      cases hA
      have HPJ : Hid (∀ p'' : PU, o.units[j]? = some p'' → p''.g = p'.g) := fun p'' h => by
        have := congrArg (fun l => l[0]?) hdr'.out
        simp only [List.getElem?_drop, Nat.add_zero, List.getElem?_cons_zero] at this
        rw [h] at this
        rw [Option.some.inj this]
      clear hdr'
      generalize p'.g = nm2 at e0 HPJ
      have hj0 : (0 : Int) ≤ (j : Int) := by omega
      have hj1 : (j : Int) < (n : Int) := by omega
      go_wp2_with fail
      go_quiet (fail)
      generalize hq2 : (nm2.toList == q.g.toList) = q2
      have HQ2 := Lib.hid hq2
      clear hq2
      cases q2
      · go_wp2_with fail
        go_roundw
        case rel => exact ⟨j + 1, by omega, by go_num, (fun k p'' hk hp => by
          by_cases hkj : k < j
          · exact HNE.out k p'' hkj hp
          · obtain rfl : k = j := by omega
            rw [HPJ.out p'' hp]; exact HQ2.out), below_drewN HB3.out _⟩
        case measure => simp [intOf]; omega
      · go_wp2_with fail
        go_ret
        exact ⟨RetE.mk (UnitQ.ne (by decide)), by rw [HG.out]; exact HBO.out _ (below_drewN HB3.out _)⟩
    · by_cases h1 : mu < 1
      · have d1 : decide ((mu : Int) < 1) = true := by simp; omega
        go_wp2_with fail
        go_ret
        exact ⟨RetE.mk (UnitQ.ne (by decide)), by rw [HG.out]; exact HBO.out _ HB3.out⟩
      have d1 : decide ((mu : Int) < 1) = false := by simp; omega
      by_cases h3 : 3 < mu
      · have d3 : decide ((3 : Int) < (mu : Int)) = true := by simp; omega
        go_wp2_with fail
        go_ret
        exact ⟨RetE.mk (UnitQ.ne (by decide)), by rw [HG.out]; exact HBO.out _ HB3.out⟩
      have d3 : decide ((3 : Int) < (mu : Int)) = false := by simp; omega
      go_wp2_with fail
      clear z0 z1 z2 z3 d1 d3
      obtain ⟨w3, rfl⟩ : ∃ w3 : World, w3 = wr := ⟨_, rfl⟩
      go_loopw [9] (fun x wr => ∃ j : Nat, j ≤ mu ∧ x = .int .i64 j ∧ Hid (Below W.heap.size W wr)) (fun x _ => mu - (intOf x).toNat)
      case atStart => exact ⟨0, Nat.zero_le _, rfl, HB3.out⟩
      case round =>
        obtain ⟨j2, hj2, rfl, HB4⟩ := hrel
        obtain ⟨z0, z1, z2, z3⟩ := HZ.out wr HB4.out
        by_cases hjt : j2 < mu
        · obtain ⟨b5, off5, x, rfl, hbl5, _, e0⟩ := (HRI.out j2 hjt).below HB4.out
          have hj0 : (0 : Int) ≤ (j2 : Int) := by omega
          have hj1 : (j2 : Int) < (mu : Int) := by omega
          by_cases hx : x < 1
          · have dx : decide (x < 1) = true := by simpa using hx
            go_wp2_with fail
            go_quiet (fail)
            go_wp2_with fail
            go_ret
            exact ⟨RetE.mk (UnitQ.ne (by decide)), by rw [HG.out]; exact HBO.out _ (below_drewN HB4.out _)⟩
          have dx : decide (x < 1) = false := by simpa using hx
          by_cases hx2 : (ni : Int) < x
          · have dx2 : decide ((ni : Int) < x) = true := by simpa using hx2
            go_wp2_with fail
            go_quiet (fail)
            go_wp2_with fail
            go_ret
            exact ⟨RetE.mk (UnitQ.ne (by decide)), by rw [HG.out]; exact HBO.out _ (below_drewN HB4.out _)⟩
          have dx2 : decide ((ni : Int) < x) = false := by simpa using hx2
          go_wp2_with fail
          go_quiet (fail)
          go_wp2_with fail
          go_roundw
          case rel => exact ⟨j2 + 1, by omega, by go_num, below_drewN HB4.out _⟩
          case measure => simp [intOf]; omega
        · go_wp2_with fail
          go_ret
          exact ⟨RetE.mk (Q := UnitQ o.units i q) (fun _ => ⟨⟨HQ.out rfl, by rw [HNS.out]; omega, by rw [HNS.out]; omega⟩, fun k p' hk hp => HNE.out k p' (by omega) hp⟩), by rw [HG.out]; exact HBO.out _ HB4.out⟩
end Go.Proofs.YtiopgbbggeimaaaGreat

/-
  has and Check of the reference of orthographies.
-/
namespace Go.Proofs.YtiopgbbggeimaaaGreat
open Go.ChangeShapes Go.WideShapes Go.ChangeAt Go.RowKit
theorem infoT0 : (Tryz.prog.info? 9).map (fun i => (i.zero, i.size, i.bytes)) = some (some (.string ⟨#[]⟩), 1, 16) := by kernel_rfl
def OwnS (w : World) (base : Nat) (v : Value) (l : List ByteArray) : Prop := w.ownsRow base 9 1 v l.length (l.map Value.string)
theorem OwnS.rd {w : World} {base : Nat} {v : Value} {l : List ByteArray} (h : OwnS w base v l) : RdS w v l := Rd.own h
theorem wpList_app_str {ops : Array Oper} {rest : List Oper} {o : Oper} {a : Act} {Q : Exit → Act → World → Prop} {w : World} (hgd : o.guard = none) (s x : Operand)
    (ho : o.op = .call { callee := .builtin .append, args := #[s, x], argTypes := #[78, 78] })
    (base : Nat) (v : Value) (l : List ByteArray) (hs : a.eval s = v) (hown : OwnS w base v l) (x0 : ByteArray) (m : Nat) (hm : Hid (l.length = m)) (hl : m ≤ 1000000000) (hbase : base ≤ w.heap.size)
    (hx : a.eval x = .slice (some ⟨w.heap.size, 0, none⟩) 1 1)
    (h : ∀ g' cap w', OwnS w' base (.slice (some ⟨g', 0, none⟩) (m + 1) cap) (l ++ [x0]) → base ≤ g' → w.grownBy w' v.ownBlock → wpList Tryz.prog ops Q rest (a.put o.dst (.slice (some ⟨g', 0, none⟩) (m + 1) cap)) w') :
    wpList Tryz.prog ops Q (o :: rest) a (w.alloc (.cells #[.string x0] 9)) := by
  obtain rfl := hm.out
  obtain ⟨i0, hi, hz0, hz1, hz2⟩ := info_parts infoT0
  refine wpList_append_own _ hgd s x 78 ho base 9 i0 _ 1 16 Tryz.underlying78 hi hz0 hz1 hz2 rfl (by decide) v l.length (l.map Value.string) hs (World.ownsRow.alloc hown _) ⟨w.heap.size, 0, none⟩ 1 1
    [.string x0] hx rfl ?_ ?_ (by simp only [maxLen]; omega) (by omega) (by simp; omega) ?_
  · intro j u hu
    match j, hu with
    | 0, hu => simp at hu; subst hu; simp [go_sem, Addr.add]
  · intro u hu
    simp at hu
    subst hu
    rfl
  · intro v' w' h1 h2 _
    obtain ⟨g', cap, rfl, hg1, hg2⟩ := h1.form (by omega)
    refine h g' cap w' ?_ hg1 ?_
    · unfold OwnS
      rw [List.map_append, List.length_append]
      exact h1
    · exact ⟨h2.os, h2.tape, h2.output, Nat.le_trans (by simp) h2.size, fun k hk hne => (h2.block k (by simp; omega) hne).trans (Below.heap_alloc w _ k hk)⟩
set_option maxHeartbeats 2000000 in
set_option maxRecDepth 100000 in
theorem has17_any (v : Value) (l : List ByteArray) (s : ByteArray) (w : World) (hv : RdS w v l) (_ : l.length ≤ 1000000000) :
    Calls Tryz.prog 33 #[v, .string s] w fun e w' => RetB AnyB e ∧ w = w' := by
  obtain ⟨A, n, c, rfl, hnc, hcm, HN, HR⟩ := hv.op
  clear hv
  go_enter Tryz.func33, Tryz.ntmps33
  go_wp2_with fail
  go_loop [5] (fun i => ∃ k : Nat, k ≤ n ∧ i = .int .i64 k) (fun i => n - (intOf i).toNat)
  case atStart => exact ⟨0, Nat.zero_le _, rfl⟩
  case round =>
    obtain ⟨k, hk, rfl⟩ := hrel
    by_cases hlt : k < n
    · obtain ⟨b, off, x, rfl, hbl, _, e0⟩ := HR.out k hlt
      cases hq : (x.toList == s.toList)
      · go_wp2_with fail
        go_round
        case rel => exact ⟨k + 1, by omega, by go_num⟩
        case measure => simp [intOf]; omega
      · go_wp2_with fail
        go_ret
        exact ⟨RetB.mk (Q := AnyB) trivial, rfl⟩
    · go_wp2_with fail
      go_ret
      exact ⟨RetB.mk (Q := AnyB) trivial, rfl⟩
theorem nil_le (i : Nat) : Hid (([] : List ByteArray).length ≤ i) := Nat.zero_le i
theorem le_add0 {a b : Nat} (h : a ≤ b) : Hid (a ≤ b + 0) := h
theorem good_app {A : List PU} {q : PU} (h : ∀ p ∈ A, GoodU p) (hq : GoodU q) : ∀ p ∈ A ++ [q], GoodU p := by
  intro p hp
  rcases List.mem_append.1 hp with h1 | h1
  · exact h p h1
  · simp at h1; subst h1; exact hq
/-- the units before i: good, and with graphs of their own -/
def GoodTo (us : List PU) (i : Nat) : Prop := (∀ p ∈ us.take i, GoodU p) ∧ ∀ (j k : Nat) (p q : PU), j < k → k < i → us[j]? = some p → us[k]? = some q → (p.g.toList == q.g.toList) = false
/-- good units, with graphs of their own -/
def GoodO (us : List PU) : Prop := (∀ p ∈ us, GoodU p) ∧ ∀ (j k : Nat) (p q : PU), j < k → us[j]? = some p → us[k]? = some q → (p.g.toList == q.g.toList) = false
theorem GoodTo.next {us : List PU} {i : Nat} {p : PU} (h : GoodTo us i) (hp : us[i]? = some p) (hu : GoodU p ∧ ∀ (k : Nat) (q : PU), k < i → us[k]? = some q → (q.g.toList == p.g.toList) = false) : GoodTo us (i + 1) := by
  refine ⟨by rw [List.take_add_one, hp]; exact good_app h.1 hu.1, fun j k p' q hjk hk hj hq => ?_⟩
  by_cases hki : k < i
  · exact h.2 j k p' q hjk hki hj hq
  · obtain rfl : k = i := by omega
    rw [hp] at hq
    cases hq
    exact hu.2 j p' hjk hj
theorem GoodTo.all {us : List PU} {i : Nat} (h : GoodTo us i) (hi : us.length ≤ i) : GoodO us :=
  ⟨fun p hp => h.1 p (by rwa [List.take_of_length_le hi]), fun j k p q hjk hj hk => h.2 j k p q hjk (by have := (List.getElem?_eq_some_iff.1 hk).1; omega) hj hk⟩
def CheckQ (o : PO) (x : Int) : Prop := x = 0 → GoodO o.units
theorem CheckQ.ne {o : PO} {x : Int} (h : x ≠ 0) : CheckQ o x := fun h' => absurd h' h
set_option maxHeartbeats 8000000 in
set_option maxRecDepth 100000 in
theorem check17_any (vi vo : Value) (L : List PPh) (o : PO) (w : World) (hvi : RdPh w vi L) (hvo : RdO w vo o) (hso : SmO o) :
    Calls Tryz.prog 12 #[.agg #[vi], vo] w fun e w' => RetE (CheckQ o) e ∧ Below w.heap.size w w' := by
  have HVI := Lib.hid hvi
  have HVO := Lib.hid hvo
  have HSO := Lib.hid hso
  obtain ⟨Ai, ni, ci, rfl, _, _, _, _⟩ := hvi.op
  obtain ⟨vu, vl, rfl, hu, hl⟩ := hvo
  obtain ⟨A, n, c, rfl, hnc, hcm, HN, HR⟩ := hu.op
  obtain ⟨B, m, d, rfl, hmd, hdm, HM, HRL⟩ := hl.op
  have hns : o.name.size ≤ 1048576 := hso.name
  have hn2 : n ≤ 1048576 := by rw [← HN.out]; exact hso.units
  have hm2 : m ≤ 1048576 := by rw [← HM.out]; exact hso.letters
  clear hvi hu hl hso HR
  go_enter Tryz.func12, Tryz.ntmps12
  go_upto_region 1 with (fail)
  generalize hW : World.alloc (World.alloc w _) _ = W
  have HBW : Hid (Below w.heap.size w W) := by rw [← hW]; repeat (first | assumption | exact Below.refl _ _ | refine Below.alloc ?_ (by first | omega | (simp; done) | (simp; omega)) _ | refine Below.drew ?_ | refine below_drewN ?_ _ | refine Below.setCell ?_ (by first | omega | (simp; done) | (simp; omega)) _)
  have z0 : W.cell? ⟨w.heap.size, 0, none⟩ = some (.slice Ai ni ci) := by rw [← hW]; simp [go_sem]
  have z1 : W.cell? ⟨w.heap.size + 1, 0, none⟩ = some (.string o.name) := by rw [← hW]; simp [go_sem]
  have z2 : W.cell? ⟨w.heap.size + 1, 1, none⟩ = some (.slice A n c) := by rw [← hW]; simp [go_sem]
  have z3 : W.cell? ⟨w.heap.size + 1, 2, none⟩ = some (.slice B m d) := by rw [← hW]; simp [go_sem]
  have hgW : w.heap.size + 1 < W.heap.size := by rw [← hW]; simp
  clear hW
  have HZ : Hid (∀ W' : World, Below W.heap.size W W' → W'.cell? ⟨w.heap.size, 0, none⟩ = some (.slice Ai ni ci) ∧ W'.cell? ⟨w.heap.size + 1, 0, none⟩ = some (.string o.name) ∧ W'.cell? ⟨w.heap.size + 1, 1, none⟩ = some (.slice A n c) ∧ W'.cell? ⟨w.heap.size + 1, 2, none⟩ = some (.slice B m d)) := fun W' h =>
    ⟨cell_keep (by omega) z0 h, cell_keep (by omega) z1 h, cell_keep (by omega) z2 h, cell_keep (by omega) z3 h⟩
  have HRW : Hid (∀ k, k < m → SSAt W B o.letters k) := fun k hk => (HRL.out k hk).below HBW.out
  have HVI : Hid (RdPh W (.slice Ai ni ci) L) := HVI.out.below HBW.out
  have HVO : Hid (RdO W (.agg #[.string o.name, .slice A n c, .slice B m d]) o) := HVO.out.below HBW.out
  have HBO : Hid (∀ W' : World, Below W.heap.size W W' → Below w.heap.size w W') := fun W' h => bchain HBW.out h
  clear HBW HRL z0 z1 z2 z3 hgW
  generalize hg : w.heap.size = g at HZ HBO ⊢
  have HG := Lib.hid hg
  clear hg
  obtain ⟨z0, z1, z2, z3⟩ := HZ.out W (Below.refl _ _)
  go_wp2_with fail
  refine (name_any o.name _ hns).mono ?_
  rintro e w2 ⟨⟨ok, rfl, _⟩, rfl⟩
  cases ok
  · go_wp2_with fail
    go_ret
    exact ⟨RetE.mk (CheckQ.ne (by decide)), by rw [HG.out]; exact HBO.out _ (Below.refl _ _)⟩
  by_cases h100 : 100 < n
  · have d1 : decide ((100 : Int) < (n : Int)) = true := by simp; omega
    go_wp2_with fail
    go_ret
    exact ⟨RetE.mk (CheckQ.ne (by decide)), by rw [HG.out]; exact HBO.out _ (Below.refl _ _)⟩
  have d1 : decide ((100 : Int) < (n : Int)) = false := by simp; omega
  go_wp2_with fail
  clear z0 z1 z2 z3 d1
  go_loopw [5, 6] (fun x _ wr => ∃ i : Nat, i ≤ n ∧ x = .int .i64 i ∧ Hid (GoodTo o.units i) ∧ Hid (Below W.heap.size W wr)) (fun x _ _ => n - (intOf x).toNat)
  case atStart => exact ⟨0, Nat.zero_le _, rfl, ⟨fun p hp => by simp at hp, fun j k p q _ h => absurd h (by omega)⟩, Below.refl _ _⟩
  case round =>
    obtain ⟨i, hi, rfl, HGU, HB⟩ := hrel
    obtain ⟨z0, z1, z2, z3⟩ := HZ.out wr HB.out
    by_cases hlt : i < n
    · have hil : i < o.units.length := by rw [HN.out]; exact hlt
      obtain ⟨pu, HGI⟩ : ∃ q, Hid (o.units[i]? = some q) := ⟨_, List.getElem?_eq_getElem hil⟩
      clear hil
      go_wp2_with fail
      refine (unit17_any _ _ L o i pu _ (HVI.out.below HB.out) (HVO.out.below HB.out) HGI.out HSO.out).mono ?_
      rintro e w2 ⟨⟨x, rfl, hq⟩, hb⟩
      have HQ := Lib.hid hq
      have HB2 := Lib.hid (bchain HB.out hb)
      clear hq hb z0 z1 z2 z3
      obtain ⟨z0, z1, z2, z3⟩ := HZ.out w2 HB2.out
      by_cases hx : x = 0
      · have dx : (x != 0) = false := by simp [hx]
        have HX := Lib.hid hx
        clear hx
        go_wp2_with fail
        go_roundw
        case rel => exact ⟨i + 1, by omega, by go_num, HGU.out.next HGI.out (HQ.out HX.out), HB2.out⟩
        case measure => simp [intOf]; omega
      · have dx : (x != 0) = true := by simp [hx]
        have HX := Lib.hid hx
        clear hx
        go_wp2_with fail
        go_ret
        exact ⟨RetE.mk (CheckQ.ne HX.out), by rw [HG.out]; exact HBO.out _ HB2.out⟩
    · have HGA : Hid (CheckQ o 0) := fun _ => HGU.out.all (by rw [HN.out]; omega)
      clear HGU
      by_cases h100 : 100 < m
      · have d1 : decide ((100 : Int) < (m : Int)) = true := by simp; omega
        go_wp2_with fail
        go_ret
        exact ⟨RetE.mk (CheckQ.ne (by decide)), by rw [HG.out]; exact HBO.out _ HB.out⟩
      have d1 : decide ((100 : Int) < (m : Int)) = false := by simp; omega
      go_wp2_with fail
      clear z0 z1 z2 z3 d1
      obtain ⟨wo, rfl⟩ : ∃ wo : World, wo = wr := ⟨_, rfl⟩
      go_loopw [7, 8, 9, 10] (fun v x _ _ wr => ∃ (i : Nat) (l : List ByteArray), i ≤ m ∧ x = .int .i64 i ∧ Hid (l.length ≤ i * 1048576) ∧ Hid (OwnS wr W.heap.size v l) ∧ Hid (Below W.heap.size W wr)) (fun _ x _ _ _ => m - (intOf x).toNat)
      case atStart =>
        refine ⟨0, [], Nat.zero_le _, rfl, nil_le _, ?_, HB.out⟩
        exact World.ownsRow_nil _ _ _ _
      case round =>
        obtain ⟨i2, l, hi2, rfl, HLN, HO, HB5⟩ := hrel
        obtain ⟨z0, z1, z2, z3⟩ := HZ.out wr HB5.out
        by_cases hlt2 : i2 < m
        · obtain ⟨b, off, B2, m3, c3, ls, rfl, hbl, hdr, eW, hrl⟩ := HRW.out i2 hlt2
          have e0 := cell_keep hbl eW HB5.out
          have EW := Lib.hid eW
          clear eW
          obtain ⟨_, _, _, h0, hmc3, hcm3, HNL, HRS⟩ := hrl.out.op
          cases h0
          have hls := HSO.out.letter ls (List.mem_of_mem_drop (by rw [hdr.out]; exact List.mem_cons_self))
          have hm3 : m3 ≤ 1048576 := by rw [← HNL.out]; exact hls.1
          have HSM : Hid (∀ s ∈ ls, SmS s) := hls.2
          have HDR := Lib.hid hdr
          clear hls hrl hdr
          by_cases hm0 : m3 = 0
          · subst hm0
            go_wp2_with fail
            go_ret
            exact ⟨RetE.mk (CheckQ.ne (by decide)), by rw [HG.out]; exact HBO.out _ HB5.out⟩
          have d0 : ((m3 : Int) == 0) = false := by simp [hm0]
          go_wp2_with fail
          clear z0 z1 z2 z3 d0 e0
          obtain ⟨wo2, rfl⟩ : ∃ wo : World, wo = wr := ⟨_, rfl⟩
          go_loopw [7, 9, 10] (fun v x _ wr => ∃ (j : Nat) (l : List ByteArray), j ≤ m3 ∧ x = .int .i64 j ∧ Hid (l.length ≤ i2 * 1048576 + j) ∧ Hid (OwnS wr W.heap.size v l) ∧ Hid (Below W.heap.size W wr)) (fun _ x _ _ => m3 - (intOf x).toNat)
          case atStart => exact ⟨0, l, Nat.zero_le _, rfl, le_add0 HLN.out, HO.out, HB5.out⟩
          case round =>
            obtain ⟨j, l, hj, rfl, HLN, HO, HB6⟩ := hrel
            obtain ⟨z0, z1, z2, z3⟩ := HZ.out wr HB6.out
            have e0 := cell_keep hbl EW.out HB6.out
            obtain ⟨Av, nv, cv, rfl, _, _, HNV, _⟩ := HO.out.rd.op
            by_cases hjt : j < m3
            · obtain ⟨b5, off5, sx, rfl, hbl5, hdr5, f0⟩ := (HRS.out j hjt).below HB6.out
              have hsx : sx.size ≤ 1048576 := HSM.out sx (List.mem_of_mem_drop (by rw [hdr5.out]; exact List.mem_cons_self))
              have hnv : nv ≤ 1000000000 := by have := HLN.out; have := HNV.out; omega
              clear hdr5
              go_wp2_with fail
              refine (label17_any sx _ hsx).mono ?_
              rintro e w7 ⟨⟨ok, rfl, _⟩, hb⟩
              have HB7 := Lib.hid (bchain HB6.out hb)
              have HO7 : Hid (OwnS w7 W.heap.size (.slice Av nv cv) l) := own_below HO.out hb
              clear hb z0 z1 z2 z3 e0 f0
              cases ok
              · go_wp2_with fail
                go_ret
                exact ⟨RetE.mk (CheckQ.ne (by decide)), by rw [HG.out]; exact HBO.out _ HB7.out⟩
              go_wp2_with fail
              refine (has17_any _ l sx _ HO7.out.rd (by rw [HNV.out]; exact hnv)).mono ?_
              rintro e w8 ⟨⟨hx, rfl, _⟩, rfl⟩
              cases hx
              rotate_left
              · go_wp2_with fail
                go_ret
                exact ⟨RetE.mk (CheckQ.ne (by decide)), by rw [HG.out]; exact HBO.out _ HB7.out⟩
              have hbl8 : W.heap.size ≤ w7.heap.size := HB7.out.size
              go_wp2_with (at_builtin; refine wpList_app_str rfl (.tmp 75) (.tmp 77) rfl W.heap.size (.slice Av nv cv) l rfl HO7.out sx nv HNV hnv hbl8 rfl ?_; intro g' cap' w9 ho hge hg; have HO9 := Lib.hid ho; have HG9 := Lib.hid hg; clear ho hg)
              go_roundw
              case rel => exact ⟨j + 1, l ++ [sx], by omega, by go_num, by rw [Hid, List.length_append]; have := HLN.out; simp; omega, HO9.out, HB7.out.grown HG9.out HB7.out.size (fun j hj => (World.ownsRow.lt HO7.out j hj).1)⟩
              case measure => simp [intOf]; omega
            · obtain rfl : j = m3 := by omega
              go_wp2_with fail
              go_roundw
              case rel => exact ⟨i2 + 1, l, by omega, by go_num, by rw [Hid]; have := HLN.out; omega, HO.out, HB6.out⟩
              case measure => simp [intOf]; omega
        · go_wp2_with fail
          go_ret
          exact ⟨RetE.mk HGA.out, by rw [HG.out]; exact HBO.out _ HB5.out⟩
end Go.Proofs.YtiopgbbggeimaaaGreat

/-
  small and right of the statements.
-/
namespace Go.Proofs.YtiopgbbggeimaaaGreat
open Go.ChangeShapes Go.WideShapes Go.ChangeAt Go.RowKit
/-- a small orthography that is right -/
structure OkO (o : PO) : Prop where
  n : o.units.length ≤ 12
  good : ∀ p ∈ o.units, GoodU p
  own : ∀ (j k : Nat) (p q : PU), j < k → o.units[j]? = some p → o.units[k]? = some q → (p.g.toList == q.g.toList) = false
def SmallQ (o : PO) (b : Bool) : Prop := b = true → OkO o
theorem SmallQ.no {o : PO} : SmallQ o false := fun h => by cases h
end Go.Proofs.YtiopgbbggeimaaaGreat

/-
  right of the statements.
-/
namespace Go.Proofs.YtiopgbbggeimaaaGreat
open Go.ChangeShapes Go.WideShapes Go.ChangeAt Go.RowKit
/-- an Ask as plain data, and in memory -/
structure PAsk where
  inv : List PPh
  a : PO
  b : PO
  s : ByteArray
  t : ByteArray
def RdK (w : World) (v : Value) (x : PAsk) : Prop := ∃ vi ua la ub lb, v = .agg #[vi, .string x.a.name, ua, la, .string x.b.name, ub, lb, .string x.s, .string x.t] ∧ RdPh w vi x.inv ∧ RdO w (.agg #[.string x.a.name, ua, la]) x.a ∧ RdO w (.agg #[.string x.b.name, ub, lb]) x.b
theorem RdK.below {w w' : World} {v : Value} {x : PAsk} (h : RdK w v x) (hb : Below w.heap.size w w') : RdK w' v x := by
  obtain ⟨vi, ua, la, ub, lb, rfl, h1, h2, h3⟩ := h
  exact ⟨vi, ua, la, ub, lb, rfl, h1.below hb, h2.below hb, h3.below hb⟩
structure OkK (x : PAsk) : Prop where
  a : OkO x.a
  b : OkO x.b
  s : x.s.size ≤ 200
  t : x.t.size ≤ 200
def RightQ (x : PAsk) (b : Bool) : Prop := b = true → OkK x
theorem RightQ.no {x : PAsk} : RightQ x false := fun h => by cases h
end Go.Proofs.YtiopgbbggeimaaaGreat

/-
  Lists of ints compared: Same, slices.Equal, ints.
-/
namespace Go.Proofs.YtiopgbbggeimaaaGreat
open Go.ChangeShapes Go.WideShapes Go.ChangeAt Go.RowKit
def sameB : List Int → List Int → Bool
  | [], [] => true
  | x :: xs, y :: ys => if x = y then sameB xs ys else false
  | _, _ => false
theorem sameB_iff (xs ys : List Int) : sameB xs ys = true ↔ xs = ys := by
  induction xs generalizing ys with
  | nil => cases ys <;> simp [sameB]
  | cons x xs ih => cases ys with
    | nil => simp [sameB]
    | cons y ys => simp only [sameB, List.cons.injEq]; by_cases h : x = y <;> simp [h, ih]
theorem sameB_len (xs ys : List Int) (h : xs.length ≠ ys.length) : sameB xs ys = false := by
  rw [← Bool.not_eq_true, sameB_iff]; rintro rfl; exact h rfl
set_option maxHeartbeats 400000 in
theorem rsame_any (v u : Value) (xs ys : List Int) (w : World) (hv : RdI w v xs) (hu : RdI w u ys) :
    Calls Tryz.prog 122 #[v, u] w fun e w' => e = .returned (.bool (sameB xs ys)) ∧ ∃ nq, w' = w.drewN nq := by
  obtain ⟨A, n, c, rfl, h1, h2, HN, hr⟩ := hv.op
  obtain ⟨A', n', c', rfl, h1', h2', HN', hr'⟩ := hu.op
  clear hv hu
  by_cases hn : n = n'
  · subst hn
    have hne : ((n : Int) != (n : Int)) = false := by simp
    go_enter Tryz.func122, Tryz.ntmps122
    go_wp2_with fail
    go_loopw [13] (fun i wr => ∃ k nq : Nat, k ≤ n ∧ i = .int .i64 k ∧ wr = w.drewN nq ∧ Hid (sameB xs ys = sameB (xs.drop k) (ys.drop k))) (fun i _ => n - (intOf i).toNat)
    case atStart => exact ⟨0, 0, Nat.zero_le _, rfl, rfl, rfl⟩
    case round =>
      obtain ⟨k, nq, hk, rfl, rfl, HP⟩ := hrel
      by_cases hlt : k < n
      · obtain ⟨b, off, x, rfl, hb, hd, hck⟩ := hr.out k hlt
        obtain ⟨b', off', y, rfl, hb', hd', hck'⟩ := hr'.out k hlt
        have HS : Hid (sameB xs ys = if x = y then sameB (xs.drop (k + 1)) (ys.drop (k + 1)) else false) := by rw [Hid, HP.out, hd.out, hd'.out, sameB]
        by_cases hxy : x = y
        · have hb1 : (x != y) = false := by simpa using hxy
          have HS2 : Hid (sameB xs ys = sameB (xs.drop (k + 1)) (ys.drop (k + 1))) := by rw [Hid, HS.out, if_pos hxy]
          clear hxy HS
          go_wp2_with fail
          go_quiet (fail)
          go_wp2_with fail
          go_roundw
          case rel => exact ⟨k + 1, _, by omega, by go_num, rfl, HS2.out⟩
          case measure => simp [intOf]; omega
        · have hb1 : (x != y) = true := by simpa using hxy
          have HS2 : Hid (sameB xs ys = false) := by rw [Hid, HS.out, if_neg hxy]
          clear hxy HS
          go_wp2_with fail
          go_quiet (fail)
          go_wp2_with fail
          go_ret
          exact ⟨by rw [HS2.out]; rfl, _, World.drewN_drewN _ _ _⟩
      · go_wp2_with fail
        go_ret
        refine ⟨?_, _, rfl⟩
        have : sameB xs ys = true := by rw [HP.out, List.drop_of_length_le (by rw [HN.out]; omega), List.drop_of_length_le (by rw [HN'.out]; omega)]; rfl
        rw [this]; rfl
  · have hne : ((n : Int) != (n' : Int)) = true := by simp; omega
    have HS2 : Hid (sameB xs ys = false) := sameB_len _ _ (by rw [HN.out, HN'.out]; exact hn)
    clear hn
    go_enter Tryz.func122, Tryz.ntmps122
    go_wp2_with fail
    go_ret
    exact ⟨by rw [HS2.out]; rfl, 0, rfl⟩
set_option maxHeartbeats 400000 in
theorem equal_any (v u : Value) (xs ys : List Int) (w : World) (hv : RdI w v xs) (hu : RdI w u ys) :
    Calls Tryz.prog 24 #[v, u] w fun e w' => e = .returned (.bool (sameB xs ys)) ∧ ∃ nq, w' = w.drewN nq := by
  obtain ⟨A, n, c, rfl, h1, h2, HN, hr⟩ := hv.op
  obtain ⟨A', n', c', rfl, h1', h2', HN', hr'⟩ := hu.op
  clear hv hu
  by_cases hn : n = n'
  · subst hn
    have hne : ((n : Int) != (n : Int)) = false := by simp
    go_enter Tryz.func24, Tryz.ntmps24
    go_wp2_with fail
    go_loopw [13] (fun i wr => ∃ k nq : Nat, k ≤ n ∧ i = .int .i64 k ∧ wr = w.drewN nq ∧ Hid (sameB xs ys = sameB (xs.drop k) (ys.drop k))) (fun i _ => n - (intOf i).toNat)
    case atStart => exact ⟨0, 0, Nat.zero_le _, rfl, rfl, rfl⟩
    case round =>
      obtain ⟨k, nq, hk, rfl, rfl, HP⟩ := hrel
      by_cases hlt : k < n
      · obtain ⟨b, off, x, rfl, hb, hd, hck⟩ := hr.out k hlt
        obtain ⟨b', off', y, rfl, hb', hd', hck'⟩ := hr'.out k hlt
        have HS : Hid (sameB xs ys = if x = y then sameB (xs.drop (k + 1)) (ys.drop (k + 1)) else false) := by rw [Hid, HP.out, hd.out, hd'.out, sameB]
        by_cases hxy : x = y
        · have hb1 : (x != y) = false := by simpa using hxy
          have HS2 : Hid (sameB xs ys = sameB (xs.drop (k + 1)) (ys.drop (k + 1))) := by rw [Hid, HS.out, if_pos hxy]
          clear hxy HS
          go_wp2_with fail
          go_quiet (fail)
          go_wp2_with fail
          go_roundw
          case rel => exact ⟨k + 1, _, by omega, by go_num, rfl, HS2.out⟩
          case measure => simp [intOf]; omega
        · have hb1 : (x != y) = true := by simpa using hxy
          have HS2 : Hid (sameB xs ys = false) := by rw [Hid, HS.out, if_neg hxy]
          clear hxy HS
          go_wp2_with fail
          go_quiet (fail)
          go_wp2_with fail
          go_ret
          exact ⟨by rw [HS2.out]; rfl, _, World.drewN_drewN _ _ _⟩
      · go_wp2_with fail
        go_ret
        refine ⟨?_, _, rfl⟩
        have : sameB xs ys = true := by rw [HP.out, List.drop_of_length_le (by rw [HN.out]; omega), List.drop_of_length_le (by rw [HN'.out]; omega)]; rfl
        rw [this]; rfl
  · have hne : ((n : Int) != (n' : Int)) = true := by simp; omega
    have HS2 : Hid (sameB xs ys = false) := sameB_len _ _ (by rw [HN.out, HN'.out]; exact hn)
    clear hn
    go_enter Tryz.func24, Tryz.ntmps24
    go_wp2_with fail
    go_ret
    exact ⟨by rw [HS2.out]; rfl, 0, rfl⟩
end Go.Proofs.YtiopgbbggeimaaaGreat

/-
  begins of the reference of orthographies.
-/
namespace Go.Proofs.YtiopgbbggeimaaaGreat
open Go.ChangeShapes Go.WideShapes Go.ChangeAt Go.RowKit
/-- s begins with t -/
def begB (s t : ByteArray) : Bool := if t.size ≤ s.size then (s.extract 0 t.size).toList == t.toList else false
end Go.Proofs.YtiopgbbggeimaaaGreat

/-
  longest of the reference of orthographies.
-/
namespace Go.Proofs.YtiopgbbggeimaaaGreat
open Go.ChangeShapes Go.WideShapes Go.ChangeAt Go.RowKit
def longR (s : ByteArray) : List PU → Nat → Int → Nat → Int
  | [], _, b, _ => b
  | p :: r, i, b, m => if begB s p.g = true ∧ (b < 0 ∨ m < p.g.size) then longR s r (i + 1) i p.g.size else longR s r (i + 1) b m
/-- the first unit with the longest graph with which s begins; -1 if there is none -/
def longF (us : List PU) (s : ByteArray) : Int := longR s us 0 (-1) 0
end Go.Proofs.YtiopgbbggeimaaaGreat

/-
  Plain words: the division of a text into units.
-/
namespace Go.Proofs.YtiopgbbggeimaaaGreat
open Go.ChangeShapes Go.WideShapes Go.ChangeAt Go.RowKit
theorem longR_range (s : ByteArray) (us : List PU) : ∀ (l : List PU) (i : Nat) (b : Int) (m : Nat), us.drop i = l → (b = -1 ∨ ∃ (j : Nat) (p : PU), b = j ∧ us[j]? = some p ∧ begB s p.g = true) →
    (longR s l i b m = -1 ∨ ∃ (j : Nat) (p : PU), longR s l i b m = j ∧ us[j]? = some p ∧ begB s p.g = true)
  | [], _, _, _, _, h => h
  | p :: r, i, b, m, hd, h => by
    have hr : us.drop (i + 1) = r := by rw [← List.drop_drop, hd]; rfl
    have hp : us[i]? = some p := by
      have := congrArg (fun l => l[0]?) hd
      simpa [List.getElem?_drop] using this
    rw [longR]
    by_cases hc : begB s p.g = true ∧ (b < 0 ∨ m < p.g.size)
    · rw [if_pos hc]
      exact longR_range s us r (i + 1) i p.g.size hr (.inr ⟨i, p, rfl, hp, hc.1⟩)
    · rw [if_neg hc]
      exact longR_range s us r (i + 1) b m hr h
theorem longF_range (us : List PU) (s : ByteArray) : longF us s = -1 ∨ ∃ (j : Nat) (p : PU), longF us s = j ∧ us[j]? = some p ∧ begB s p.g = true :=
  longR_range s us us 0 (-1) 0 rfl (.inl rfl)
/-- the rest of a text -/
def tl (s : ByteArray) (a : Nat) : ByteArray := s.extract a s.size
/-- the division of the text from a on: the units, and where it ends -/
def unitsR (us : List PU) (s : ByteArray) : Nat → Nat → List Int × Nat
  | 0, a => ([], a)
  | f + 1, a => if a < s.size then (if longF us (tl s a) < 0 then ([], a) else ((longF us (tl s a)) :: (unitsR us s f (a + ((us[(longF us (tl s a)).toNat]?).map fun p => p.g.size).getD 0)).1, (unitsR us s f (a + ((us[(longF us (tl s a)).toNat]?).map fun p => p.g.size).getD 0)).2)) else ([], a)
def unitsF (us : List PU) (s : ByteArray) : List Int × Nat := unitsR us s (s.size + 1) 0
end Go.Proofs.YtiopgbbggeimaaaGreat

/-
  Units of the reference of orthographies.
-/
namespace Go.Proofs.YtiopgbbggeimaaaGreat
open Go.ChangeShapes Go.WideShapes Go.ChangeAt Go.RowKit
theorem tl_size (s : ByteArray) (a : Nat) (h : a ≤ s.size) : (tl s a).size = s.size - a := by rw [tl, ByteArray.size_extract]; omega
theorem beg_le {s t : ByteArray} (h : begB s t = true) : t.size ≤ s.size := by
  rw [begB] at h
  by_cases hc : t.size ≤ s.size
  · exact hc
  · rw [if_neg hc] at h; cases h
end Go.Proofs.YtiopgbbggeimaaaGreat

/-
  Plain words: the first unit with the longest graph, and texts that begin with another one.
-/
namespace Go.Proofs.YtiopgbbggeimaaaGreat
open Go.ChangeShapes Go.WideShapes Go.ChangeAt Go.RowKit
theorem bytes_inj {s t : ByteArray} (h : s.toList = t.toList) : s = t := by
  rw [ByteArray.toList_eq, ByteArray.toList_eq] at h
  cases s; cases t
  simp only [ByteArray.mk.injEq]
  exact Array.toList_inj.1 h
theorem bytes_beq (s t : ByteArray) : (s.toList == t.toList) = decide (s = t) := by
  by_cases h : s = t
  · subst h; simp
  · simp [h]; exact fun h' => h (bytes_inj h')
theorem begB_iff (s t : ByteArray) : begB s t = true ↔ t.size ≤ s.size ∧ s.extract 0 t.size = t := by
  rw [begB]
  by_cases h : t.size ≤ s.size
  · rw [if_pos h, bytes_beq]; simp [h]
  · rw [if_neg h]; simp [h]
theorem tl_extract (s : ByteArray) (a c : Nat) (h : a + c ≤ s.size) : (tl s a).extract 0 c = s.extract a (a + c) := by
  rw [tl, ByteArray.extract_extract]
  congr 1 <;> omega
theorem beg_of_eq {s t : ByteArray} {a c : Nat} (h : a + c ≤ s.size) (he : t = s.extract a (a + c)) : begB (tl s a) t = true ∧ t.size = c := by
  have hs : t.size = c := by rw [he, ByteArray.size_extract]; omega
  refine ⟨(begB_iff _ _).2 ⟨by rw [tl_size s a (by omega)]; omega, ?_⟩, hs⟩
  rw [hs, tl_extract s a c h, ← he]
theorem eq_of_beg {s t : ByteArray} {a c : Nat} (h : a + c ≤ s.size) (hb : begB (tl s a) t = true) (hs : t.size = c) : t = s.extract a (a + c) := by
  have := ((begB_iff _ _).1 hb).2
  rw [hs, tl_extract s a c h] at this
  exact this.symm
theorem longR_stay (s : ByteArray) : ∀ (l : List PU) (i : Nat) (b : Int) (m : Nat), 0 ≤ b → (∀ q ∈ l, begB s q.g = true → q.g.size ≤ m) → longR s l i b m = b
  | [], _, _, _, _, _ => rfl
  | p :: r, i, b, m, hb, h => by
    rw [longR, if_neg]
    · exact longR_stay s r (i + 1) b m hb fun q hq => h q (List.mem_cons_of_mem _ hq)
    · rintro ⟨h1, h2⟩
      have := h p List.mem_cons_self h1
      omega
theorem longR_reach (s : ByteArray) : ∀ (l : List PU) (i : Nat) (b : Int) (m : Nat) (j : Nat) (p : PU), l[j]? = some p → begB s p.g = true → (b < 0 ∨ m < p.g.size) → (∀ q ∈ l, begB s q.g = true → q.g.size ≤ p.g.size) →
    (∀ (k : Nat) (q : PU), k < j → l[k]? = some q → begB s q.g = true → q.g.size < p.g.size) → longR s l i b m = (i : Int) + j
  | [], _, _, _, _, _, h, _, _, _, _ => by simp at h
  | q :: r, i, b, m, 0, p, h, hb, hm, h1, _ => by
    obtain rfl : q = p := by simpa using h
    rw [longR, if_pos ⟨hb, hm⟩, longR_stay s r (i + 1) i _ (by omega) fun q' hq => h1 q' (List.mem_cons_of_mem _ hq)]
    omega
  | q :: r, i, b, m, j + 1, p, h, hb, hm, h1, h2 => by
    have h' : r[j]? = some p := by simpa using h
    have h1' : ∀ q' ∈ r, begB s q'.g = true → q'.g.size ≤ p.g.size := fun q' hq => h1 q' (List.mem_cons_of_mem _ hq)
    have h2' : ∀ (k : Nat) (q' : PU), k < j → r[k]? = some q' → begB s q'.g = true → q'.g.size < p.g.size := fun k q' hk hq => h2 (k + 1) q' (by omega) (by simpa using hq)
    rw [longR]
    split
    · rename_i hc
      rw [longR_reach s r (i + 1) i q.g.size j p h' hb (.inr (h2 0 q (by omega) rfl hc.1)) h1' h2']
      omega
    · rw [longR_reach s r (i + 1) b m j p h' hb hm h1' h2']
      omega
theorem longF_eq {us : List PU} {s : ByteArray} {j : Nat} {p : PU} (h : us[j]? = some p) (hb : begB s p.g = true) (h1 : ∀ q ∈ us, begB s q.g = true → q.g.size ≤ p.g.size)
    (h2 : ∀ (k : Nat) (q : PU), k < j → us[k]? = some q → begB s q.g = true → q.g.size < p.g.size) : longF us s = j := by
  rw [longF, longR_reach s us 0 (-1) 0 j p h hb (.inl (by omega)) h1 h2]
  omega
theorem longF_none {us : List PU} {s : ByteArray} (h : ∀ q ∈ us, begB s q.g = false) : longF us s = -1 := by
  rcases longF_range us s with h1 | ⟨j, p, h1, h2, h3⟩
  · exact h1
  · rw [h p (List.mem_of_getElem? h2)] at h3; cases h3
end Go.Proofs.YtiopgbbggeimaaaGreat

/-
  Units of orthographies.
-/
namespace Go.Proofs.YtiopgbbggeimaaaGreat
open Go.ChangeShapes Go.WideShapes Go.ChangeAt Go.RowKit
set_option maxHeartbeats 4000000 in
set_option maxRecDepth 100000 in
theorem units_any (v : Value) (o : PO) (s : ByteArray) (w : World) (hv : RdO w v o) (hso : SmO o) (hg : ∀ p ∈ o.units, GoodU p) (hs : s.size ≤ 67108864) :
    Calls Tryz.prog 51 #[v, .string s] w fun e w' => (∃ v', e = .returned (.tuple #[v', .int .i64 (unitsF o.units s).2]) ∧ OwnI w' w.heap.size v' (unitsF o.units s).1) ∧ Below w.heap.size w w' := by
  have HSO := Lib.hid hso
  have HGD := Lib.hid hg
  obtain ⟨vu, vl, rfl, hu, hl⟩ := hv
  obtain ⟨A, n, c, rfl, hnc, hcm, HN, HR⟩ := hu.op
  obtain ⟨B, m, d, rfl, _, _, _, _⟩ := hl.op
  have hn2 : n ≤ 1048576 := by rw [← HN.out]; exact hso.units
  clear hu hl hso hg
  go_enter Tryz.func51, Tryz.ntmps51
  go_upto_region 1 with (fail)
  generalize hW : World.alloc w _ = W
  have HBW : Hid (Below w.heap.size w W) := by rw [← hW]; repeat (first | assumption | exact Below.refl _ _ | refine Below.alloc ?_ (by first | omega | (simp; done) | (simp; omega)) _ | refine Below.drew ?_ | refine below_drewN ?_ _ | refine Below.setCell ?_ (by first | omega | (simp; done) | (simp; omega)) _)
  have z1 : W.cell? ⟨w.heap.size, 1, none⟩ = some (.slice A n c) := by rw [← hW]; simp [go_sem]
  have hgW : w.heap.size < W.heap.size := by rw [← hW]; simp
  have HZ : Hid (∀ W' : World, Below W.heap.size W W' → W'.cell? ⟨w.heap.size, 1, none⟩ = some (.slice A n c)) := fun W' h => cell_keep hgW z1 h
  have HRW : Hid (∀ W' : World, Below W.heap.size W W' → ∀ k, k < n → UAt W' A o.units k) := fun W' h k hk => ((HR.out k hk).below HBW.out).below h
  have HBO : Hid (∀ W' : World, Below W.heap.size W W' → Below w.heap.size w W') := fun W' h => bchain HBW.out h
  have hle : w.heap.size ≤ W.heap.size := by omega
  clear hW HR HBW hgW
  generalize hg : w.heap.size = g at HZ HBO hle z1 ⊢
  have HG := Lib.hid hg
  clear hg
  have HU : Hid (∀ k p r, o.units.drop k = p :: r → o.units[k]? = some p) := fun k p r h => by
    have := congrArg (fun l => l[0]?) h
    simpa [List.getElem?_drop] using this
  go_step3
  go_wp2_with fail
  clear z1
  go_loopg [6, 17] n (fun gk mo i wr => ∃ k q : Nat, k ≤ n ∧ q ≤ 1048576 ∧ gk = n - k ∧ i = .int .i64 k ∧ mo = .int .i64 q ∧ Hid (∀ p ∈ o.units.take k, p.g.size ≤ q) ∧ Hid (Below W.heap.size W wr))
  case atStart => exact ⟨0, 0, Nat.zero_le _, by omega, rfl, rfl, rfl, by simp [Hid], Below.refl _ _⟩
  case round =>
    obtain ⟨k, q, hk, hq, hgk, rfl, rfl, HM, HB⟩ := hrel
    have HGK := Lib.hid hgk
    clear hgk
    by_cases hlt : k < n
    · obtain ⟨b, off, B2, m2, c2, p, hA, hbl, hdr, c0, c1, _⟩ := HRW.out wr HB.out k hlt
      subst hA
      have hgs : p.g.size ≤ 1048576 := HSO.out.graph p (List.mem_of_mem_drop (by rw [hdr.out]; exact List.mem_cons_self))
      have HTK : Hid (o.units.take (k + 1) = o.units.take k ++ [p]) := by
        have := HU.out k p _ hdr.out
        rw [Hid, List.take_add_one, this]; rfl
      have HX : Hid (∀ x : Nat, q ≤ x → p.g.size ≤ x → ∀ p' ∈ o.units.take (k + 1), p'.g.size ≤ x) := by
        intro x h1 h2 p' hp'
        rw [HTK.out] at hp'
        rcases List.mem_append.1 hp' with h | h
        · exact Nat.le_trans (HM.out p' h) h1
        · rw [List.mem_singleton.1 h]; exact h2
      clear hdr HTK
      by_cases hmx : (q : Int) < (p.g.size : Int)
      · go_wp2_with fail
        go_roundg (n - (k + 1))
        case measure => have := HGK.out; omega
        case rel => exact ⟨k + 1, p.g.size, by omega, hgs, rfl, by go_num, by first | rfl | (congr 1; omega), HX.out _ (by omega) (by omega), HB.out.alloc HB.out.size _⟩
      · go_wp2_with fail
        go_roundg (n - (k + 1))
        case measure => have := HGK.out; omega
        case rel => exact ⟨k + 1, q, by omega, hq, rfl, by go_num, by first | rfl | (congr 1; omega), HX.out _ (by omega) (by omega), HB.out.alloc HB.out.size _⟩
    · have HMO : Hid (∀ p ∈ o.units, p.g.size ≤ q) := fun p hp => HM.out p (by rw [List.take_of_length_le (by rw [HN.out]; omega)]; exact hp)
      clear HM HGK
      go_wp2_with fail
      go_step3
      go_wp2_with fail
      generalize hwo : wr = wo at HB ⊢
      clear hwo
      go_loopg [9, 10] s.size (fun gk v i wr => ∃ (a f : Nat) (l : List Int), a ≤ s.size ∧ gk = s.size - a ∧ i = .int .i64 a ∧ Hid (l.length ≤ a) ∧ s.size < f + a ∧ Hid (unitsF o.units s = (l ++ (unitsR o.units s f a).1, (unitsR o.units s f a).2)) ∧ Hid (OwnI wr W.heap.size v l) ∧ Hid (Below W.heap.size W wr))
      case atStart => exact ⟨0, s.size + 1, [], Nat.zero_le _, rfl, rfl, Nat.le_refl _, by omega, rfl, World.ownsRow_nil _ _ _ _, HB.out⟩
      case round =>
        obtain ⟨a, f, l, ha, hgk, rfl, HLN, hf, HU1, HO, HB1⟩ := hrel
        have HGA := Lib.hid hgk
        clear hgk
        obtain ⟨Av, nv, cv, rfl, _, _, HNV, _⟩ := HO.out.rd.op
        obtain ⟨f, rfl⟩ : ∃ f', f = f' + 1 := ⟨f - 1, by omega⟩
        by_cases hla : a < s.size
        · obtain ⟨c3, hc3, hcq, hci⟩ : ∃ c3 : Nat, a + c3 ≤ s.size ∧ (∀ x : Nat, x ≤ q → x ≤ s.size - a → x ≤ c3) ∧ (if (s.size : Int) - (a : Int) < (q : Int) then (s.size : Int) - (a : Int) else (q : Int)) = (c3 : Int) := by
            by_cases h : (s.size : Int) - (a : Int) < (q : Int)
            · exact ⟨s.size - a, by omega, fun x _ h2 => h2, by rw [if_pos h]; omega⟩
            · exact ⟨q, by omega, fun x h1 _ => h1, by rw [if_neg h]⟩
          have HC3 : Hid (∀ p ∈ o.units, begB (tl s a) p.g = true → p.g.size ≤ c3) := fun p hp hb => hcq _ (HMO.out p hp) (by have := beg_le hb; rw [tl_size s a ha] at this; exact this)
          have HUa : Hid (unitsF o.units s = if longF o.units (tl s a) < 0 then (l, a) else (l ++ ((longF o.units (tl s a)) :: (unitsR o.units s f (a + ((o.units[(longF o.units (tl s a)).toNat]?).map fun p => p.g.size).getD 0)).1), (unitsR o.units s f (a + ((o.units[(longF o.units (tl s a)).toNat]?).map fun p => p.g.size).getD 0)).2)) := by
            rw [Hid, HU1.out, unitsR, if_pos hla]
            split <;> simp
          clear hcq HU1
          go_wp2_with fail
          have HMIN : Hid (min (q : Int) ((s.size : Int) - (a : Int)) = (c3 : Int)) := by rw [Hid, ← hci]; split <;> omega
          clear hci
          generalize hwo : wr = wo at HO HB1 ⊢
          clear hwo
          go_loopg [9, 10, 11] c3 (fun gk v2 a2 n2 wx => ∃ c4 : Nat, v2 = .slice Av nv cv ∧ a2 = .int .i64 a ∧ a + c4 ≤ s.size ∧ gk = c4 ∧ n2 = .int .i64 c4 ∧ Hid (∀ p ∈ o.units, begB (tl s a) p.g = true → p.g.size ≤ c4) ∧ Hid (Below wo.heap.size wo wx))
          case atStart => exact ⟨c3, rfl, rfl, hc3, rfl, by first | rfl | rw [HMIN.out], HC3.out, Below.refl _ _⟩
          case round =>
            obtain ⟨c4, rfl, rfl, hc4, hgk, rfl, HC4, HB2⟩ := hrel
            have HGC := Lib.hid hgk
            clear hgk HC3
            by_cases h0 : 0 < c4
            · have HB2W : Hid (Below W.heap.size W wr) := bchain HB1.out HB2.out
              have z1 := HZ.out wr HB2W.out
              go_wp2_with fail
              clear z1
              generalize hwo : wr = wq at HB2 HB2W ⊢
              clear hwo
              go_loopg [9, 10, 44] n (fun gk v2 a2 i wx => ∃ k : Nat, v2 = .slice Av nv cv ∧ a2 = .int .i64 a ∧ k ≤ n ∧ gk = n - k ∧ i = .int .i64 k ∧ Hid (∀ (j : Nat) (p : PU), j < k → o.units[j]? = some p → p.g ≠ s.extract a (a + c4)) ∧ Hid (Below wq.heap.size wq wx))
              case atStart => exact ⟨0, rfl, rfl, Nat.zero_le _, rfl, rfl, fun j p h => absurd h (by omega), Below.refl _ _⟩
              case round =>
                obtain ⟨k, rfl, rfl, hk, hgk, rfl, HNE, HB3⟩ := hrel
                have HGK2 := Lib.hid hgk
                clear hgk
                by_cases hlt : k < n
                · have HB3W : Hid (Below W.heap.size W wr) := bchain HB2W.out HB3.out
                  obtain ⟨b, off, B2, m2, c2, p, hA, hbl, hdr, c0, c1, _⟩ := HRW.out wr HB3W.out k hlt
                  subst hA
                  have HPK := Lib.hid (HU.out k p _ hdr.out)
                  have hgs : p.g.size ≤ 1048576 := HSO.out.graph p (List.mem_of_mem_drop (by rw [hdr.out]; exact List.mem_cons_self))
                  clear hdr
                  have i0 : (0 : Int) ≤ (a : Int) := by omega
                  have i1 : (a : Int) ≤ (a : Int) + (c4 : Int) := by omega
                  have i2 : (a : Int) + (c4 : Int) ≤ (s.size : Int) := by omega
                  by_cases hpe : p.g = s.extract a (a + c4)
                  · have hbq : (p.g.toList == (s.extract a (a + c4)).toList) = true := by rw [bytes_beq]; simpa using hpe
                    have HPE := Lib.hid hpe
                    clear hpe
                    go_wp2_with fail
                    go_quiet (fail)
                    generalize hX : World.drewN (World.alloc wr _) _ = X
                    have HXB : Hid (Below wr.heap.size wr X) := by rw [← hX]; exact below_drewN ((Below.refl _ _).alloc (Nat.le_refl _) _) _
                    clear hX
                    obtain ⟨hbg, hsz⟩ := beg_of_eq hc4 HPE.out
                    have hL : longF o.units (tl s a) = k := longF_eq HPK.out hbg (fun q' hq' hb' => by rw [hsz]; exact HC4.out q' hq' hb') fun j q' hj hq' hb' => by
                      have h1 := HC4.out q' (List.mem_of_getElem? hq') hb'
                      have h2 : q'.g.size ≠ c4 := fun h => HNE.out j q' hj hq' (eq_of_beg hc4 hb' h)
                      omega
                    have HU2 : Hid (unitsF o.units s = ((l ++ [(k : Int)]) ++ (unitsR o.units s f (a + c4)).1, (unitsR o.units s f (a + c4)).2)) := by
                      rw [Hid, HUa.out, if_neg (by rw [hL]; omega), hL, Int.toNat_natCast, HPK.out]
                      simp [hsz]
                    have HOX : Hid (OwnI X W.heap.size (.slice Av nv cv) l) := own_below HO.out (bchain (bchain HB2.out HB3.out) HXB.out)
                    have HBX : Hid (Below W.heap.size W X) := bchain HB3W.out HXB.out
                    have hjl : W.heap.size ≤ X.heap.size := HBX.out.size
                    have hnv : nv ≤ 200000000 := by have := HLN.out; have := HNV.out; omega
                    clear c0 c1 hbg hsz hL HUa hbq HNE HC4 HPE
                    go_wp2_with (at_builtin; refine wpList_app_int2 rfl (.tmp 58) (.tmp 60) rfl W.heap.size (.slice Av nv cv) l rfl HOX.out (k : Int) nv HNV (by omega) hjl rfl ?_; intro g' cap' w9 ho hge hg; have HO9 := Lib.hid ho; have HG9 := Lib.hid hg; have HB9 : Hid (Below W.heap.size W w9) := HBX.out.grown hg HBX.out.size (fun j hj => (World.ownsRow.lt HOX.out j hj).1); clear ho hg)
                    go_roundg (s.size - (a + c4))
                    case measure => have := HGA.out; omega
                    case rel => exact ⟨a + c4, f, l ++ [(k : Int)], by omega, rfl, by go_num, by rw [Hid, List.length_append]; have := HLN.out; simp; omega, by omega, HU2.out, HO9.out, HB9.out⟩
                  · have hbq : (p.g.toList == (s.extract a (a + c4)).toList) = false := by rw [bytes_beq]; simpa using hpe
                    have HPE := Lib.hid hpe
                    clear hpe
                    go_wp2_with fail
                    go_quiet (fail)
                    go_wp2_with fail
                    go_roundg (n - (k + 1))
                    case measure => have := HGK2.out; omega
                    case rel => exact ⟨k + 1, rfl, rfl, by omega, rfl, by go_num, fun j p' hj hp' => by
                      by_cases hjk : j < k
                      · exact HNE.out j p' hjk hp'
                      · obtain rfl : j = k := by omega
                        rw [HPK.out] at hp'
                        cases hp'
                        exact HPE.out, (by first | exact below_drewN (HB3.out.alloc HB3.out.size _) _ | exact HB3.out.alloc HB3.out.size _)⟩
                · have HNA : Hid (∀ p ∈ o.units, p.g ≠ s.extract a (a + c4)) := fun p hp => by
                    obtain ⟨j, hj, he⟩ := List.getElem_of_mem hp
                    exact HNE.out j p (by rw [HN.out] at hj; omega) (by rw [List.getElem?_eq_getElem hj, he])
                  have HC5 : Hid (∀ p ∈ o.units, begB (tl s a) p.g = true → p.g.size ≤ c4 - 1) := fun p hp hb => by
                    have h1 := HC4.out p hp hb
                    have h2 : p.g.size ≠ c4 := fun h => HNA.out p hp (eq_of_beg hc4 hb h)
                    omega
                  have HB3O : Hid (Below wo.heap.size wo wr) := bchain HB2.out HB3.out
                  clear HNE HC4
                  go_wp2_with fail
                  go_roundg (c4 - 1)
                  case measure => have := HGC.out; omega
                  case rel => exact ⟨c4 - 1, rfl, rfl, by omega, rfl, by rw [Int.natCast_sub (by omega)]; rfl, HC5.out, HB3O.out⟩
            · have HL : Hid (longF o.units (tl s a) = -1) := longF_none fun p hp => by
                by_cases hb : begB (tl s a) p.g = true
                · have h1 := HC4.out p hp hb
                  have h2 := (HGD.out p hp).1
                  omega
                · simpa using hb
              have HU2 : Hid (unitsF o.units s = (l, a)) := by rw [Hid, HUa.out, HL.out, if_pos (by decide)]
              have HB2W : Hid (Below W.heap.size W wr) := bchain HB1.out HB2.out
              have HOY : Hid (OwnI wr W.heap.size (.slice Av nv cv) l) := own_below HO.out HB2.out
              clear HC4 HUa
              go_wp2_with fail
              try rw [Exit.noGoto_ret]
              go_ret2
              exact ⟨⟨_, by rw [HU2.out]; rfl, by rw [HU2.out, HG.out]; exact own_base HOY.out hle⟩, by rw [HG.out]; exact HBO.out _ HB2W.out⟩
        · have HU2 : Hid (unitsF o.units s = (l, a)) := by rw [Hid, HU1.out, unitsR, if_neg hla]; simp
          go_wp2_with fail
          try rw [Exit.noGoto_ret]
          go_ret2
          exact ⟨⟨_, by rw [HU2.out]; rfl, by rw [HU2.out, HG.out]; exact own_base HO.out hle⟩, by rw [HG.out]; exact HBO.out _ HB1.out⟩
end Go.Proofs.YtiopgbbggeimaaaGreat

/-
  Plain words: the segments of a text; Read of orthographies.
-/
namespace Go.Proofs.YtiopgbbggeimaaaGreat
open Go.ChangeShapes Go.WideShapes Go.ChangeAt Go.RowKit
theorem unitsR_range (us : List PU) (s : ByteArray) : ∀ (f a : Nat), ∀ x ∈ (unitsR us s f a).1, ∃ (j : Nat) (p : PU), x = j ∧ us[j]? = some p
  | 0, _, x, h => by simp [unitsR] at h
  | f + 1, a, x, h => by
    rw [unitsR] at h
    split at h
    · split at h
      · cases h
      · rename_i h1
        rcases longF_range us (tl s a) with h2 | ⟨j, p, h2, h3, _⟩
        · rw [h2] at h1; exact absurd (by decide) h1
        · rcases List.mem_cons.1 h with h4 | h4
          · exact ⟨j, p, h4.trans h2, h3⟩
          · exact unitsR_range us s f _ x h4
    · cases h
theorem unitsR_len (us : List PU) (s : ByteArray) (hg : ∀ p ∈ us, GoodU p) : ∀ (f a : Nat), a ≤ s.size → (unitsR us s f a).1.length + a ≤ (unitsR us s f a).2 ∧ (unitsR us s f a).2 ≤ s.size
  | 0, a, h => by simp [unitsR, h]
  | f + 1, a, h => by
    rw [unitsR]
    split
    · split
      · simp [h]
      · rename_i h1
        rcases longF_range us (tl s a) with h2 | ⟨j, p, h2, h3, h4⟩
        · rw [h2] at h1; exact absurd (by decide) h1
        · have h5 := (hg p (List.mem_of_getElem? h3)).1
          have h6 := beg_le h4
          rw [tl_size s a h] at h6
          rw [h2, Int.toNat_natCast, h3]
          have := unitsR_len us s hg f (a + p.g.size) (by omega)
          simp only [Option.map_some, Option.getD_some, List.length_cons]
          omega
    · simp [h]
theorem unitsF_len (us : List PU) (s : ByteArray) (hg : ∀ p ∈ us, GoodU p) : (unitsF us s).1.length ≤ s.size ∧ (unitsF us s).2 ≤ s.size := by
  have := unitsR_len us s hg (s.size + 1) 0 (Nat.zero_le _)
  unfold unitsF
  omega
/-- the segments of a list of units -/
def segsL (us : List PU) : List Int → List Int
  | [] => []
  | i :: l => ((us[i.toNat]?).map PU.s).getD [] ++ segsL us l
/-- what Read returns -/
def readF (us : List PU) (s : ByteArray) : List Int × Nat × Int :=
  if s.size = 0 then ([], 0, 4)
  else if (unitsF us s).2 < s.size then ([], (unitsF us s).2, 20)
  else if 24 < (segsL us (unitsF us s).1).length then ([], 0, 5)
  else (segsL us (unitsF us s).1, 0, 0)
/-- the list of a call of Read -/
def RetR (base : Nat) (r : List Int × Nat × Int) (e : Ending) (w' : World) : Prop := ∃ v', e = .returned (.tuple #[v', .int .i64 r.2.1, .int .i64 r.2.2]) ∧ OwnI w' base v' r.1
set_option maxHeartbeats 4000000 in
set_option maxRecDepth 100000 in
theorem read_any (v : Value) (o : PO) (s : ByteArray) (w : World) (hv : RdO w v o) (hso : SmO o) (hg : ∀ p ∈ o.units, GoodU p) (hs : s.size ≤ 67108864) :
    Calls Tryz.prog 23 #[v, .string s] w fun e w' => RetR w.heap.size (readF o.units s) e w' ∧ Below w.heap.size w w' := by
  have HV := Lib.hid hv
  have HSO := Lib.hid hso
  have HGD := Lib.hid hg
  obtain ⟨vu, vl, rfl, hu, hl⟩ := hv
  obtain ⟨A, n, c, rfl, hnc, hcm, HN, HR⟩ := hu.op
  obtain ⟨B, m, d, rfl, _, _, _, _⟩ := hl.op
  have hn2 : n ≤ 1048576 := by rw [← HN.out]; exact hso.units
  clear hu hl hso hg
  by_cases hz : s.size = 0
  · have hse : s.toList.isEmpty = true := by
      have : s.data = #[] := Array.eq_empty_of_size_eq_zero hz
      rw [ByteArray.toList_eq, this]; rfl
    have HF : Hid (readF o.units s = ([], 0, 4)) := by rw [Hid, readF, if_pos hz]
    clear hz
    go_enter Tryz.func23, Tryz.ntmps23
    go_wp2_with fail
    go_ret3
    exact ⟨⟨_, by rw [HF.out]; rfl, by rw [HF.out]; exact World.ownsRow_nil _ _ _ _⟩, by repeat (first | assumption | exact Below.refl _ _ | refine Below.alloc ?_ (by first | omega | (simp; done) | (simp; omega)) _ | refine Below.drew ?_ | refine below_drewN ?_ _ | refine Below.setCell ?_ (by first | omega | (simp; done) | (simp; omega)) _)⟩
  have hse : s.toList.isEmpty = false := by
    rw [ByteArray.toList_eq]
    cases h : s.data.toList with
    | nil =>
      refine absurd ?_ hz
      show s.data.size = 0
      rw [← Array.length_toList, h]; rfl
    | cons _ _ => rfl
  have HF : Hid (readF o.units s = if (unitsF o.units s).2 < s.size then ([], (unitsF o.units s).2, 20)
      else if 24 < (segsL o.units (unitsF o.units s).1).length then ([], 0, 5)
      else (segsL o.units (unitsF o.units s).1, 0, 0)) := by rw [Hid, readF, if_neg hz]
  have HUL := Lib.hid (unitsF_len o.units s HGD.out)
  have HUR : Hid (∀ x ∈ (unitsF o.units s).1, ∃ (j : Nat) (p : PU), x = j ∧ o.units[j]? = some p) := unitsR_range o.units s _ _
  generalize hr : unitsF o.units s = r at HF HUL HUR
  have HRE := Lib.hid hr
  clear hr
  go_enter Tryz.func23, Tryz.ntmps23
  go_upto_region 1 with (fail)
  generalize hW : World.alloc w _ = W
  have HBW : Hid (Below w.heap.size w W) := by rw [← hW]; repeat (first | assumption | exact Below.refl _ _ | refine Below.alloc ?_ (by first | omega | (simp; done) | (simp; omega)) _ | refine Below.drew ?_ | refine below_drewN ?_ _ | refine Below.setCell ?_ (by first | omega | (simp; done) | (simp; omega)) _)
  have z0 : W.cell? ⟨w.heap.size, 0, none⟩ = some (.string o.name) := by rw [← hW]; simp [go_sem]
  have z1 : W.cell? ⟨w.heap.size, 1, none⟩ = some (.slice A n c) := by rw [← hW]; simp [go_sem]
  have z2 : W.cell? ⟨w.heap.size, 2, none⟩ = some (.slice B m d) := by rw [← hW]; simp [go_sem]
  have hgW : w.heap.size < W.heap.size := by rw [← hW]; simp
  have HZ : Hid (∀ W' : World, Below W.heap.size W W' → W'.cell? ⟨w.heap.size, 0, none⟩ = some (.string o.name) ∧ W'.cell? ⟨w.heap.size, 1, none⟩ = some (.slice A n c) ∧ W'.cell? ⟨w.heap.size, 2, none⟩ = some (.slice B m d)) := fun W' h => ⟨cell_keep hgW z0 h, cell_keep hgW z1 h, cell_keep hgW z2 h⟩
  have HRW : Hid (∀ W' : World, Below W.heap.size W W' → ∀ k, k < n → UAt W' A o.units k) := fun W' h k hk => ((HR.out k hk).below HBW.out).below h
  have HV : Hid (RdO W (.agg #[.string o.name, .slice A n c, .slice B m d]) o) := HV.out.below HBW.out
  have HBO : Hid (∀ W' : World, Below W.heap.size W W' → Below w.heap.size w W') := fun W' h => bchain HBW.out h
  have hle : w.heap.size ≤ W.heap.size := by omega
  clear hW HR HBW hgW
  generalize hg : w.heap.size = g at HZ HBO hle z0 z1 z2 ⊢
  have HG := Lib.hid hg
  clear hg
  go_wp2_with fail
  refine (units_any _ o s _ HV.out HSO.out HGD.out hs).mono ?_
  rw [HRE.out]
  rintro e w1 ⟨⟨v1, rfl, hO1⟩, hb⟩
  obtain ⟨A1, n1, c1, rfl, _, _, HN1, HI1⟩ := hO1.rd.op
  have HB1 := Lib.hid hb
  clear hb hO1 z0 z1 z2
  have hr1 := HUL.out.1
  have hr2 := HUL.out.2
  rw [HN1.out] at hr1
  by_cases hlt : r.2 < s.size
  · have d1 : decide ((r.2 : Int) < (s.size : Int)) = true := by simp; omega
    have HF2 : Hid (readF o.units s = ([], r.2, 20)) := by rw [Hid, HF.out, if_pos hlt]
    clear HF
    go_wp2_with fail
    go_ret3
    exact ⟨⟨_, by rw [HF2.out]; rfl, by rw [HF2.out]; exact World.ownsRow_nil _ _ _ _⟩, by rw [HG.out]; exact HBO.out _ HB1.out⟩
  have d1 : decide ((r.2 : Int) < (s.size : Int)) = false := by simp; omega
  have HF2 : Hid (readF o.units s = if 24 < (segsL o.units r.1).length then ([], 0, 5) else (segsL o.units r.1, 0, 0)) := by rw [Hid, HF.out, if_neg hlt]
  have d2 : decide (r.2 < s.size) = false := by simpa using hlt
  clear HF hlt
  go_wp2_with fail
  clear d1 d2
  have hgw1 : W.heap.size ≤ w1.heap.size := HB1.out.size
  go_loopw [9, 27] (fun v i wr => ∃ (k : Nat) (l : List Int), k ≤ n1 ∧ i = .int .i64 k ∧ Hid (segsL o.units r.1 = l ++ segsL o.units (r.1.drop k)) ∧ Hid (l.length ≤ 3 * k) ∧ Hid (OwnI wr w1.heap.size v l) ∧ Hid (Below w1.heap.size w1 wr)) (fun _ i _ => n1 - (intOf i).toNat)
  case atStart => exact ⟨0, [], Nat.zero_le _, rfl, rfl, Nat.le_refl _, World.ownsRow_nil _ _ _ _, Below.refl _ _⟩
  case round =>
    obtain ⟨k, l, hk, rfl, HP, HLN, HO, HB⟩ := hrel
    obtain ⟨Av, nv, cv, rfl, _, _, HNV, _⟩ := HO.out.rd.op
    have HBW2 : Hid (Below W.heap.size W wr) := bchain HB1.out HB.out
    by_cases hlt : k < n1
    · obtain ⟨b1, off1, x, hA1, hb1, hdr, e0⟩ := (HI1.out k hlt).below HB.out
      subst hA1
      obtain ⟨j, p, hx, hp⟩ := HUR.out x (List.mem_of_mem_drop (by rw [hdr.out]; exact List.mem_cons_self))
      subst hx
      have hjn : j < n := by rw [← HN.out]; exact (List.getElem?_eq_some_iff.1 hp).1
      have HP2 : Hid (segsL o.units r.1 = (l ++ p.s) ++ segsL o.units (r.1.drop (k + 1))) := by
        rw [Hid, HP.out, hdr.out, segsL, Int.toNat_natCast, hp]
        simp
      obtain ⟨b, off, B2, m2, c2, p', hA, hbl, hdr', _, e2, hrd⟩ := HRW.out wr HBW2.out j hjn
      subst hA
      have hpp : p' = p := by
        have := congrArg (fun l => l[0]?) hdr'.out
        simp only [List.getElem?_drop, Nat.add_zero, List.getElem?_cons_zero] at this
        rw [hp] at this
        exact (Option.some.inj this).symm
      subst hpp
      have hp3 := (HGD.out p' (List.mem_of_getElem? hp)).2.2
      have HLL : Hid (l.length + p'.s.length ≤ 300000000) := by have := HLN.out; rw [Hid]; omega
      have HL3 : Hid (p'.s.length ≤ 3) := hp3
      obtain ⟨z0, z1, z2⟩ := HZ.out wr HBW2.out
      have hbw : w1.heap.size ≤ wr.heap.size := HB.out.size
      have i0 : (0 : Int) ≤ (j : Int) := by omega
      have i1 : (j : Int) < (n : Int) := by omega
      clear hp hdr' hdr HP hp3
      go_wp2_with (at_builtin; refine wpList_app_ints rfl (.tmp 31) (.tmp 37) rfl w1.heap.size (.slice Av nv cv) l rfl HO.out (.slice B2 m2 c2) p'.s rfl hrd.out HLL.out hbw ?_; intro v9 w9 ho hg _; have HO9 := Lib.hid ho; have HB9 : Hid (Below w1.heap.size w1 w9) := HB.out.grown hg HB.out.size (fun j hj => (World.ownsRow.lt HO.out j hj).1); clear ho hg)
      go_roundw
      case rel => exact ⟨k + 1, l ++ p'.s, by omega, by go_num, HP2.out, by rw [Hid, List.length_append]; have := HLN.out; have := HL3.out; omega, HO9.out, HB9.out⟩
      case measure => simp [intOf]; omega
    · have HP2 : Hid (segsL o.units r.1 = l) := by rw [Hid, HP.out, List.drop_of_length_le (by rw [HN1.out]; omega)]; simp [segsL]
      by_cases h24 : 24 < nv
      · have HF3 : Hid (readF o.units s = ([], 0, 5)) := by rw [Hid, HF2.out, HP2.out, HNV.out, if_pos h24]
        have d1 : decide ((24 : Int) < (nv : Int)) = true := by simp; omega
        clear HF2 HP h24
        go_wp2_with fail
        go_ret3
        exact ⟨⟨_, by rw [HF3.out]; rfl, by rw [HF3.out]; exact World.ownsRow_nil _ _ _ _⟩, by rw [HG.out]; exact HBO.out _ HBW2.out⟩
      · have HF3 : Hid (readF o.units s = (l, 0, 0)) := by rw [Hid, HF2.out, HP2.out, HNV.out, if_neg h24]
        have d1 : decide ((24 : Int) < (nv : Int)) = false := by simp; omega
        clear HF2 HP h24
        go_wp2_with fail
        go_ret3
        exact ⟨⟨_, by rw [HF3.out]; rfl, by rw [HF3.out, HG.out]; exact own_base HO.out (by omega)⟩, by rw [HG.out]; exact HBO.out _ HBW2.out⟩
end Go.Proofs.YtiopgbbggeimaaaGreat

