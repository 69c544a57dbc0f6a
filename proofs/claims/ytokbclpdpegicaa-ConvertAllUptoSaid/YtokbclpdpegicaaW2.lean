/-
  first of the reference of runes.
-/
import Derived.Test.YtokbclpdpegicaaW1
namespace Go.Proofs.Ytokbclpdpegicaa
open Go.ChangeShapes Go.WideShapes Go.ChangeAt Go.RowKit
/-- what first returns: nothing, or a number of bytes that lie in the text -/
def FirstQ (n at' : Nat) (e : Ending) : Prop := ∃ (p : Int) (k : Nat), e = .returned (.tuple #[.int .i64 p, .int .i64 k]) ∧ (0 < k → at' + k ≤ n)
theorem FirstQ.none {n a : Nat} : FirstQ n a (.returned (.tuple #[.int .i64 (-1), .int .i64 0])) := ⟨-1, 0, rfl, fun h => absurd h (Nat.lt_irrefl 0)⟩
theorem FirstQ.mk {n a : Nat} {p z : Int} {k : Nat} (h : a + k ≤ n) (hz : z = k) : FirstQ n a (.returned (.tuple #[.int .i64 p, .int .i64 z])) := ⟨p, k, by rw [hz], fun _ => h⟩
theorem wrap64_of (n : Int) (h : 0 ≤ n ∧ n ≤ 9223372036854775807) : wrap64 n = n := by unfold wrap64; omega
set_option maxHeartbeats 4000000 in
set_option maxRecDepth 100000 in
theorem first_any (s : ByteArray) (a : Nat) (w : World) (hs : s.size ≤ 1048576) (ha : a < s.size) : Calls Try.prog 77 #[.string s, .int .i64 a] w fun e w' => FirstQ s.size a e ∧ Below w.heap.size w w' := by
  obtain ⟨y, hy, hy0, hy1⟩ : ∃ y : Int, wrap64 (((s[a]'ha).toNat : Nat) : Int) = y ∧ 0 ≤ y ∧ y < 256 := by
    have h1 := (s[a]'ha).toNat_lt
    exact ⟨(s[a]'ha).toNat, wrap64_of _ (by omega), by omega, by omega⟩
  go_enter Try.func77, Try.ntmps77
  go_upto_region 3 with (fail)
  simp only [hy]
  clear hy
  by_cases h1 : 240 ≤ y
  · have d1 : decide (240 ≤ y) = true := by simpa using h1
    have hn1 : 1 ≤ 4 := by omega
    by_cases hsz : s.size < a + 4
    · have e1 : decide ((s.size : Int) < (a : Int) + 4) = true := by simp; omega
      go_wp2_with fail
      go_ret2
      exact ⟨FirstQ.none, Below.refl _ _⟩
    have e1 : decide ((s.size : Int) < (a : Int) + 4) = false := by simp; omega
    go_wp2_with fail
    clear e1
    go_loop [6, 8] (fun p i => ∃ (q : Int) (k : Nat), p = .int .i64 q ∧ i = .int .i64 k ∧ 1 ≤ k ∧ k ≤ 4 ∧ 0 ≤ q ∧ ((k = 1 ∧ q < 256) ∨ (k = 2 ∧ q < 16384) ∨ (k = 3 ∧ q < 1048576) ∨ (k = 4 ∧ q < 67108864))) (fun _ i => 4 - (intOf i).toNat)
    case atStart => exact ⟨y - 240, 1, rfl, rfl, by omega, by omega, by omega, .inl ⟨rfl, by omega⟩⟩
    case round =>
      obtain ⟨q, k, rfl, rfl, hk1, hkn, hq0, hq1⟩ := hrel
      by_cases hlt : k < 4
      · have hak : a + k < s.size := by omega
        obtain ⟨z, hz, hz0, hz1⟩ : ∃ z : Int, wrap64 (((s[a + k]'hak).toNat : Nat) : Int) = z ∧ 0 ≤ z ∧ z < 256 := by
          have h1 := (s[a + k]'hak).toNat_lt
          exact ⟨(s[a + k]'hak).toNat, wrap64_of _ (by omega), by omega, by omega⟩
        go_wp2_with fail
        go_round
        case rel => exact ⟨_, k + 1, rfl, by go_num, by omega, by omega, by omega, by omega⟩
        case measure => simp [intOf]; omega
      · obtain rfl : k = 4 := by omega
        clear hq1 hlt
        go_wp2_with fail
        refine wp_region_mix 12 [0, 1, 2, 3, 4, 5, 6, 7, 8, 9, 10, 11] [] [(true, 0), (false, 1), (true, 2), (true, 3), (true, 4), (true, 6), (true, 7), (true, 8), (true, 9), (true, 10), (true, 11), (false, 5), (false, 12), (false, 13)] (fun w' => Below w.heap.size w w') (by kernel_rfl) (by kernel_rfl) ?_
        rintro D hD
        have HSD : Hid (Below w.heap.size w D) := by rw [hD]; exact (Below.refl _ _).drew
        clear hD
        refine ⟨HSD.out, ?_⟩
        have HS : Hid (∀ w' : World, Below w.heap.size w w' → True) := fun _ _ => trivial
        (refine wpMix_q (v := ?_) rfl rfl (fun w' hS => ?_) ?_; rotate_left; (focus ((try obtain s0 := HS.out _ (hS rfl)); clear hS; go_simp; try with_reducible rfl; done)); (try simp only [Act.put, List.setIfInBounds_toArray, List.set_cons_zero, List.set_cons_succ]))
        refine wpMix_e rfl rfl (fun K hK => ?_)
        go_simp
        refine (scalar_any q _).mono ?_
        rintro e Y ⟨⟨b, rfl, hq⟩, rfl⟩
        refine hK.out _ _ (fun _ => HSD.out) ?_
        clear hK K
        (try simp only [Act.put, List.setIfInBounds_toArray, List.set_cons_zero, List.set_cons_succ])
        cases b
        · clear hq
          (refine wpMix_q (v := ?_) rfl rfl (fun w' hS => ?_) ?_; rotate_left; (focus ((try obtain s0 := HS.out _ (hS rfl)); clear hS; go_simp; try with_reducible rfl; done)); (try simp only [Act.put, List.setIfInBounds_toArray, List.set_cons_zero, List.set_cons_succ]))
          (refine wpMix_q (v := ?_) rfl rfl (fun w' hS => ?_) ?_; rotate_left; (focus ((try obtain s0 := HS.out _ (hS rfl)); clear hS; go_simp; try with_reducible rfl; done)); (try simp only [Act.put, List.setIfInBounds_toArray, List.set_cons_zero, List.set_cons_succ]))
          iterate 7 (refine wpMix_qskip rfl rfl ?_; (try simp only [Act.put, List.setIfInBounds_toArray, List.set_cons_zero, List.set_cons_succ]))
          (refine wpMix_eskip rfl rfl (HSD).out ?_; (try simp only [Act.put, List.setIfInBounds_toArray, List.set_cons_zero, List.set_cons_succ]))
          (refine wpMix_eskip rfl rfl (HSD).out ?_; (try simp only [Act.put, List.setIfInBounds_toArray, List.set_cons_zero, List.set_cons_succ]))
          (refine wpMix_e rfl rfl (fun K hK => ?_); go_simp; refine hK.out _ _ (fun h => absurd h (by decide)) ?_; clear hK K; (try simp only [Act.put, List.setIfInBounds_toArray, List.set_cons_zero, List.set_cons_succ]))
          refine wpMix_nil ?_
          refine NoPanic.normal ?_
          go_wp2_with fail
          go_ret2
          exact ⟨FirstQ.none, HSD.out⟩
        · have hq2 := hq rfl
          have hsl : (a : Int) + 4 ≤ (s.size : Int) := by omega
          have HQ := Lib.hid hq2
          clear hq hq2
          (refine wpMix_q (v := ?_) rfl rfl (fun w' hS => ?_) ?_; rotate_left; (focus ((try obtain s0 := HS.out _ (hS rfl)); clear hS; go_simp; try with_reducible rfl; done)); (try simp only [Act.put, List.setIfInBounds_toArray, List.set_cons_zero, List.set_cons_succ]))
          (refine wpMix_q (v := ?_) rfl rfl (fun w' hS => ?_) ?_; rotate_left; (focus ((try obtain s0 := HS.out _ (hS rfl)); clear hS; go_simp; try with_reducible rfl; done)); (try simp only [Act.put, List.setIfInBounds_toArray, List.set_cons_zero, List.set_cons_succ]))
          iterate 6 (refine wpMix_q (v := ?_) rfl rfl (fun w' hS => ?_) ?_; rotate_left; (focus ((try obtain s0 := HS.out _ (hS rfl)); clear hS; go_simp; try with_reducible rfl; done)); (try simp only [Act.put, List.setIfInBounds_toArray, List.set_cons_zero, List.set_cons_succ]))
          have hwr : IntKind.i64.wrap ((a : Int) + 4) = (a : Int) + 4 := (IntWalk.i64_left _).trans (wrap64_of _ (by omega))
          have htn : ((a : Int) + 4).toNat = a + 4 := by omega
          have h00 : 0 ≤ (a : Int) + 4 := by omega
          have haa : (a : Int) ≤ (a : Int) + 4 := by omega
          (refine wpMix_q (v := ?_) rfl rfl (fun w' hS => ?_) ?_; rotate_left; (focus ((try obtain s0 := HS.out _ (hS rfl)); clear hS; go_simp; try with_reducible rfl; done)); (try simp only [Act.put, List.setIfInBounds_toArray, List.set_cons_zero, List.set_cons_succ]))
          clear hwr htn h00 haa
          refine wpMix_e rfl rfl (fun K hK => ?_)
          go_simp
          refine (encoded_any q _ HQ.out.1 HQ.out.2).mono ?_
          rintro e Y2 ⟨⟨s', rfl, _⟩, hb⟩
          have HSY := Lib.hid (bchain HSD.out hb)
          refine hK.out _ _ (fun _ => HSY.out) ?_
          clear hK K hb
          (try simp only [Act.put, List.setIfInBounds_toArray, List.set_cons_zero, List.set_cons_succ])
          (refine wpMix_e rfl rfl (fun K hK => ?_); go_simp; refine hK.out _ _ (fun h => absurd h (by decide)) ?_; clear hK K; (try simp only [Act.put, List.setIfInBounds_toArray, List.set_cons_zero, List.set_cons_succ]))
          (refine wpMix_e rfl rfl (fun K hK => ?_); go_simp; refine hK.out _ _ (fun h => absurd h (by decide)) ?_; clear hK K; (try simp only [Act.put, List.setIfInBounds_toArray, List.set_cons_zero, List.set_cons_succ]))
          refine wpMix_nil ?_
          refine NoPanic.normal ?_
          go_wp2_with fail
          · go_ret2
            exact ⟨FirstQ.none, HSY.out⟩
          · go_ret2
            exact ⟨FirstQ.mk (k := 4) (by omega) rfl, HSY.out⟩
  have d1 : decide (240 ≤ y) = false := by simpa using h1
  by_cases h2 : 224 ≤ y
  · have d2 : decide (224 ≤ y) = true := by simpa using h2
    have hn1 : 1 ≤ 3 := by omega
    by_cases hsz : s.size < a + 3
    · have e1 : decide ((s.size : Int) < (a : Int) + 3) = true := by simp; omega
      go_wp2_with fail
      go_ret2
      exact ⟨FirstQ.none, Below.refl _ _⟩
    have e1 : decide ((s.size : Int) < (a : Int) + 3) = false := by simp; omega
    go_wp2_with fail
    clear e1
    go_loop [6, 8] (fun p i => ∃ (q : Int) (k : Nat), p = .int .i64 q ∧ i = .int .i64 k ∧ 1 ≤ k ∧ k ≤ 3 ∧ 0 ≤ q ∧ ((k = 1 ∧ q < 256) ∨ (k = 2 ∧ q < 16384) ∨ (k = 3 ∧ q < 1048576) ∨ (k = 4 ∧ q < 67108864))) (fun _ i => 3 - (intOf i).toNat)
    case atStart => exact ⟨y - 224, 1, rfl, rfl, by omega, by omega, by omega, .inl ⟨rfl, by omega⟩⟩
    case round =>
      obtain ⟨q, k, rfl, rfl, hk1, hkn, hq0, hq1⟩ := hrel
      by_cases hlt : k < 3
      · have hak : a + k < s.size := by omega
        obtain ⟨z, hz, hz0, hz1⟩ : ∃ z : Int, wrap64 (((s[a + k]'hak).toNat : Nat) : Int) = z ∧ 0 ≤ z ∧ z < 256 := by
          have h1 := (s[a + k]'hak).toNat_lt
          exact ⟨(s[a + k]'hak).toNat, wrap64_of _ (by omega), by omega, by omega⟩
        go_wp2_with fail
        go_round
        case rel => exact ⟨_, k + 1, rfl, by go_num, by omega, by omega, by omega, by omega⟩
        case measure => simp [intOf]; omega
      · obtain rfl : k = 3 := by omega
        clear hq1 hlt
        go_wp2_with fail
        refine wp_region_mix 12 [0, 1, 2, 3, 4, 5, 6, 7, 8, 9, 10, 11] [] [(true, 0), (false, 1), (true, 2), (true, 3), (true, 4), (true, 6), (true, 7), (true, 8), (true, 9), (true, 10), (true, 11), (false, 5), (false, 12), (false, 13)] (fun w' => Below w.heap.size w w') (by kernel_rfl) (by kernel_rfl) ?_
        rintro D hD
        have HSD : Hid (Below w.heap.size w D) := by rw [hD]; exact (Below.refl _ _).drew
        clear hD
        refine ⟨HSD.out, ?_⟩
        have HS : Hid (∀ w' : World, Below w.heap.size w w' → True) := fun _ _ => trivial
        (refine wpMix_q (v := ?_) rfl rfl (fun w' hS => ?_) ?_; rotate_left; (focus ((try obtain s0 := HS.out _ (hS rfl)); clear hS; go_simp; try with_reducible rfl; done)); (try simp only [Act.put, List.setIfInBounds_toArray, List.set_cons_zero, List.set_cons_succ]))
        refine wpMix_e rfl rfl (fun K hK => ?_)
        go_simp
        refine (scalar_any q _).mono ?_
        rintro e Y ⟨⟨b, rfl, hq⟩, rfl⟩
        refine hK.out _ _ (fun _ => HSD.out) ?_
        clear hK K
        (try simp only [Act.put, List.setIfInBounds_toArray, List.set_cons_zero, List.set_cons_succ])
        cases b
        · clear hq
          (refine wpMix_q (v := ?_) rfl rfl (fun w' hS => ?_) ?_; rotate_left; (focus ((try obtain s0 := HS.out _ (hS rfl)); clear hS; go_simp; try with_reducible rfl; done)); (try simp only [Act.put, List.setIfInBounds_toArray, List.set_cons_zero, List.set_cons_succ]))
          (refine wpMix_q (v := ?_) rfl rfl (fun w' hS => ?_) ?_; rotate_left; (focus ((try obtain s0 := HS.out _ (hS rfl)); clear hS; go_simp; try with_reducible rfl; done)); (try simp only [Act.put, List.setIfInBounds_toArray, List.set_cons_zero, List.set_cons_succ]))
          iterate 7 (refine wpMix_qskip rfl rfl ?_; (try simp only [Act.put, List.setIfInBounds_toArray, List.set_cons_zero, List.set_cons_succ]))
          (refine wpMix_eskip rfl rfl (HSD).out ?_; (try simp only [Act.put, List.setIfInBounds_toArray, List.set_cons_zero, List.set_cons_succ]))
          (refine wpMix_eskip rfl rfl (HSD).out ?_; (try simp only [Act.put, List.setIfInBounds_toArray, List.set_cons_zero, List.set_cons_succ]))
          (refine wpMix_e rfl rfl (fun K hK => ?_); go_simp; refine hK.out _ _ (fun h => absurd h (by decide)) ?_; clear hK K; (try simp only [Act.put, List.setIfInBounds_toArray, List.set_cons_zero, List.set_cons_succ]))
          refine wpMix_nil ?_
          refine NoPanic.normal ?_
          go_wp2_with fail
          go_ret2
          exact ⟨FirstQ.none, HSD.out⟩
        · have hq2 := hq rfl
          have hsl : (a : Int) + 3 ≤ (s.size : Int) := by omega
          have HQ := Lib.hid hq2
          clear hq hq2
          (refine wpMix_q (v := ?_) rfl rfl (fun w' hS => ?_) ?_; rotate_left; (focus ((try obtain s0 := HS.out _ (hS rfl)); clear hS; go_simp; try with_reducible rfl; done)); (try simp only [Act.put, List.setIfInBounds_toArray, List.set_cons_zero, List.set_cons_succ]))
          (refine wpMix_q (v := ?_) rfl rfl (fun w' hS => ?_) ?_; rotate_left; (focus ((try obtain s0 := HS.out _ (hS rfl)); clear hS; go_simp; try with_reducible rfl; done)); (try simp only [Act.put, List.setIfInBounds_toArray, List.set_cons_zero, List.set_cons_succ]))
          iterate 6 (refine wpMix_q (v := ?_) rfl rfl (fun w' hS => ?_) ?_; rotate_left; (focus ((try obtain s0 := HS.out _ (hS rfl)); clear hS; go_simp; try with_reducible rfl; done)); (try simp only [Act.put, List.setIfInBounds_toArray, List.set_cons_zero, List.set_cons_succ]))
          have hwr : IntKind.i64.wrap ((a : Int) + 3) = (a : Int) + 3 := (IntWalk.i64_left _).trans (wrap64_of _ (by omega))
          have htn : ((a : Int) + 3).toNat = a + 3 := by omega
          have h00 : 0 ≤ (a : Int) + 3 := by omega
          have haa : (a : Int) ≤ (a : Int) + 3 := by omega
          (refine wpMix_q (v := ?_) rfl rfl (fun w' hS => ?_) ?_; rotate_left; (focus ((try obtain s0 := HS.out _ (hS rfl)); clear hS; go_simp; try with_reducible rfl; done)); (try simp only [Act.put, List.setIfInBounds_toArray, List.set_cons_zero, List.set_cons_succ]))
          clear hwr htn h00 haa
          refine wpMix_e rfl rfl (fun K hK => ?_)
          go_simp
          refine (encoded_any q _ HQ.out.1 HQ.out.2).mono ?_
          rintro e Y2 ⟨⟨s', rfl, _⟩, hb⟩
          have HSY := Lib.hid (bchain HSD.out hb)
          refine hK.out _ _ (fun _ => HSY.out) ?_
          clear hK K hb
          (try simp only [Act.put, List.setIfInBounds_toArray, List.set_cons_zero, List.set_cons_succ])
          (refine wpMix_e rfl rfl (fun K hK => ?_); go_simp; refine hK.out _ _ (fun h => absurd h (by decide)) ?_; clear hK K; (try simp only [Act.put, List.setIfInBounds_toArray, List.set_cons_zero, List.set_cons_succ]))
          (refine wpMix_e rfl rfl (fun K hK => ?_); go_simp; refine hK.out _ _ (fun h => absurd h (by decide)) ?_; clear hK K; (try simp only [Act.put, List.setIfInBounds_toArray, List.set_cons_zero, List.set_cons_succ]))
          refine wpMix_nil ?_
          refine NoPanic.normal ?_
          go_wp2_with fail
          · go_ret2
            exact ⟨FirstQ.none, HSY.out⟩
          · go_ret2
            exact ⟨FirstQ.mk (k := 3) (by omega) rfl, HSY.out⟩
  have d2 : decide (224 ≤ y) = false := by simpa using h2
  by_cases h3 : 192 ≤ y
  · have d3 : decide (192 ≤ y) = true := by simpa using h3
    have hn1 : 1 ≤ 2 := by omega
    by_cases hsz : s.size < a + 2
    · have e1 : decide ((s.size : Int) < (a : Int) + 2) = true := by simp; omega
      go_wp2_with fail
      go_ret2
      exact ⟨FirstQ.none, Below.refl _ _⟩
    have e1 : decide ((s.size : Int) < (a : Int) + 2) = false := by simp; omega
    go_wp2_with fail
    clear e1
    go_loop [6, 8] (fun p i => ∃ (q : Int) (k : Nat), p = .int .i64 q ∧ i = .int .i64 k ∧ 1 ≤ k ∧ k ≤ 2 ∧ 0 ≤ q ∧ ((k = 1 ∧ q < 256) ∨ (k = 2 ∧ q < 16384) ∨ (k = 3 ∧ q < 1048576) ∨ (k = 4 ∧ q < 67108864))) (fun _ i => 2 - (intOf i).toNat)
    case atStart => exact ⟨y - 192, 1, rfl, rfl, by omega, by omega, by omega, .inl ⟨rfl, by omega⟩⟩
    case round =>
      obtain ⟨q, k, rfl, rfl, hk1, hkn, hq0, hq1⟩ := hrel
      by_cases hlt : k < 2
      · have hak : a + k < s.size := by omega
        obtain ⟨z, hz, hz0, hz1⟩ : ∃ z : Int, wrap64 (((s[a + k]'hak).toNat : Nat) : Int) = z ∧ 0 ≤ z ∧ z < 256 := by
          have h1 := (s[a + k]'hak).toNat_lt
          exact ⟨(s[a + k]'hak).toNat, wrap64_of _ (by omega), by omega, by omega⟩
        go_wp2_with fail
        go_round
        case rel => exact ⟨_, k + 1, rfl, by go_num, by omega, by omega, by omega, by omega⟩
        case measure => simp [intOf]; omega
      · obtain rfl : k = 2 := by omega
        clear hq1 hlt
        go_wp2_with fail
        refine wp_region_mix 12 [0, 1, 2, 3, 4, 5, 6, 7, 8, 9, 10, 11] [] [(true, 0), (false, 1), (true, 2), (true, 3), (true, 4), (true, 6), (true, 7), (true, 8), (true, 9), (true, 10), (true, 11), (false, 5), (false, 12), (false, 13)] (fun w' => Below w.heap.size w w') (by kernel_rfl) (by kernel_rfl) ?_
        rintro D hD
        have HSD : Hid (Below w.heap.size w D) := by rw [hD]; exact (Below.refl _ _).drew
        clear hD
        refine ⟨HSD.out, ?_⟩
        have HS : Hid (∀ w' : World, Below w.heap.size w w' → True) := fun _ _ => trivial
        (refine wpMix_q (v := ?_) rfl rfl (fun w' hS => ?_) ?_; rotate_left; (focus ((try obtain s0 := HS.out _ (hS rfl)); clear hS; go_simp; try with_reducible rfl; done)); (try simp only [Act.put, List.setIfInBounds_toArray, List.set_cons_zero, List.set_cons_succ]))
        refine wpMix_e rfl rfl (fun K hK => ?_)
        go_simp
        refine (scalar_any q _).mono ?_
        rintro e Y ⟨⟨b, rfl, hq⟩, rfl⟩
        refine hK.out _ _ (fun _ => HSD.out) ?_
        clear hK K
        (try simp only [Act.put, List.setIfInBounds_toArray, List.set_cons_zero, List.set_cons_succ])
        cases b
        · clear hq
          (refine wpMix_q (v := ?_) rfl rfl (fun w' hS => ?_) ?_; rotate_left; (focus ((try obtain s0 := HS.out _ (hS rfl)); clear hS; go_simp; try with_reducible rfl; done)); (try simp only [Act.put, List.setIfInBounds_toArray, List.set_cons_zero, List.set_cons_succ]))
          (refine wpMix_q (v := ?_) rfl rfl (fun w' hS => ?_) ?_; rotate_left; (focus ((try obtain s0 := HS.out _ (hS rfl)); clear hS; go_simp; try with_reducible rfl; done)); (try simp only [Act.put, List.setIfInBounds_toArray, List.set_cons_zero, List.set_cons_succ]))
          iterate 7 (refine wpMix_qskip rfl rfl ?_; (try simp only [Act.put, List.setIfInBounds_toArray, List.set_cons_zero, List.set_cons_succ]))
          (refine wpMix_eskip rfl rfl (HSD).out ?_; (try simp only [Act.put, List.setIfInBounds_toArray, List.set_cons_zero, List.set_cons_succ]))
          (refine wpMix_eskip rfl rfl (HSD).out ?_; (try simp only [Act.put, List.setIfInBounds_toArray, List.set_cons_zero, List.set_cons_succ]))
          (refine wpMix_e rfl rfl (fun K hK => ?_); go_simp; refine hK.out _ _ (fun h => absurd h (by decide)) ?_; clear hK K; (try simp only [Act.put, List.setIfInBounds_toArray, List.set_cons_zero, List.set_cons_succ]))
          refine wpMix_nil ?_
          refine NoPanic.normal ?_
          go_wp2_with fail
          go_ret2
          exact ⟨FirstQ.none, HSD.out⟩
        · have hq2 := hq rfl
          have hsl : (a : Int) + 2 ≤ (s.size : Int) := by omega
          have HQ := Lib.hid hq2
          clear hq hq2
          (refine wpMix_q (v := ?_) rfl rfl (fun w' hS => ?_) ?_; rotate_left; (focus ((try obtain s0 := HS.out _ (hS rfl)); clear hS; go_simp; try with_reducible rfl; done)); (try simp only [Act.put, List.setIfInBounds_toArray, List.set_cons_zero, List.set_cons_succ]))
          (refine wpMix_q (v := ?_) rfl rfl (fun w' hS => ?_) ?_; rotate_left; (focus ((try obtain s0 := HS.out _ (hS rfl)); clear hS; go_simp; try with_reducible rfl; done)); (try simp only [Act.put, List.setIfInBounds_toArray, List.set_cons_zero, List.set_cons_succ]))
          iterate 6 (refine wpMix_q (v := ?_) rfl rfl (fun w' hS => ?_) ?_; rotate_left; (focus ((try obtain s0 := HS.out _ (hS rfl)); clear hS; go_simp; try with_reducible rfl; done)); (try simp only [Act.put, List.setIfInBounds_toArray, List.set_cons_zero, List.set_cons_succ]))
          have hwr : IntKind.i64.wrap ((a : Int) + 2) = (a : Int) + 2 := (IntWalk.i64_left _).trans (wrap64_of _ (by omega))
          have htn : ((a : Int) + 2).toNat = a + 2 := by omega
          have h00 : 0 ≤ (a : Int) + 2 := by omega
          have haa : (a : Int) ≤ (a : Int) + 2 := by omega
          (refine wpMix_q (v := ?_) rfl rfl (fun w' hS => ?_) ?_; rotate_left; (focus ((try obtain s0 := HS.out _ (hS rfl)); clear hS; go_simp; try with_reducible rfl; done)); (try simp only [Act.put, List.setIfInBounds_toArray, List.set_cons_zero, List.set_cons_succ]))
          clear hwr htn h00 haa
          refine wpMix_e rfl rfl (fun K hK => ?_)
          go_simp
          refine (encoded_any q _ HQ.out.1 HQ.out.2).mono ?_
          rintro e Y2 ⟨⟨s', rfl, _⟩, hb⟩
          have HSY := Lib.hid (bchain HSD.out hb)
          refine hK.out _ _ (fun _ => HSY.out) ?_
          clear hK K hb
          (try simp only [Act.put, List.setIfInBounds_toArray, List.set_cons_zero, List.set_cons_succ])
          (refine wpMix_e rfl rfl (fun K hK => ?_); go_simp; refine hK.out _ _ (fun h => absurd h (by decide)) ?_; clear hK K; (try simp only [Act.put, List.setIfInBounds_toArray, List.set_cons_zero, List.set_cons_succ]))
          (refine wpMix_e rfl rfl (fun K hK => ?_); go_simp; refine hK.out _ _ (fun h => absurd h (by decide)) ?_; clear hK K; (try simp only [Act.put, List.setIfInBounds_toArray, List.set_cons_zero, List.set_cons_succ]))
          refine wpMix_nil ?_
          refine NoPanic.normal ?_
          go_wp2_with fail
          · go_ret2
            exact ⟨FirstQ.none, HSY.out⟩
          · go_ret2
            exact ⟨FirstQ.mk (k := 2) (by omega) rfl, HSY.out⟩
  have d3 : decide (192 ≤ y) = false := by simpa using h3
  have hn1 : 1 ≤ 1 := by omega
  by_cases hsz : s.size < a + 1
  · have e1 : decide ((s.size : Int) < (a : Int) + 1) = true := by simp; omega
    go_wp2_with fail
    go_ret2
    exact ⟨FirstQ.none, Below.refl _ _⟩
  have e1 : decide ((s.size : Int) < (a : Int) + 1) = false := by simp; omega
  go_wp2_with fail
  clear e1
  go_loop [6, 8] (fun p i => ∃ (q : Int) (k : Nat), p = .int .i64 q ∧ i = .int .i64 k ∧ 1 ≤ k ∧ k ≤ 1 ∧ 0 ≤ q ∧ ((k = 1 ∧ q < 256) ∨ (k = 2 ∧ q < 16384) ∨ (k = 3 ∧ q < 1048576) ∨ (k = 4 ∧ q < 67108864))) (fun _ i => 1 - (intOf i).toNat)
  case atStart => exact ⟨y, 1, rfl, rfl, by omega, by omega, by omega, .inl ⟨rfl, by omega⟩⟩
  case round =>
    obtain ⟨q, k, rfl, rfl, hk1, hkn, hq0, hq1⟩ := hrel
    by_cases hlt : k < 1
    · exact absurd hlt (by omega)
    · obtain rfl : k = 1 := by omega
      clear hq1 hlt
      go_wp2_with fail
      refine wp_region_mix 12 [0, 1, 2, 3, 4, 5, 6, 7, 8, 9, 10, 11] [] [(true, 0), (false, 1), (true, 2), (true, 3), (true, 4), (true, 6), (true, 7), (true, 8), (true, 9), (true, 10), (true, 11), (false, 5), (false, 12), (false, 13)] (fun w' => Below w.heap.size w w') (by kernel_rfl) (by kernel_rfl) ?_
      rintro D hD
      have HSD : Hid (Below w.heap.size w D) := by rw [hD]; exact (Below.refl _ _).drew
      clear hD
      refine ⟨HSD.out, ?_⟩
      have HS : Hid (∀ w' : World, Below w.heap.size w w' → True) := fun _ _ => trivial
      (refine wpMix_q (v := ?_) rfl rfl (fun w' hS => ?_) ?_; rotate_left; (focus ((try obtain s0 := HS.out _ (hS rfl)); clear hS; go_simp; try with_reducible rfl; done)); (try simp only [Act.put, List.setIfInBounds_toArray, List.set_cons_zero, List.set_cons_succ]))
      refine wpMix_e rfl rfl (fun K hK => ?_)
      go_simp
      refine (scalar_any q _).mono ?_
      rintro e Y ⟨⟨b, rfl, hq⟩, rfl⟩
      refine hK.out _ _ (fun _ => HSD.out) ?_
      clear hK K
      (try simp only [Act.put, List.setIfInBounds_toArray, List.set_cons_zero, List.set_cons_succ])
      cases b
      · clear hq
        (refine wpMix_q (v := ?_) rfl rfl (fun w' hS => ?_) ?_; rotate_left; (focus ((try obtain s0 := HS.out _ (hS rfl)); clear hS; go_simp; try with_reducible rfl; done)); (try simp only [Act.put, List.setIfInBounds_toArray, List.set_cons_zero, List.set_cons_succ]))
        (refine wpMix_q (v := ?_) rfl rfl (fun w' hS => ?_) ?_; rotate_left; (focus ((try obtain s0 := HS.out _ (hS rfl)); clear hS; go_simp; try with_reducible rfl; done)); (try simp only [Act.put, List.setIfInBounds_toArray, List.set_cons_zero, List.set_cons_succ]))
        iterate 7 (refine wpMix_qskip rfl rfl ?_; (try simp only [Act.put, List.setIfInBounds_toArray, List.set_cons_zero, List.set_cons_succ]))
        (refine wpMix_eskip rfl rfl (HSD).out ?_; (try simp only [Act.put, List.setIfInBounds_toArray, List.set_cons_zero, List.set_cons_succ]))
        (refine wpMix_eskip rfl rfl (HSD).out ?_; (try simp only [Act.put, List.setIfInBounds_toArray, List.set_cons_zero, List.set_cons_succ]))
        (refine wpMix_e rfl rfl (fun K hK => ?_); go_simp; refine hK.out _ _ (fun h => absurd h (by decide)) ?_; clear hK K; (try simp only [Act.put, List.setIfInBounds_toArray, List.set_cons_zero, List.set_cons_succ]))
        refine wpMix_nil ?_
        refine NoPanic.normal ?_
        go_wp2_with fail
        go_ret2
        exact ⟨FirstQ.none, HSD.out⟩
      · have hq2 := hq rfl
        have hsl : (a : Int) + 1 ≤ (s.size : Int) := by omega
        have HQ := Lib.hid hq2
        clear hq hq2
        (refine wpMix_q (v := ?_) rfl rfl (fun w' hS => ?_) ?_; rotate_left; (focus ((try obtain s0 := HS.out _ (hS rfl)); clear hS; go_simp; try with_reducible rfl; done)); (try simp only [Act.put, List.setIfInBounds_toArray, List.set_cons_zero, List.set_cons_succ]))
        (refine wpMix_q (v := ?_) rfl rfl (fun w' hS => ?_) ?_; rotate_left; (focus ((try obtain s0 := HS.out _ (hS rfl)); clear hS; go_simp; try with_reducible rfl; done)); (try simp only [Act.put, List.setIfInBounds_toArray, List.set_cons_zero, List.set_cons_succ]))
        iterate 6 (refine wpMix_q (v := ?_) rfl rfl (fun w' hS => ?_) ?_; rotate_left; (focus ((try obtain s0 := HS.out _ (hS rfl)); clear hS; go_simp; try with_reducible rfl; done)); (try simp only [Act.put, List.setIfInBounds_toArray, List.set_cons_zero, List.set_cons_succ]))
        have hwr : IntKind.i64.wrap ((a : Int) + 1) = (a : Int) + 1 := (IntWalk.i64_left _).trans (wrap64_of _ (by omega))
        have htn : ((a : Int) + 1).toNat = a + 1 := by omega
        have h00 : 0 ≤ (a : Int) + 1 := by omega
        have haa : (a : Int) ≤ (a : Int) + 1 := by omega
        (refine wpMix_q (v := ?_) rfl rfl (fun w' hS => ?_) ?_; rotate_left; (focus ((try obtain s0 := HS.out _ (hS rfl)); clear hS; go_simp; try with_reducible rfl; done)); (try simp only [Act.put, List.setIfInBounds_toArray, List.set_cons_zero, List.set_cons_succ]))
        clear hwr htn h00 haa
        refine wpMix_e rfl rfl (fun K hK => ?_)
        go_simp
        refine (encoded_any q _ HQ.out.1 HQ.out.2).mono ?_
        rintro e Y2 ⟨⟨s', rfl, _⟩, hb⟩
        have HSY := Lib.hid (bchain HSD.out hb)
        refine hK.out _ _ (fun _ => HSY.out) ?_
        clear hK K hb
        (try simp only [Act.put, List.setIfInBounds_toArray, List.set_cons_zero, List.set_cons_succ])
        (refine wpMix_e rfl rfl (fun K hK => ?_); go_simp; refine hK.out _ _ (fun h => absurd h (by decide)) ?_; clear hK K; (try simp only [Act.put, List.setIfInBounds_toArray, List.set_cons_zero, List.set_cons_succ]))
        (refine wpMix_e rfl rfl (fun K hK => ?_); go_simp; refine hK.out _ _ (fun h => absurd h (by decide)) ?_; clear hK K; (try simp only [Act.put, List.setIfInBounds_toArray, List.set_cons_zero, List.set_cons_succ]))
        refine wpMix_nil ?_
        refine NoPanic.normal ?_
        go_wp2_with fail
        · go_ret2
          exact ⟨FirstQ.none, HSY.out⟩
        · go_ret2
          exact ⟨FirstQ.mk (k := 1) (by omega) rfl, HSY.out⟩
end Go.Proofs.Ytokbclpdpegicaa
