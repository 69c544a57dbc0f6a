/-
  Put and Sorted of the first reference, at any list of small numbers.
-/
import Derived.Test.YtdijlakeonionaaQ12
namespace Go.Proofs.Ytdijlakeonionaa
open Go.ChangeShapes Go.WideShapes Go.ChangeAt Go.RowKit
def putF : List Int → Int → List Int
  | [], x => [x]
  | y :: l, x => if y < x then y :: putF l x else if y = x then x :: l else x :: y :: l
theorem putF_cut {x : Int} : ∀ (l : List Int) (k : Nat), (∀ y ∈ l.take k, y < x) → putF l x = l.take k ++ putF (l.drop k) x
  | l, 0, _ => by simp
  | [], k + 1, _ => by simp
  | y :: l, k + 1, h => by
    rw [List.take_succ_cons, List.drop_succ_cons, List.cons_append, putF, if_pos (h y (by simp)), putF_cut l k fun z hz => h z (by simp [hz])]
theorem putF_mem {x z : Int} : ∀ {l : List Int}, z ∈ putF l x ↔ z = x ∨ z ∈ l
  | [] => by simp [putF]
  | y :: l => by
    rw [putF]
    split
    · rw [List.mem_cons, putF_mem, List.mem_cons]; constructor <;> (rintro (h | h | h) <;> simp [h])
    · split
      · rename_i h; subst h; simp
      · simp
theorem putF_up {x : Int} : ∀ {l : List Int}, l.Pairwise (· < ·) → (putF l x).Pairwise (· < ·)
  | [], _ => by simp [putF]
  | y :: l, h => by
    have h1 := List.pairwise_cons.1 h
    rw [putF]
    split
    · rename_i hy
      refine List.pairwise_cons.2 ⟨fun z hz => ?_, putF_up h1.2⟩
      rcases putF_mem.1 hz with rfl | hz
      · exact hy
      · exact h1.1 z hz
    · split
      · rename_i _ e; subst e; exact h
      · refine List.pairwise_cons.2 ⟨fun z hz => ?_, h⟩
        rcases List.mem_cons.1 hz with rfl | hz
        · omega
        · have := h1.1 z hz; omega
theorem putF_len {x : Int} : ∀ {l : List Int}, l.Pairwise (· < ·) → (putF l x).length = if x ∈ l then l.length else l.length + 1
  | [], _ => by simp [putF]
  | y :: l, h => by
    have h1 := List.pairwise_cons.1 h
    have ih := putF_len (x := x) h1.2
    rw [putF]
    split
    · rename_i hy
      rw [List.length_cons, ih]
      have : x ≠ y := by omega
      by_cases hm : x ∈ l
      · rw [if_pos hm, if_pos (by simp [hm])]; rfl
      · rw [if_neg hm, if_neg (by simp [hm, this])]; rfl
    · rename_i hy
      split
      · rename_i e; subst e; rw [if_pos (by simp)]
      · rename_i hne
        have hm : x ∉ y :: l := by
          intro hm
          rcases List.mem_cons.1 hm with e | hm
          · exact hne e.symm
          · have := h1.1 x hm; omega
        rw [if_neg hm]; rfl
def sortK (l : List Int) (k : Nat) : List Int := (l.take k).foldl putF []
def sortF (l : List Int) : List Int := sortK l l.length
theorem sortK_succ {l : List Int} {k : Nat} {x : Int} {r : List Int} (h : l.drop k = x :: r) : sortK l (k + 1) = putF (sortK l k) x := by
  have hk : k < l.length := by
    rcases Nat.lt_or_ge k l.length with h' | h'
    · exact h'
    · rw [List.drop_of_length_le h'] at h; cases h
  rw [List.drop_eq_getElem_cons hk] at h
  rw [sortK, List.take_succ_eq_append_getElem hk, (List.cons.inj h).1, List.foldl_append]
  rfl
theorem sortK_up (l : List Int) : ∀ k : Nat, (sortK l k).Pairwise (· < ·)
  | 0 => by simp [sortK]
  | k + 1 => by
    rcases Nat.lt_or_ge k l.length with h | h
    · rw [sortK_succ (List.drop_eq_getElem_cons h)]; exact putF_up (sortK_up l k)
    · have := sortK_up l k
      rw [sortK, List.take_of_length_le h] at this
      rwa [sortK, List.take_of_length_le (by omega)]
theorem sortK_mem (l : List Int) (z : Int) : ∀ k : Nat, z ∈ sortK l k ↔ z ∈ l.take k
  | 0 => by simp [sortK]
  | k + 1 => by
    rcases Nat.lt_or_ge k l.length with h | h
    · rw [sortK_succ (List.drop_eq_getElem_cons h), putF_mem, sortK_mem l z k, List.take_succ_eq_append_getElem h, List.mem_append, List.mem_singleton]
      exact or_comm
    · have := sortK_mem l z k
      rw [sortK, List.take_of_length_le h] at this
      rw [sortK, List.take_of_length_le (by omega)]
      exact this
theorem sortK_nodup (l : List Int) : ∀ k : Nat, k ≤ l.length → (sortK l k).length ≤ k ∧ ((sortK l k).length = k ↔ (l.take k).Nodup)
  | 0, _ => by simp [sortK]
  | k + 1, hk => by
    obtain ⟨h1, h2⟩ := sortK_nodup l k (by omega)
    rw [sortK_succ (List.drop_eq_getElem_cons (show k < l.length by omega)), putF_len (sortK_up l k), List.take_succ_eq_append_getElem (show k < l.length by omega)]
    have hm := sortK_mem l (l[k]'(by omega)) k
    by_cases hx : l[k]'(by omega) ∈ sortK l k
    · rw [if_pos hx]
      refine ⟨by omega, ⟨fun h => by omega, fun h => ?_⟩⟩
      exact absurd rfl ((List.nodup_append.1 h).2.2 _ (hm.1 hx) _ (by simp))
    · rw [if_neg hx]
      refine ⟨by omega, ?_⟩
      have : ((l.take k) ++ [l[k]'(by omega)]).Nodup ↔ (l.take k).Nodup := by
        rw [List.nodup_append]
        constructor
        · exact fun h => h.1
        · intro h
          refine ⟨h, by simp, fun a ha b hb => ?_⟩
          rw [List.mem_singleton.1 hb]
          intro e; exact hx (hm.2 (e ▸ ha))
      rw [this, ← h2]; omega
theorem sortF_nodup (l : List Int) : (sortF l).length ≤ l.length ∧ ((sortF l).length = l.length ↔ l.Nodup) := by
  have := sortK_nodup l l.length (Nat.le_refl _)
  rwa [List.take_of_length_le (Nat.le_refl _)] at this
/-- a strictly increasing list between 1 and n has at most n elements -/
theorem up_len {l : List Int} {n : Nat} (h : l.Pairwise (· < ·)) (hb : ∀ x ∈ l, 1 ≤ x ∧ x ≤ (n : Int)) : l.length ≤ n := by
  have hnd : l.Nodup := h.imp fun h => by omega
  have := nodup_le l ((List.range n).map fun (j : Nat) => (j : Int) + 1) hnd fun x hx => List.mem_map.2 ⟨(x - 1).toNat, List.mem_range.2 (by have := hb x hx; omega), by have := hb x hx; omega⟩
  simpa using this
theorem slice_one (A : Option Addr) (n c lo : Nat) (h1 : lo ≤ n) (W : World) : (Instr.slice 25 (.slice A n c) (some (.int .i64 (lo : Int))) none none).run Try.prog W = .ok (.slice (if c = lo then A else A.map (·.add lo)) (n - lo) (c - lo)) W := by
  obtain ⟨i0, hi0, hz0, hz1, hz2⟩ := info_parts infoI0
  have he : Try.prog.elem 25 = 3 := by kernel_rfl
  have hs : (Go.sizeOf (Try.prog.elem 25)).run Try.prog W = .ok 1 W := by rw [he]; simp [Go.sizeOf, typeInfo, hi0, hz1]
  rw [run_slice_l W _ _ _ _ (by kernel_rfl) .i64 _ (by omega) (by omega), hs]
  simp [Result.andThen, sliced]
theorem slice_at_one (A : Option Addr) (n c lo : Nat) (h1 : lo ≤ n) (W : World) : (Instr.sliceAt 25 (.slice A n c) (some (.int .i64 (lo : Int))) none none).run Try.prog W = .ok (.slice (if c = lo then A else A.map (·.add lo)) (n - lo) (c - lo)) W := by
  rw [run_sliceAt_slice W _ _ _ _ _ (by kernel_rfl), slice_one A n c lo h1]
theorem rest_of {w : World} {A : Option Addr} {n c : Nat} {xs : List Int} (h : RdI w (.slice A n c) xs) (lo : Nat) (h1 : lo ≤ n) : ∃ (B : Option Addr) (m k : Nat), RdI w (.slice B m k) (xs.drop lo) ∧
    (∀ W, (Instr.slice 25 (.slice A n c) (some (.int .i64 (lo : Int))) none none).run Try.prog W = .ok (.slice B m k) W) ∧
    (∀ W, (Instr.sliceAt 25 (.slice A n c) (some (.int .i64 (lo : Int))) none none).run Try.prog W = .ok (.slice B m k) W) :=
  ⟨_, _, _, RdI.drop h h1, fun W => slice_one A n c lo h1 W, fun W => slice_at_one A n c lo h1 W⟩
set_option maxHeartbeats 4000000 in
set_option maxRecDepth 100000 in
theorem put_any (v : Value) (l : List Int) (x : Int) (w : World) (hv : RdI w v l) (hln : l.length ≤ 1000000) :
    Calls Try.prog 62 #[v, .int .i64 x] w fun e w' => (∃ v', e = .returned v' ∧ OwnI w' w.heap.size v' (putF l x)) ∧ Below w.heap.size w w' := by
  obtain ⟨A, n, c, rfl, hnc, hcm, HN, HR⟩ := hv.op
  have HV := Lib.hid hv
  have HLN : Hid (n ≤ 1000000) := by rw [Hid, ← HN.out]; exact hln
  clear hv hln
  go_enter Try.func62, Try.ntmps62
  go_wp2_with fail
  go_loopw [5, 6] (fun v5 vi wr => ∃ k : Nat, k ≤ n ∧ vi = .int .i64 k ∧ Hid (∀ y ∈ l.take k, y < x) ∧ Hid (OwnI wr w.heap.size v5 (l.take k)) ∧ Hid (Below w.heap.size w wr)) (fun _ vi _ => n - (intOf vi).toNat)
  case atStart => exact ⟨0, Nat.zero_le _, rfl, fun y hy => (nomatch hy), World.ownsRow_nil _ _ _ _, Below.refl _ _⟩
  case round =>
    obtain ⟨k, hk, rfl, HA, HO, HBR⟩ := hrel
    obtain ⟨_, A5, c5, h5⟩ := own_slice HO.out
    have hlk : (l.take k).length = k := by rw [List.length_take, HN.out]; omega
    rw [hlk] at h5
    subst h5
    have hk0 : (0 : Int) ≤ (k : Int) := by omega
    have hsum : (l.take k ++ [x]).length + (l.drop k).length ≤ 300000000 := by
      have := HLN.out
      rw [List.length_append, hlk, List.length_drop, HN.out]; simp; omega
    have hsum1 : (l.take k ++ [x]).length + (l.drop (k + 1)).length ≤ 300000000 := by
      have := HLN.out
      rw [List.length_append, hlk, List.length_drop, HN.out]; simp; omega
    have hcut := putF_cut l k HA.out
    have HLK := Lib.hid hlk
    clear hlk
    by_cases hlt : k < n
    · obtain ⟨b, off, y, rfl, hb0, hd, c0⟩ := HR.out k hlt
      have e0 := (HBR.out.cell (p := ⟨b, off + k, none⟩) hb0).trans c0
      have HC0 := Lib.hid c0
      have HB0 := Lib.hid hb0
      clear c0 hb0
      have dlt : decide ((k : Int) < (n : Int)) = true := by simp; exact hlt
      by_cases hy : y < x
      · have d1 : decide (y < x) = true := decide_eq_true hy
        have HS : Hid (l.take (k + 1) = l.take k ++ [y]) := by
          have hk' : k < l.length := by rw [HN.out]; exact hlt
          have hd2 := hd.out
          rw [List.drop_eq_getElem_cons hk'] at hd2
          rw [Hid, List.take_succ_eq_append_getElem hk', (List.cons.inj hd2).1]
        have HA2 : Hid (∀ z ∈ l.take (k + 1), z < x) := by
          rw [Hid, HS.out]
          intro z hz
          rcases List.mem_append.1 hz with hz | hz
          · exact HA.out z hz
          · rw [List.mem_singleton.1 hz]; exact hy
        have hl1 : k ≤ 1000000 := by have := HLN.out; omega
        have hszr := HBR.out.size
        clear hcut hsum hsum1 hy
        go_wp2_with (at_builtin; refine wpList_app_int rfl (.tmp 19) (.tmp 24) rfl w.heap.size (.slice A5 k c5) (l.take k) rfl HO.out y k HLK hl1 hszr rfl ?_; intro g7 c7 w7 ho7 hgg7 hg7; have HO7 := Lib.hid ho7; have HB7 := Lib.hid (below_grown HBR.out (Nat.le_refl _) HO.out hg7); clear ho7 hgg7 hg7 e0)
        go_roundw
        case rel => exact ⟨k + 1, by omega, by go_num, HA2.out, by rw [Hid, HS.out]; exact HO7.out, HB7.out⟩
        case measure => simp [intOf]; omega
      · have d1 : decide (y < x) = false := decide_eq_false hy
        rw [hd.out, putF, if_neg hy] at hcut
        by_cases he : y = x
        · have d2 : (y == x) = true := by simpa using he
          have HF : Hid (putF l x = (l.take k ++ [x]) ++ l.drop (k + 1)) := by rw [Hid, hcut, if_pos he]; simp
          clear hcut hsum hy he
          have hsum := hsum1
          clear hsum1
          have hl1 : k ≤ 1000000 := by have := HLN.out; omega
          have hszr := HBR.out.size
          go_upto_region 9 with (at_builtin; refine wpList_app_int rfl (.tmp 28) (.tmp 30) rfl w.heap.size (.slice A5 k c5) (l.take k) rfl HO.out x k HLK hl1 hszr rfl ?_; intro g7 c7 w7 ho7 hgg7 hg7; have HO7 := Lib.hid ho7; have HB7 := Lib.hid (below_grown HBR.out (Nat.le_refl _) HO.out hg7); have hs7 := HB7.out.size; clear ho7 hgg7 hg7; have e7 := (HB7.out.cell (p := ⟨b, off + k, none⟩) HB0.out).trans HC0.out)
          obtain ⟨B9, m9, k9, HR9, sl1, sl2⟩ := rest_of (HV.out.below HB7.out) (k + 1) (by omega)
          have HRX := Lib.hid HR9
          try rw [Int.natCast_add, Int.natCast_one] at sl1 sl2
          clear HR9 hk hlt hk0 dlt
          go_wp2_with (at_builtin; refine wpList_app_ints rfl (.tmp 46) (.tmp 49) rfl w.heap.size (.slice (some ⟨g7, 0, none⟩) (k + 1) c7) (l.take k ++ [x]) rfl HO7.out (.slice B9 m9 k9) (l.drop (k + 1)) rfl HRX.out hsum hs7 ?_; intro v8 w8 ho8 hg8 hor8; have HO8 := Lib.hid ho8; have HB8 := Lib.hid (below_grown HB7.out (Nat.le_refl _) HO7.out hg8); clear ho8 hg8 hor8)
          go_ret
          refine ⟨⟨_, rfl, ?_⟩, HB8.out⟩
          rw [HF.out]
          exact HO8.out
        · have d2 : (y == x) = false := by simpa using he
          have HF : Hid (putF l x = (l.take k ++ [x]) ++ l.drop k) := by rw [Hid, hcut, if_neg he, hd.out]; simp
          clear hcut hsum1 hy he
          have hl1 : k ≤ 1000000 := by have := HLN.out; omega
          have hszr := HBR.out.size
          go_upto_region 9 with (at_builtin; refine wpList_app_int rfl (.tmp 28) (.tmp 30) rfl w.heap.size (.slice A5 k c5) (l.take k) rfl HO.out x k HLK hl1 hszr rfl ?_; intro g7 c7 w7 ho7 hgg7 hg7; have HO7 := Lib.hid ho7; have HB7 := Lib.hid (below_grown HBR.out (Nat.le_refl _) HO.out hg7); have hs7 := HB7.out.size; clear ho7 hgg7 hg7; have e7 := (HB7.out.cell (p := ⟨b, off + k, none⟩) HB0.out).trans HC0.out)
          obtain ⟨B9, m9, k9, HR9, sl1, sl2⟩ := rest_of (HV.out.below HB7.out) (k) (by omega)
          have HRX := Lib.hid HR9
          try rw [Int.natCast_add, Int.natCast_one] at sl1 sl2
          clear HR9 hk hlt hk0 dlt
          go_wp2_with (at_builtin; refine wpList_app_ints rfl (.tmp 46) (.tmp 49) rfl w.heap.size (.slice (some ⟨g7, 0, none⟩) (k + 1) c7) (l.take k ++ [x]) rfl HO7.out (.slice B9 m9 k9) (l.drop (k)) rfl HRX.out hsum hs7 ?_; intro v8 w8 ho8 hg8 hor8; have HO8 := Lib.hid ho8; have HB8 := Lib.hid (below_grown HB7.out (Nat.le_refl _) HO7.out hg8); clear ho8 hg8 hor8)
          go_ret
          refine ⟨⟨_, rfl, ?_⟩, HB8.out⟩
          rw [HF.out]
          exact HO8.out
    · obtain rfl : n = k := by omega
      have HF : Hid (putF l x = (l.take n ++ [x]) ++ l.drop n) := by rw [Hid, hcut, List.drop_of_length_le (by rw [HN.out]; omega)]; simp [putF]
      have dlt : decide ((n : Int) < (n : Int)) = false := by simp
      clear hcut hsum1 hlt
      have hl1 : n ≤ 1000000 := by have := HLN.out; omega
      have hszr := HBR.out.size
      go_upto_region 9 with (at_builtin; refine wpList_app_int rfl (.tmp 28) (.tmp 30) rfl w.heap.size (.slice A5 n c5) (l.take n) rfl HO.out x n HLK hl1 hszr rfl ?_; intro g7 c7 w7 ho7 hgg7 hg7; have HO7 := Lib.hid ho7; have HB7 := Lib.hid (below_grown HBR.out (Nat.le_refl _) HO.out hg7); have hs7 := HB7.out.size; clear ho7 hgg7 hg7; have e7 := True.intro)
      obtain ⟨B9, m9, k9, HR9, sl1, sl2⟩ := rest_of (HV.out.below HB7.out) (n) (by omega)
      have HRX := Lib.hid HR9
      try rw [Int.natCast_add, Int.natCast_one] at sl1 sl2
      clear HR9 hk dlt
      go_wp2_with (at_builtin; refine wpList_app_ints rfl (.tmp 46) (.tmp 49) rfl w.heap.size (.slice (some ⟨g7, 0, none⟩) (n + 1) c7) (l.take n ++ [x]) rfl HO7.out (.slice B9 m9 k9) (l.drop (n)) rfl HRX.out hsum hs7 ?_; intro v8 w8 ho8 hg8 hor8; have HO8 := Lib.hid ho8; have HB8 := Lib.hid (below_grown HB7.out (Nat.le_refl _) HO7.out hg8); clear ho8 hg8 hor8)
      go_ret
      refine ⟨⟨_, rfl, ?_⟩, HB8.out⟩
      rw [HF.out]
      exact HO8.out
end Go.Proofs.Ytdijlakeonionaa
