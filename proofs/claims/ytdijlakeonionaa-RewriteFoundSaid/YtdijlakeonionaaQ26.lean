/-
  slices.IndexFunc and slices.ContainsFunc at places, asked by a function value, whatever it does.
-/
import Derived.Test.YtdijlakeonionaaQ25
namespace Go.Proofs.Ytdijlakeonionaa
open Go.ChangeShapes Go.WideShapes Go.ChangeAt Go.RowKit
theorem OwnPl.at_ {w : World} {base : Nat} {A : Option Addr} {n c : Nat} {l : List Pl} (h : OwnPl w base (.slice A n c) l) {k : Nat} (hk : k < n) : PlAt w A l k := by
  obtain ⟨A', n', c', he, _, _, _, hr⟩ := h.rd.op
  cases he
  exact hr.out k hk
set_option maxHeartbeats 1000000 in
set_option maxRecDepth 100000 in
theorem idxB_any (F : Nat) (cap : Value) (pr : Pl → Bool) (v : Value) (l : List Pl) (base : Nat) (w : World) (J : World → Prop) (hJ : J w) (hrow : ∀ w', J w' → OwnPl w' base v l)
    (hE : ∀ (p : Pl) (W : World), (callFunc F #[cap, (.agg #[.int .i64 p.s.cnt, .int .u8 p.s.near, .int .u8 p.s.far, .int .i8 p.s.o0, .int .i8 p.s.o1, .int .i8 p.s.o2, .int .i64 (p.at_ : Int), .int .i64 (p.left : Int)])]).run Try.prog W = .ok (.enter F #[cap, (.agg #[.int .i64 p.s.cnt, .int .u8 p.s.near, .int .u8 p.s.far, .int .i8 p.s.o0, .int .i8 p.s.o1, .int .i8 p.s.o2, .int .i64 (p.at_ : Int), .int .i64 (p.left : Int)])]) W)
    (hF : ∀ p, p ∈ l → ∀ w', J w' → Calls Try.prog F #[cap, (.agg #[.int .i64 p.s.cnt, .int .u8 p.s.near, .int .u8 p.s.far, .int .i8 p.s.o0, .int .i8 p.s.o1, .int .i8 p.s.o2, .int .i64 (p.at_ : Int), .int .i64 (p.left : Int)])] w' fun e w'' => e = .returned (.bool (pr p)) ∧ J w'') :
    Calls Try.prog 84 #[v, .func (.func F) #[cap] #[]] w fun e' w' => e' = .returned (.int .i64 (idxP pr l 0)) ∧ J w' := by
  obtain ⟨A, n, c, rfl⟩ := own_sliceN (hrow w hJ)
  have HN : Hid (l.length = n) := (own_n (hrow w hJ)).symm
  have HRW := Lib.hid hrow
  have HFF := Lib.hid hF
  have HJ0 := Lib.hid hJ
  have hcm : n ≤ 9223372036854775807 := by
    obtain ⟨A', n', c', he, h1, h2, _⟩ := (hrow w hJ).rd.op
    cases he
    omega
  clear hrow hF hJ
  go_enter Try.func84, Try.ntmps84
  go_wp2_with fail
  go_loopw [8] (fun i wr => ∃ k : Nat, k ≤ n ∧ i = .int .i64 k ∧ Hid (idxP pr l 0 = idxP pr (l.drop k) k) ∧ Hid (J wr)) (fun i _ => n - (intOf i).toNat)
  case atStart => exact ⟨0, Nat.zero_le _, rfl, rfl, HJ0.out⟩
  case round =>
    obtain ⟨k, hk, rfl, HP, HJ⟩ := hrel
    by_cases hlt : k < n
    · obtain ⟨b, off, p, rfl, hb, hd, e0, e1, e2, e3, e4, e5, e6, e7⟩ := (HRW.out wr HJ.out).at_ hlt
      have HP2 : Hid (idxP pr l 0 = if pr p = true then (k : Int) else idxP pr (l.drop (k + 1)) (k + 1)) := by rw [Hid, HP.out, hd.out]; rfl
      have HMEM : Hid (p ∈ l) := List.mem_of_mem_drop (by rw [hd.out]; exact List.mem_cons_self)
      have hk0 : (0 : Int) ≤ (k : Int) := by omega
      clear HP hd
      go_wp2_with fail
      clear e0 e1 e2 e3 e4 e5 e6 e7 hb
      refine (HFF.out p HMEM.out _ HJ.out).mono ?_
      rintro e' w1 ⟨rfl, hj1⟩
      have HJ1 := Lib.hid hj1
      clear hj1
      cases hid : pr p
      · have HP3 : Hid (idxP pr l 0 = idxP pr (l.drop (k + 1)) (k + 1)) := by rw [Hid, HP2.out, if_neg (by simp [hid])]
        clear hid
        go_wp2_with fail
        go_roundw
        case rel => exact ⟨k + 1, by omega, by go_num, HP3.out, HJ1.out⟩
        case measure => simp [intOf]; omega
      · have HP3 : Hid (idxP pr l 0 = k) := by rw [Hid, HP2.out, if_pos hid]
        clear hid
        go_wp2_with fail
        go_ret
        exact ⟨by rw [HP3.out]; rfl, HJ1.out⟩
    · obtain rfl : n = k := by omega
      have HP3 : Hid (idxP pr l 0 = -1) := by rw [Hid, HP.out, List.drop_of_length_le (by rw [HN.out]; omega)]; rfl
      go_wp2_with fail
      go_ret
      exact ⟨by rw [HP3.out]; rfl, HJ.out⟩
set_option maxHeartbeats 1000000 in
set_option maxRecDepth 100000 in
theorem idxC_any (F : Nat) (cap : Value) (pr : Pl → Bool) (v : Value) (l : List Pl) (base : Nat) (w : World) (J : World → Prop) (hJ : J w) (hrow : ∀ w', J w' → OwnPl w' base v l)
    (hE : ∀ (p : Pl) (W : World), (callFunc F #[(.agg #[.int .i64 p.s.cnt, .int .u8 p.s.near, .int .u8 p.s.far, .int .i8 p.s.o0, .int .i8 p.s.o1, .int .i8 p.s.o2, .int .i64 (p.at_ : Int), .int .i64 (p.left : Int)]), cap]).run Try.prog W = .ok (.enter F #[(.agg #[.int .i64 p.s.cnt, .int .u8 p.s.near, .int .u8 p.s.far, .int .i8 p.s.o0, .int .i8 p.s.o1, .int .i8 p.s.o2, .int .i64 (p.at_ : Int), .int .i64 (p.left : Int)]), cap]) W)
    (hF : ∀ p, p ∈ l → ∀ w', J w' → Calls Try.prog F #[(.agg #[.int .i64 p.s.cnt, .int .u8 p.s.near, .int .u8 p.s.far, .int .i8 p.s.o0, .int .i8 p.s.o1, .int .i8 p.s.o2, .int .i64 (p.at_ : Int), .int .i64 (p.left : Int)]), cap] w' fun e w'' => e = .returned (.bool (pr p)) ∧ J w'') :
    Calls Try.prog 84 #[v, .func (.func F) #[] #[cap]] w fun e' w' => e' = .returned (.int .i64 (idxP pr l 0)) ∧ J w' := by
  obtain ⟨A, n, c, rfl⟩ := own_sliceN (hrow w hJ)
  have HN : Hid (l.length = n) := (own_n (hrow w hJ)).symm
  have HRW := Lib.hid hrow
  have HFF := Lib.hid hF
  have HJ0 := Lib.hid hJ
  have hcm : n ≤ 9223372036854775807 := by
    obtain ⟨A', n', c', he, h1, h2, _⟩ := (hrow w hJ).rd.op
    cases he
    omega
  clear hrow hF hJ
  go_enter Try.func84, Try.ntmps84
  go_wp2_with fail
  go_loopw [8] (fun i wr => ∃ k : Nat, k ≤ n ∧ i = .int .i64 k ∧ Hid (idxP pr l 0 = idxP pr (l.drop k) k) ∧ Hid (J wr)) (fun i _ => n - (intOf i).toNat)
  case atStart => exact ⟨0, Nat.zero_le _, rfl, rfl, HJ0.out⟩
  case round =>
    obtain ⟨k, hk, rfl, HP, HJ⟩ := hrel
    by_cases hlt : k < n
    · obtain ⟨b, off, p, rfl, hb, hd, e0, e1, e2, e3, e4, e5, e6, e7⟩ := (HRW.out wr HJ.out).at_ hlt
      have HP2 : Hid (idxP pr l 0 = if pr p = true then (k : Int) else idxP pr (l.drop (k + 1)) (k + 1)) := by rw [Hid, HP.out, hd.out]; rfl
      have HMEM : Hid (p ∈ l) := List.mem_of_mem_drop (by rw [hd.out]; exact List.mem_cons_self)
      have hk0 : (0 : Int) ≤ (k : Int) := by omega
      clear HP hd
      go_wp2_with fail
      clear e0 e1 e2 e3 e4 e5 e6 e7 hb
      refine (HFF.out p HMEM.out _ HJ.out).mono ?_
      rintro e' w1 ⟨rfl, hj1⟩
      have HJ1 := Lib.hid hj1
      clear hj1
      cases hid : pr p
      · have HP3 : Hid (idxP pr l 0 = idxP pr (l.drop (k + 1)) (k + 1)) := by rw [Hid, HP2.out, if_neg (by simp [hid])]
        clear hid
        go_wp2_with fail
        go_roundw
        case rel => exact ⟨k + 1, by omega, by go_num, HP3.out, HJ1.out⟩
        case measure => simp [intOf]; omega
      · have HP3 : Hid (idxP pr l 0 = k) := by rw [Hid, HP2.out, if_pos hid]
        clear hid
        go_wp2_with fail
        go_ret
        exact ⟨by rw [HP3.out]; rfl, HJ1.out⟩
    · obtain rfl : n = k := by omega
      have HP3 : Hid (idxP pr l 0 = -1) := by rw [Hid, HP.out, List.drop_of_length_le (by rw [HN.out]; omega)]; rfl
      go_wp2_with fail
      go_ret
      exact ⟨by rw [HP3.out]; rfl, HJ.out⟩
set_option maxHeartbeats 1000000 in
set_option maxRecDepth 100000 in
theorem contB_any (F : Nat) (cap : Value) (pr : Pl → Bool) (v : Value) (l : List Pl) (base : Nat) (w : World) (J : World → Prop) (hJ : J w) (hrow : ∀ w', J w' → OwnPl w' base v l)
    (hE : ∀ (p : Pl) (W : World), (callFunc F #[cap, (.agg #[.int .i64 p.s.cnt, .int .u8 p.s.near, .int .u8 p.s.far, .int .i8 p.s.o0, .int .i8 p.s.o1, .int .i8 p.s.o2, .int .i64 (p.at_ : Int), .int .i64 (p.left : Int)])]).run Try.prog W = .ok (.enter F #[cap, (.agg #[.int .i64 p.s.cnt, .int .u8 p.s.near, .int .u8 p.s.far, .int .i8 p.s.o0, .int .i8 p.s.o1, .int .i8 p.s.o2, .int .i64 (p.at_ : Int), .int .i64 (p.left : Int)])]) W)
    (hF : ∀ p, p ∈ l → ∀ w', J w' → Calls Try.prog F #[cap, (.agg #[.int .i64 p.s.cnt, .int .u8 p.s.near, .int .u8 p.s.far, .int .i8 p.s.o0, .int .i8 p.s.o1, .int .i8 p.s.o2, .int .i64 (p.at_ : Int), .int .i64 (p.left : Int)])] w' fun e w'' => e = .returned (.bool (pr p)) ∧ J w'') :
    Calls Try.prog 67 #[v, .func (.func F) #[cap] #[]] w fun e' w' => e' = .returned (.bool (l.any pr)) ∧ J w' := by
  obtain ⟨A, n, c, rfl⟩ := own_sliceN (hrow w hJ)
  have HFF := Lib.hid hF
  have HRW := Lib.hid hrow
  have HJ0 := Lib.hid hJ
  clear hrow hF hJ
  go_enter Try.func67, Try.ntmps67
  go_wp2_with fail
  refine (idxB_any F cap pr _ l base _ J HJ0.out HRW.out hE HFF.out).mono ?_
  rintro e w1 ⟨rfl, hj⟩
  have HJ1 := Lib.hid hj
  have HI := Lib.hid (idxP_iff pr l 0)
  clear hj
  go_wp2_with fail
  go_ret
  exact ⟨by rw [← HI.out]; rfl, HJ1.out⟩
end Go.Proofs.Ytdijlakeonionaa
