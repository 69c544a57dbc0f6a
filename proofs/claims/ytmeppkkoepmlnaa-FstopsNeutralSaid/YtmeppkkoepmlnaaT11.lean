/-
  slices.Concat of slices of ints; wrong of fstops; symbols of the reference 21.
-/
import Derived.Test.YtmeppkkoepmlnaaT10
namespace Go.Proofs.Ytmeppkkoepmlnaa
open Go.ChangeShapes Go.WideShapes Go.ChangeAt Go.RowKit
/-- a slice of slices of ints -/
def LAt (w : World) (A : Option Addr) (ls : List (List Int)) (k : Nat) : Prop :=
  ∃ b off u l, A = some ⟨b, off, none⟩ ∧ b < w.heap.size ∧ Hid (ls.drop k = l :: ls.drop (k + 1)) ∧ w.cell? ⟨b, off + k, none⟩ = some u ∧ RdI w u l
def RdL (w : World) (v : Value) (ls : List (List Int)) : Prop :=
  ∃ (A : Option Addr) (n c : Nat), v = .slice A n c ∧ n ≤ c ∧ c ≤ 9223372036854775807 ∧ ls.length = n ∧ ∀ k, k < n → LAt w A ls k
theorem LAt.below {w w' : World} {A : Option Addr} {ls : List (List Int)} {k : Nat} (h : LAt w A ls k) (hb : Below w.heap.size w w') : LAt w' A ls k := by
  obtain ⟨b, off, u, l, rfl, hl, hd, c0, hr⟩ := h
  exact ⟨b, off, u, l, rfl, by have := hb.size; omega, hd, (hb.cell hl).trans c0, hr.below hb⟩
theorem RdL.below {w w' : World} {v : Value} {ls : List (List Int)} (h : RdL w v ls) (hb : Below w.heap.size w w') : RdL w' v ls := by
  obtain ⟨A, n, c, rfl, h1, h2, h3, h4⟩ := h
  exact ⟨A, n, c, rfl, h1, h2, h3, fun k hk => (h4 k hk).below hb⟩
def total (ls : List (List Int)) : Nat := ls.flatten.length
theorem total_cons (l : List Int) (ls : List (List Int)) : total (l :: ls) = l.length + total ls := by simp [total]
theorem total_snoc (ls : List (List Int)) (l : List Int) : total (ls ++ [l]) = total ls + l.length := by simp [total]
theorem total_le (ls : List (List Int)) (k : Nat) : total (ls.take k) ≤ total ls := by
  have : total ls = total (ls.take k) + total (ls.drop k) := by
    rw [total, total, total, ← List.length_append, ← List.flatten_append, List.take_append_drop]
  omega
set_option maxHeartbeats 1000000 in
theorem concat_any (v : Value) (ls : List (List Int)) (w : World) (hv : RdL w v ls) (ht : total ls ≤ 1000000) :
    Calls Try.prog 62 #[v] w fun e w' => (∃ v', e = .returned v' ∧ OwnI w' w.heap.size v' ls.flatten) ∧ Below w.heap.size w w' := by
  obtain ⟨A, n, c, rfl, h1, h2, h3, h4⟩ := hv
  have HN := Lib.hid h3
  have hr := Lib.hid h4
  have HT := Lib.hid ht
  clear h3 h4 ht
  go_enter Try.func62, Try.ntmps62
  go_wp2
  go_loop [3, 11] (fun s i => ∃ k m : Nat, k ≤ n ∧ i = .int .i64 k ∧ s = .int .i64 m ∧ m ≤ 1000000 ∧ Hid (m = total (ls.take k))) (fun _ i => n - (intOf i).toNat)
  case atStart => exact ⟨0, 0, Nat.zero_le _, rfl, rfl, by omega, rfl⟩
  case round =>
    obtain ⟨k, m, hk, rfl, rfl, hm, HM⟩ := hrel
    by_cases hlt : k < n
    · obtain ⟨b, off, u, l, rfl, hb, hd, hck, hu⟩ := hr.out k hlt
      obtain ⟨A2, n2, c2, rfl, q1, q2, hn2, _⟩ := hu.op
      have hsum : m + n2 ≤ 1000000 := by
        have h5 := total_le ls (k + 1)
        rw [take_of_drop hd.out, total_snoc, ← HM.out, hn2.out] at h5
        have := HT.out; omega
      go_wp2
      go_round
      case rel => exact ⟨k + 1, m + n2, by omega, by go_num, by go_num, hsum, by rw [Hid, take_of_drop hd.out, total_snoc, ← HM.out, hn2.out]⟩
      case measure => simp [intOf]; omega
    · go_wp2_with fail
      refine (grow_any m _ hm).mono ?_
      rintro e w1 ⟨⟨v1, rfl, ho⟩, hb⟩
      have HO := Lib.hid ho
      have HB := Lib.hid hb
      have hsz := hb.size
      clear ho hb
      go_wp2_with fail
      go_loopw [6, 27] (fun s i wr => ∃ k : Nat, k ≤ n ∧ i = .int .i64 k ∧ Hid (OwnI wr w.heap.size s (ls.take k).flatten) ∧ Hid (Below w.heap.size w wr)) (fun _ i _ => n - (intOf i).toNat)
      case atStart => exact ⟨0, Nat.zero_le _, rfl, HO.out, HB.out⟩
      case round =>
        obtain ⟨k, hk, rfl, HO, HB⟩ := hrel
        by_cases hlt : k < n
        · obtain ⟨b, off, u, l, rfl, hb, hd, hck, hu⟩ := (hr.out k hlt).below HB.out
          have HU := Lib.hid hu
          clear hu
          have hz : w.heap.size ≤ wr.heap.size := HB.out.size
          have hsum : Hid (((ls.take k).flatten).length + l.length ≤ 1000000) := by
            have h5 := total_le ls (k + 1)
            rw [take_of_drop hd.out, total_snoc] at h5
            have := HT.out; unfold total at h5; unfold total at this; rw [Hid]; omega
          go_wp2_with (at_builtin; refine wpList_app_ints rfl (.tmp 31) (.tmp 32) rfl w.heap.size u6 _ rfl HO.out u l rfl HU.out hsum.out hz ?_; intro v2 w2 ho2 hg2 _; have HO2 := Lib.hid ho2; clear ho2)
          have HB2 := Lib.hid (HB.out.grown hg2 (by omega) (fun k hk => (World.ownsRow.lt HO.out k hk).1))
          go_roundw
          case rel => exact ⟨k + 1, by omega, by go_num, by rw [Hid, take_of_drop hd.out]; simpa using HO2.out, HB2.out⟩
          case measure => simp [intOf]; omega
        · go_wp2_with fail
          go_ret
          have h5 := HO.out
          rw [List.take_of_length_le (by rw [HN.out]; omega)] at h5
          exact ⟨⟨_, rfl, h5⟩, HB.out⟩

def longB (most : Int) (ls : List (List Int)) : Bool := ls.any fun l => decide (most < (l.length : Int))
def symOk1 (x : Int) : Bool := decide (1 ≤ x ∧ x ≤ 1099511627776)
def symsB (l : List Int) : Bool := l.all symOk1
def wrongE (most : Int) (ls : List (List Int)) : Int := if longB most ls then 5 else if symsB ls.flatten then 0 else 1
set_option maxHeartbeats 1000000 in
theorem wrong_any (most : Int) (v : Value) (ls : List (List Int)) (w : World) (hv : RdL w v ls) (ht : total ls ≤ 1000000) :
    Calls Try.prog 41 #[.int .i64 most, v] w fun e w' => e = .returned (.int .i64 (wrongE most ls)) ∧ Below w.heap.size w w' := by
  have HV := Lib.hid hv
  obtain ⟨A, n, c, rfl, h1, h2, h3, h4⟩ := hv
  have HN := Lib.hid h3
  have hr := Lib.hid h4
  have HT := Lib.hid ht
  clear h3 h4 ht
  go_enter Try.func41, Try.ntmps41
  go_wp2_with fail
  go_loop [11] (fun i => ∃ k : Nat, k ≤ n ∧ i = .int .i64 k ∧ Hid (longB most ls = longB most (ls.drop k))) (fun i => n - (intOf i).toNat)
  case atStart => exact ⟨0, Nat.zero_le _, rfl, rfl⟩
  case round =>
    obtain ⟨k, hk, rfl, HL⟩ := hrel
    by_cases hlt : k < n
    · obtain ⟨b, off, u, l, rfl, hb, hd, hck, hu⟩ := hr.out k hlt
      obtain ⟨A2, n2, c2, rfl, q1, q2, hn2, _⟩ := hu.op
      have HU := Lib.hid hu
      clear hu
      by_cases hm : most < (n2 : Int)
      · go_wp2_with fail
        go_ret
        refine ⟨?_, Below.refl _ _⟩
        have : longB most ls = true := by rw [HL.out, hd.out]; simp [longB, hn2.out, hm]
        simp [wrongE, this]
      · go_wp2_with fail
        go_round
        case rel => exact ⟨k + 1, by omega, by go_num, by rw [Hid, HL.out, hd.out]; simp [longB, hn2.out]; omega⟩
        case measure => simp [intOf]; omega
    · have HLF : Hid (longB most ls = false) := by rw [Hid, HL.out, List.drop_of_length_le (by rw [HN.out]; omega)]; rfl
      go_wp2_with fail
      refine (concat_any _ ls _ HV.out HT.out).mono ?_
      rintro e w1 ⟨⟨v1, rfl, ho⟩, hb⟩
      obtain ⟨A3, n3, c3, rfl, p1, p2, hn3, hr3⟩ := ho.rd.op
      have HB := Lib.hid hb
      clear ho hb
      go_wp2_with fail
      go_loop [23] (fun i => ∃ k : Nat, k ≤ n3 ∧ i = .int .i64 k ∧ Hid (symsB ls.flatten = symsB (ls.flatten.drop k))) (fun i => n3 - (intOf i).toNat)
      case atStart => exact ⟨0, Nat.zero_le _, rfl, rfl⟩
      case round =>
        obtain ⟨j, hj, rfl, HS⟩ := hrel
        by_cases hlt : j < n3
        · obtain ⟨b, off, x, rfl, hb, hd, hck⟩ := hr3.out j hlt
          by_cases hx1 : x < 1
          · go_wp2_with fail
            go_ret
            refine ⟨?_, HB.out⟩
            have : symsB ls.flatten = false := by rw [HS.out, hd.out]; simp [symsB, symOk1]; omega
            simp [wrongE, this, HLF.out]
          · have hx1' : decide (x < 1) = false := by simpa using hx1
            by_cases hx2 : 1099511627776 < x
            · go_wp2_with fail
              go_ret
              refine ⟨?_, HB.out⟩
              have : symsB ls.flatten = false := by rw [HS.out, hd.out]; simp [symsB, symOk1]; omega
              simp [wrongE, this, HLF.out]
            · go_wp2_with fail
              go_round
              case rel => exact ⟨j + 1, by omega, by go_num, by rw [Hid, HS.out, hd.out]; simp [symsB, symOk1]; omega⟩
              case measure => simp [intOf]; omega
        · go_wp2_with fail
          go_ret
          refine ⟨?_, HB.out⟩
          have : symsB ls.flatten = true := by rw [HS.out, List.drop_of_length_le (by rw [hn3.out]; omega)]; rfl
          simp [wrongE, this, HLF.out]
end Go.Proofs.Ytmeppkkoepmlnaa
