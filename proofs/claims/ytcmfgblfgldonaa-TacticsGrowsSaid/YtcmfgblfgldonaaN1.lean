/-
  Sets of states as numbers: has and with.
-/
import Derived.Test.YtcmfgblfgldonaaMem
namespace Go.Proofs.Ytcmfgblfgldonaa
open Go.ChangeShapes Go.WideShapes Go.ChangeAt Go.RowKit
theorem wrap_u32 (n : Nat) (h : n < 4294967296) : IntKind.u32.wrap (n : Int) = (n : Int) := by
  have : IntKind.u32.wrap (n : Int) = (n : Int) % 4294967296 := by simp [IntKind.wrap, IntKind.signed, IntKind.bits]
  rw [this]; omega
theorem ofInt_nat (n : Nat) : (BitVec.ofInt 32 (n : Int)).toNat = n % 4294967296 := by simp
theorem bits_and (m n : Nat) (hm : m < 4294967296) (hn : n < 4294967296) : bits .and .u32 (m : Int) (n : Int) = ((m &&& n : Nat) : Int) := by
  have h : bits .and .u32 (m : Int) (n : Int) = IntKind.u32.wrap (((BitVec.ofInt 32 (m : Int)) &&& (BitVec.ofInt 32 (n : Int))).toNat : Int) := rfl
  rw [h, BitVec.toNat_and, ofInt_nat, ofInt_nat, Nat.mod_eq_of_lt hm, Nat.mod_eq_of_lt hn, wrap_u32 _ (Nat.lt_of_le_of_lt Nat.and_le_left hm)]
theorem bits_or (m n : Nat) (hm : m < 4294967296) (hn : n < 4294967296) : bits .or .u32 (m : Int) (n : Int) = ((m ||| n : Nat) : Int) := by
  have h : bits .or .u32 (m : Int) (n : Int) = IntKind.u32.wrap (((BitVec.ofInt 32 (m : Int)) ||| (BitVec.ofInt 32 (n : Int))).toNat : Int) := rfl
  rw [h, BitVec.toNat_or, ofInt_nat, ofInt_nat, Nat.mod_eq_of_lt hm, Nat.mod_eq_of_lt hn, wrap_u32 _ (Nat.or_lt_two_pow (n := 32) hm hn)]
theorem two_pow_lt {q : Nat} (hq : q < 32) : 2 ^ q < 4294967296 := (Nat.pow_lt_pow_right (by decide) hq : 2 ^ q < 2 ^ 32)
theorem shr_cast (m q : Nat) : (m : Int) / 2 ^ q = ((m / 2 ^ q : Nat) : Int) := by
  rw [Int.natCast_ediv]; congr 1
theorem shl_cast (q : Nat) (hq : q < 32) : (2 : Int) ^ q % (4294967296 : Int) = ((1 <<< q : Nat) : Int) := by
  rw [Nat.one_shiftLeft]
  have : ((2 : Int) ^ q) = ((2 ^ q : Nat) : Int) := (Int.natCast_pow 2 q).symm
  rw [this]
  have := two_pow_lt hq
  generalize 2 ^ q = z at this ⊢
  omega
theorem bit_eq (m q : Nat) (hm : m < 4294967296) : (bits .and .u32 ((m : Int) / 2 ^ q) 1 == 1) = m.testBit q := by
  have hlt : m / 2 ^ q < 4294967296 := Nat.lt_of_le_of_lt (Nat.div_le_self _ _) hm
  rw [shr_cast, show (1 : Int) = ((1 : Nat) : Int) from rfl, bits_and _ _ hlt (by decide), Nat.testBit, Nat.shiftRight_eq_div_pow, Nat.and_comm 1]
  rw [Nat.and_one_is_mod]
  have : m / 2 ^ q % 2 = 0 ∨ m / 2 ^ q % 2 = 1 := by omega
  rcases this with h | h <;> rw [h] <;> rfl
theorem has_any (m q : Nat) (w : World) (hm : m < 4294967296) (hq : q < 32) :
    Calls Try.prog 47 #[.int .u32 (m : Int), .int .i64 (q : Int)] w fun e w' => e = .returned (.bool (m.testBit q)) ∧ w = w' := by
  have H := Lib.hid hm
  go_enter Try.func47, Try.ntmps47
  go_wp2_with fail
  go_ret
  exact ⟨by rw [← bit_eq m q H.out]; rfl, rfl⟩
theorem with_any (m q : Nat) (w : World) (hm : m < 4294967296) (hq : q < 32) :
    Calls Try.prog 51 #[.int .u32 (m : Int), .int .i64 (q : Int)] w fun e w' => e = .returned (.int .u32 ((m ||| 1 <<< q : Nat) : Int)) ∧ w = w' := by
  have H : Hid (bits .or .u32 (m : Int) ((2 : Int) ^ q % 4294967296) = ((m ||| 1 <<< q : Nat) : Int)) := by
    rw [Hid, shl_cast q hq, bits_or _ _ hm (by rw [Nat.one_shiftLeft]; exact two_pow_lt hq)]
  go_enter Try.func51, Try.ntmps51
  go_wp2_with fail
  go_ret
  exact ⟨by rw [← H.out]; rfl, rfl⟩
end Go.Proofs.Ytcmfgblfgldonaa
