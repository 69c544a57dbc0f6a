/-
  Plain words on ways: by the keys of entries.
-/
import Derived.Test.YtnjniganlielcaaV4
namespace Go.Proofs.Ytnjniganlielcaa
open Go.ChangeShapes Go.WideShapes Go.ChangeAt Go.RowKit
structure EK where
  id : Int
  main : Int
  ns : Nat
  deriving DecidableEq
def EV.key (e : EV) : EK := ⟨e.id, e.main, e.s.n⟩
def keys (L : List EV) : List EK := L.map EV.key
theorem keys_length (L : List EV) : (keys L).length = L.length := by simp [keys]
def getK (K : List EK) (id : Int) : Option EK := K.find? fun e => e.id == id
theorem getK_keys (L : List EV) (id : Int) : getK (keys L) id = (getE L id).map EV.key := by
  rw [getK, keys, getE, List.find?_map]
  rfl
def wayK (K : List EK) : Nat → Int → List EK
  | 0, _ => []
  | k + 1, id => match getK K id with
    | none => []
    | some e => e :: if e.main = 0 then [] else wayK K k e.main
theorem wayK_keys (L : List EV) : ∀ (k : Nat) (id : Int), (wayL L k id).map EV.key = wayK (keys L) k id
  | 0, _ => rfl
  | k + 1, id => by
    rw [wayL, wayK, getK_keys]
    cases getE L id with
    | none => rfl
    | some e =>
      simp only [Option.map_some, List.map_cons]
      congr 1
      show List.map EV.key (if e.main = 0 then [] else wayL L k e.main) = if e.main = 0 then [] else wayK (keys L) k e.main
      split
      · rfl
      · exact wayK_keys L k e.main
/-- the whole way of an entry -/
def wK (K : List EK) (id : Int) : List EK := wayK K (K.length + 1) id
theorem wK_keys (L : List EV) (id : Int) : (wayL L (L.length + 1) id).map EV.key = wK (keys L) id := by rw [wayK_keys, wK, keys_length]
theorem wK_len (L : List EV) (id : Int) : (wayL L (L.length + 1) id).length = (wK (keys L) id).length := by rw [← wK_keys, List.length_map]
def mainK (K : List EK) (id : Int) : Int := ((wK K id).getLast?.map EK.id).getD 0
theorem main_keys (L : List EV) (id : Int) : (endE (wayL L (L.length + 1) id)).id = mainK (keys L) id := by
  rw [mainK, ← wK_keys, endE, List.getLast?_map]
  cases (wayL L (L.length + 1) id).getLast? with
  | none => rfl
  | some e => rfl
def chk1 (K : List EK) : List EK → Int
  | [] => 0
  | e :: l => if e.main ≠ 0 ∧ getK K e.main = none then 9 else chk1 K l
def chk2 (K : List EK) : List EK → Int
  | [] => 0
  | e :: l => if K.length < (wK K e.id).length then 17 else chk2 K l
def chkK (K : List EK) : Int := if chk1 K K ≠ 0 then 9 else chk2 K K
def allK (K : List EK) (id : Int) : List Int := (K.filter fun e => e.id != id && mainK K e.id == id).map EK.id
theorem chk1_09 (K : List EK) : ∀ l, chk1 K l = 0 ∨ chk1 K l = 9
  | [] => .inl rfl
  | e :: l => by
    rw [chk1]
    split
    · exact .inr rfl
    · exact chk1_09 K l
end Go.Proofs.Ytnjniganlielcaa
