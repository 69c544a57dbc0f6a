/-
  fits: whether segments are in the classes of a context.
-/
import Derived.Test.YtdijlakeonionaaQ2
namespace Go.Proofs.Ytdijlakeonionaa
open Go.ChangeShapes Go.WideShapes Go.ChangeAt Go.RowKit
def fitsB (I : List PPh) : List PCls → List Int → Bool
  | c :: l, x :: s => inB I x c && fitsB I l s
  | _, _ => true
set_option maxHeartbeats 2000000 in
set_option maxRecDepth 100000 in
theorem fits_any (u vl vs : Value) (I : List PPh) (l : List PCls) (s : List Int) (w : World) (hv : RdPh w u I) (hl : RdC w vl l) (hs : RdI w vs s) (hle : s.length ≤ l.length) :
    Calls Try.prog 64 #[.func (.func 65) #[] #[], .agg #[u, vl], vs] w fun e w' => e = .returned (.bool (fitsB I l s)) ∧ Below w.heap.size w w' := by
  have HV := Lib.hid hv
  have HL := Lib.hid hl
  obtain ⟨A1, n1, c1, rfl, _, _, HN1, _⟩ := hl.op
  obtain ⟨A2, n2, c2, rfl, _, _, _, _⟩ := hv.op
  obtain ⟨A, n, c, rfl, _, _, HN, HR⟩ := hs.op
  have HLE : Hid (n ≤ l.length) := by rw [Hid, ← HN.out]; exact hle
  clear hv hl hs hle
  go_enter Try.func64, Try.ntmps64
  go_wp2_with fail
  generalize hW : World.alloc w _ = W
  have HBW : Hid (Below w.heap.size w W) := by rw [← hW]; exact al_below _ _
  have HP : Hid (XBlk W w.heap.size (.slice A2 n2 c2) (.slice A1 n1 c1)) := by rw [← hW]; exact heap_alloc_new w _
  clear hW
  go_loopw [11] (fun i wr => ∃ k : Nat, k ≤ n ∧ i = .int .i64 k ∧ Hid (fitsB I l s = fitsB I (l.drop k) (s.drop k)) ∧ Hid (Below W.heap.size W wr)) (fun i _ => n - (intOf i).toNat)
  case atStart => exact ⟨0, Nat.zero_le _, rfl, rfl, Below.refl _ _⟩
  case round =>
    obtain ⟨k, hk, rfl, HF, HW⟩ := hrel
    by_cases hlt : k < n
    · obtain ⟨b, off, x, rfl, hb, hd, hc0⟩ := (HR.out k hlt).below (bchain HBW.out HW.out)
      have hkl : k < l.length := Nat.lt_of_lt_of_le hlt HLE.out
      have HC : Hid (l[k]? = some l[k]) := List.getElem?_eq_getElem hkl
      have HF2 : Hid (fitsB I l s = (inB I x l[k] && fitsB I (l.drop (k + 1)) (s.drop (k + 1)))) := by
        rw [Hid, HF.out, hd.out, List.drop_eq_getElem_cons hkl]; rfl
      have hk0 : (0 : Int) ≤ (k : Int) := by omega
      generalize l[k] = cl at HC HF2
      obtain ⟨z0, z1⟩ := (HP.out.below HW.out).cells
      have hgl := (HP.out.below HW.out).lt
      clear HF hd hkl
      go_wp2_with fail
      refine (cin_any _ _ I l k x cl _ (HV.out.below (bchain HBW.out HW.out)) (HL.out.below (bchain HBW.out HW.out)) HC.out).mono ?_
      rintro e w1 ⟨rfl, hb1⟩
      have HW1 := Lib.hid (bchain HW.out hb1)
      clear hb1 z0 z1 hgl hc0
      cases hin : inB I x cl
      · have HF3 : Hid (fitsB I l s = false) := by rw [Hid, HF2.out, hin]; rfl
        clear hin
        go_wp2_with fail
        go_ret
        exact ⟨by rw [HF3.out]; rfl, bchain HBW.out HW1.out⟩
      · have HF3 : Hid (fitsB I l s = fitsB I (l.drop (k + 1)) (s.drop (k + 1))) := by rw [Hid, HF2.out, hin]; rfl
        clear hin
        go_wp2_with fail
        go_roundw
        case rel => exact ⟨k + 1, by omega, by go_num, HF3.out, HW1.out⟩
        case measure => simp [intOf]; omega
    · have HF3 : Hid (fitsB I l s = true) := by
        rw [Hid, HF.out, List.drop_of_length_le (l := s) (by rw [HN.out]; omega)]
        cases l.drop k <;> rfl
      go_wp2_with fail
      go_ret
      exact ⟨by rw [HF3.out]; rfl, bchain HBW.out HW.out⟩
end Go.Proofs.Ytdijlakeonionaa
