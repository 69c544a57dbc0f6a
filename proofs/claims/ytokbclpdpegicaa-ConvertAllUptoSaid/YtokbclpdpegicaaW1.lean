/-
  Points of a text: Scalar, encoded, first of the reference of runes.
-/
import Derived.Test.YtokbclpdpegicaaReg2
import Derived.Test.YtokbclpdpegicaaOwn
namespace Go.Proofs.Ytokbclpdpegicaa
open Go.ChangeShapes Go.WideShapes Go.ChangeAt Go.RowKit
/-- the call returns a bool of which Q holds -/
def RetB (Q : Bool → Prop) (e : Ending) : Prop := ∃ b, e = .returned (.bool b) ∧ Q b
theorem RetB.mk {Q : Bool → Prop} {b : Bool} (h : Q b) : RetB Q (.returned (.bool b)) := ⟨b, rfl, h⟩
/-- the call returns a text of which Q holds -/
def RetS (Q : ByteArray → Prop) (e : Ending) : Prop := ∃ s, e = .returned (.string s) ∧ Q s
theorem RetS.mk {Q : ByteArray → Prop} {s : ByteArray} (h : Q s) : RetS Q (.returned (.string s)) := ⟨s, rfl, h⟩
def ScQ (p : Int) (b : Bool) : Prop := b = true → 0 ≤ p ∧ p ≤ 1114111
set_option maxHeartbeats 1000000 in
theorem scalar_any (p : Int) (w : World) : Calls Try.prog 84 #[.int .i64 p] w fun e w' => RetB (ScQ p) e ∧ w = w' := by
  by_cases h0 : 0 ≤ p
  rotate_left
  · have d0 : decide (0 ≤ p) = false := by simpa using h0
    go_enter Try.func84, Try.ntmps84
    go_wp2_with fail
    go_ret
    exact ⟨RetB.mk (b := false) (by simp [ScQ]), rfl⟩
  by_cases h1 : p ≤ 1114111
  rotate_left
  · have d1 : decide (p ≤ 1114111) = false := by simpa using h1
    have d0 : decide (0 ≤ p) = true := by simpa using h0
    go_enter Try.func84, Try.ntmps84
    go_wp2_with fail
    go_ret
    exact ⟨RetB.mk (b := false) (by simp [ScQ]), rfl⟩
  have d1 : decide (p ≤ 1114111) = true := by simpa using h1
  have d0 : decide (0 ≤ p) = true := by simpa using h0
  by_cases h2 : p < 55296
  · have d2 : decide (p < 55296) = true := by simpa using h2
    go_enter Try.func84, Try.ntmps84
    go_wp2_with fail
    go_ret
    exact ⟨RetB.mk fun _ => ⟨h0, h1⟩, rfl⟩
  have d2 : decide (p < 55296) = false := by simpa using h2
  go_enter Try.func84, Try.ntmps84
  go_wp2_with fail
  go_ret
  exact ⟨RetB.mk fun _ => ⟨h0, h1⟩, rfl⟩
def bs (l : List Int) : ByteArray := ⟨(l.map fun x => UInt8.ofNat x.toNat).toArray⟩
theorem conv_back (w : World) (l : List Int) (hl : ∀ x ∈ l, 0 ≤ x ∧ x < 256) : (convert 67 9 (.slice (some ⟨w.heap.size, 0, none⟩) l.length l.length)).run Try.prog (w.alloc (.cells (l.map (Value.int .u8)).toArray 5)) =
    .ok (.string (bs l)) (w.alloc (.cells (l.map (Value.int .u8)).toArray 5)) := by
  have := run_convert_bytes_back (P := Try.prog) (w.alloc (.cells (l.map (Value.int .u8)).toArray 5)) 67 9 5 ⟨w.heap.size, 0, none⟩ l.length (l.map fun x => UInt8.ofNat x.toNat) Try.underlying67 Try.underlying5 Try.underlying9 ?_
  · simpa [bs] using this
  · intro j hj
    have hjl : j < l.length := by simpa using hj
    have hx := hl l[j] (List.getElem_mem hjl)
    have he : (⟨w.heap.size, 0, none⟩ : Addr).add j = ⟨w.heap.size, j, none⟩ := by unfold Addr.add; split <;> simp_all
    rw [he, cell_of_row _ w.heap.size j (l.map (Value.int .u8)).toArray 5 (0, 0) (heap_alloc_new w _)]
    simp [List.getElem?_eq_getElem hjl]
    omega
theorem conv1 (w : World) (a : Int) (ha : 0 ≤ a ∧ a < 256) : (convert 67 9 (.slice (some ⟨w.heap.size, 0, none⟩) 1 1)).run Try.prog (w.alloc (.cells #[.int .u8 a] 5)) = .ok (.string (bs [a])) (w.alloc (.cells #[.int .u8 a] 5)) := by
  simpa using conv_back w [a] (by intro x hx; simp at hx; rcases hx with rfl <;> assumption)
theorem conv2 (w : World) (a b : Int) (ha : 0 ≤ a ∧ a < 256) (hb : 0 ≤ b ∧ b < 256) : (convert 67 9 (.slice (some ⟨w.heap.size, 0, none⟩) 2 2)).run Try.prog (w.alloc (.cells #[.int .u8 a, .int .u8 b] 5)) = .ok (.string (bs [a, b])) (w.alloc (.cells #[.int .u8 a, .int .u8 b] 5)) := by
  simpa using conv_back w [a, b] (by intro x hx; simp at hx; rcases hx with rfl | rfl <;> assumption)
theorem conv3 (w : World) (a b c : Int) (ha : 0 ≤ a ∧ a < 256) (hb : 0 ≤ b ∧ b < 256) (hc : 0 ≤ c ∧ c < 256) : (convert 67 9 (.slice (some ⟨w.heap.size, 0, none⟩) 3 3)).run Try.prog (w.alloc (.cells #[.int .u8 a, .int .u8 b, .int .u8 c] 5)) = .ok (.string (bs [a, b, c])) (w.alloc (.cells #[.int .u8 a, .int .u8 b, .int .u8 c] 5)) := by
  simpa using conv_back w [a, b, c] (by intro x hx; simp at hx; rcases hx with rfl | rfl | rfl <;> assumption)
theorem conv4 (w : World) (a b c d : Int) (ha : 0 ≤ a ∧ a < 256) (hb : 0 ≤ b ∧ b < 256) (hc : 0 ≤ c ∧ c < 256) (hd : 0 ≤ d ∧ d < 256) : (convert 67 9 (.slice (some ⟨w.heap.size, 0, none⟩) 4 4)).run Try.prog (w.alloc (.cells #[.int .u8 a, .int .u8 b, .int .u8 c, .int .u8 d] 5)) = .ok (.string (bs [a, b, c, d])) (w.alloc (.cells #[.int .u8 a, .int .u8 b, .int .u8 c, .int .u8 d] 5)) := by
  simpa using conv_back w [a, b, c, d] (by intro x hx; simp at hx; rcases hx with rfl | rfl | rfl | rfl <;> assumption)
set_option maxHeartbeats 4000000 in
set_option maxRecDepth 100000 in
theorem encoded_any (p : Int) (w : World) (h0 : 0 ≤ p) (h1 : p ≤ 1114111) : Calls Try.prog 85 #[.int .i64 p] w fun e w' => RetS (fun _ => True) e ∧ Below w.heap.size w w' := by
  by_cases h2 : p < 128
  · have d2 : decide (p < 128) = true := by simpa using h2
    have kc := conv1 w p (by omega)
    go_enter Try.func85, Try.ntmps85
    go_wp2_with fail
    go_ret
    exact ⟨RetS.mk trivial, by repeat (first | assumption | exact Below.refl _ _ | refine Below.alloc ?_ (by first | omega | (simp; done) | (simp; omega)) _ | refine Below.drew ?_ | refine below_drewN ?_ _ | refine Below.setCell ?_ (by first | omega | (simp; done) | (simp; omega)) _)⟩
  have d2 : decide (p < 128) = false := by simpa using h2
  by_cases h3 : p < 2048
  · have d3 : decide (p < 2048) = true := by simpa using h3
    have kc := conv2 w (192 + p / 64) (128 + p % 64) (by omega) (by omega)
    go_enter Try.func85, Try.ntmps85
    go_wp2_with fail
    go_ret
    exact ⟨RetS.mk trivial, by repeat (first | assumption | exact Below.refl _ _ | refine Below.alloc ?_ (by first | omega | (simp; done) | (simp; omega)) _ | refine Below.drew ?_ | refine below_drewN ?_ _ | refine Below.setCell ?_ (by first | omega | (simp; done) | (simp; omega)) _)⟩
  have d3 : decide (p < 2048) = false := by simpa using h3
  by_cases h4 : p < 65536
  · have d4 : decide (p < 65536) = true := by simpa using h4
    have kc := conv3 w (224 + p / 4096) (128 + p / 64 % 64) (128 + p % 64) (by omega) (by omega) (by omega)
    go_enter Try.func85, Try.ntmps85
    go_wp2_with fail
    go_ret
    exact ⟨RetS.mk trivial, by repeat (first | assumption | exact Below.refl _ _ | refine Below.alloc ?_ (by first | omega | (simp; done) | (simp; omega)) _ | refine Below.drew ?_ | refine below_drewN ?_ _ | refine Below.setCell ?_ (by first | omega | (simp; done) | (simp; omega)) _)⟩
  have d4 : decide (p < 65536) = false := by simpa using h4
  have kc := conv4 w (240 + p / 262144) (128 + p / 4096 % 64) (128 + p / 64 % 64) (128 + p % 64) (by omega) (by omega) (by omega) (by omega)
  go_enter Try.func85, Try.ntmps85
  go_wp2_with fail
  go_ret
  exact ⟨RetS.mk trivial, by repeat (first | assumption | exact Below.refl _ _ | refine Below.alloc ?_ (by first | omega | (simp; done) | (simp; omega)) _ | refine Below.drew ?_ | refine below_drewN ?_ _ | refine Below.setCell ?_ (by first | omega | (simp; done) | (simp; omega)) _)⟩
end Go.Proofs.Ytokbclpdpegicaa
