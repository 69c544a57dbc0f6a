import Derived.Test.YtmejihlplbeekaaT2
namespace Go.Proofs.Ytmejihlplbeekaa
open Go.ChangeShapes Go.WideShapes Go.ChangeAt Go.RowKit
def arcsErr (n : Int) : List PArc → Int
  | [] => 0
  | a :: l => if stateB n a.fr && stateB n a.tgt then (if symbolB a.inp && symbolB a.out then arcsErr n l else 1) else 2
def orderErr : List Int → Int
  | x :: y :: l => if y ≤ x then 10 else orderErr (y :: l)
  | _ => 0
def finalErr (n : Int) : List Int → Int
  | [] => 0
  | a :: l => if stateB n a then finalErr n l else 2
def chk (F : PFst) : Int :=
  if F.states < 1 ∨ 4096 < F.states then 2 else if 262144 < F.arcs.length then 11 else
  if arcsErr F.states F.arcs ≠ 0 then arcsErr F.states F.arcs else
  if orderErr F.final ≠ 0 then 10 else finalErr F.states F.final

theorem chk_of (S : Int) (L : List PArc) (M : List Int) (h0 : ¬ S < 1) (h4 : ¬ 4096 < S) (h5 : ¬ 262144 < L.length) : chk ⟨S, L, M⟩ = if arcsErr S L ≠ 0 then arcsErr S L else if orderErr M ≠ 0 then 10 else finalErr S M := by
  simp [chk, h0, h4, h5]

set_option maxHeartbeats 1000000 in
theorem check_any (v : Value) (F : PFst) (w : World) (hv : RdF w v F) :
    Calls Try.prog 14 #[v] w fun e w' => e = .returned (.int .i64 (chk F)) ∧ Below w.heap.size w w' := by
  obtain ⟨va, vf, rfl, ha, hf⟩ := hv
  obtain ⟨A, n, c, rfl, h1, h2, hn, hr⟩ := ha.op
  obtain ⟨A', n', c', rfl, h1', h2', hn', hr'⟩ := hf.op
  obtain ⟨S, L, M⟩ := F
  simp only at hn hr hn' hr' ha hf ⊢
  have hf2 := Lib.hid hf
  have ha2 := Lib.hid ha
  clear hf ha
  by_cases h0 : S < 1
  · go_enter Try.func14, Try.ntmps14
    go_wp2
    go_ret
    exact ⟨by simp [chk, h0], (Below.refl _ _).alloc (Nat.le_refl _) _⟩
  by_cases h4 : 4096 < S
  · have hd : decide (S < 1) = false := by simpa using h0
    go_enter Try.func14, Try.ntmps14
    go_wp2
    go_ret
    exact ⟨by simp [chk, h4], (Below.refl _ _).alloc (Nat.le_refl _) _⟩
  have hd : decide (S < 1) = false := by simpa using h0
  by_cases h5 : 262144 < n
  · go_enter Try.func14, Try.ntmps14
    go_wp2
    go_ret
    exact ⟨by simp [chk, h0, h4, hn.out, h5], (Below.refl _ _).alloc (Nat.le_refl _) _⟩
  go_enter Try.func14, Try.ntmps14
  go_wp2
  generalize hw0 : World.alloc w _ = w0
  have hz : w0.heap.size = w.heap.size + 1 := by rw [← hw0]; simp
  have b0 : w0.cell? ⟨w.heap.size, 0, none⟩ = some (.int .i64 S) := by rw [← hw0]; simp [go_sem]
  have b1 : w0.cell? ⟨w.heap.size, 1, none⟩ = some (.slice A n c) := by rw [← hw0]; simp [go_sem]
  have b2 : w0.cell? ⟨w.heap.size, 2, none⟩ = some (.slice A' n' c') := by rw [← hw0]; simp [go_sem]
  have HB0 : Hid (Below w.heap.size w w0) := by rw [← hw0]; exact (Below.refl _ _).alloc (Nat.le_refl _) _
  have HZ := Lib.hid hz
  have HC := Lib.hid (chk_of S L M (by omega) (by omega) (by rw [hn.out]; omega))
  have Hw0 := Lib.hid hw0
  clear hw0 hz
  go_loopw [3] (fun i wr => ∃ k : Nat, k ≤ n ∧ i = .int .i64 k ∧ Hid (arcsErr S L = arcsErr S (L.drop k)) ∧ Below w0.heap.size w0 wr) (fun i _ => n - (intOf i).toNat)
  case atStart => exact ⟨0, Nat.zero_le _, rfl, rfl, Below.refl _ _⟩
  case round =>
    obtain ⟨k, hk, rfl, HP, HB⟩ := hrel
    have c0 := (HB.cell (p := ⟨w.heap.size, 0, none⟩) (by rw [HZ.out]; simp)).trans b0
    have c1 := (HB.cell (p := ⟨w.heap.size, 1, none⟩) (by rw [HZ.out]; simp)).trans b1
    have c2 := (HB.cell (p := ⟨w.heap.size, 2, none⟩) (by rw [HZ.out]; simp)).trans b2
    have hwz : w.heap.size < wr.heap.size := by have := HB.size; rw [HZ.out] at this; omega
    have hwz2 := HB.size
    have HBw := Lib.hid (bchain HB0.out HB)
    by_cases hlt : k < n
    · obtain ⟨b, off, x0, x1, x2, x3, rfl, hb, hdr, e0, e1, e2, e3⟩ := (hr.out k hlt).below HBw.out
      have HE : Hid (arcsErr S L = if stateB S x0 && stateB S x3 then (if symbolB x1 && symbolB x2 then arcsErr S (L.drop (k + 1)) else 1) else 2) := by rw [Hid, HP.out, hdr.out]; rfl
      cases hs0 : stateB S x0
      · go_wp2_with (first | (go_at_call 32; refine (state_any _ _ _ _ _).mono ?_; rintro e w1 ⟨rfl, rfl⟩) | (go_at_call 33; refine (symbol_any _ _).mono ?_; rintro e w1 ⟨rfl, rfl⟩))
        go_ret
        refine ⟨?_, ?_⟩
        · rw [HC.out, HE.out]; simp [*]
        · (refine bchain HBw.out ?_; repeat (first | assumption | exact Below.refl _ _ | refine Below.alloc ?_ (by first | omega | (simp; done) | (simp; omega)) _ | refine Below.drew ?_ | refine below_drewN ?_ _ | refine Below.setCell ?_ (by first | omega | (simp; done) | (simp; omega)) _))
      cases hs3 : stateB S x3
      · go_wp2_with (first | (go_at_call 32; refine (state_any _ _ _ _ _).mono ?_; rintro e w1 ⟨rfl, rfl⟩) | (go_at_call 33; refine (symbol_any _ _).mono ?_; rintro e w1 ⟨rfl, rfl⟩))
        go_ret
        refine ⟨?_, ?_⟩
        · rw [HC.out, HE.out]; simp [*]
        · (refine bchain HBw.out ?_; repeat (first | assumption | exact Below.refl _ _ | refine Below.alloc ?_ (by first | omega | (simp; done) | (simp; omega)) _ | refine Below.drew ?_ | refine below_drewN ?_ _ | refine Below.setCell ?_ (by first | omega | (simp; done) | (simp; omega)) _))
      cases hs1 : symbolB x1
      · go_wp2_with (first | (go_at_call 32; refine (state_any _ _ _ _ _).mono ?_; rintro e w1 ⟨rfl, rfl⟩) | (go_at_call 33; refine (symbol_any _ _).mono ?_; rintro e w1 ⟨rfl, rfl⟩))
        go_ret
        refine ⟨?_, ?_⟩
        · rw [HC.out, HE.out]; simp [*]
        · (refine bchain HBw.out ?_; repeat (first | assumption | exact Below.refl _ _ | refine Below.alloc ?_ (by first | omega | (simp; done) | (simp; omega)) _ | refine Below.drew ?_ | refine below_drewN ?_ _ | refine Below.setCell ?_ (by first | omega | (simp; done) | (simp; omega)) _))
      cases hs2 : symbolB x2
      · go_wp2_with (first | (go_at_call 32; refine (state_any _ _ _ _ _).mono ?_; rintro e w1 ⟨rfl, rfl⟩) | (go_at_call 33; refine (symbol_any _ _).mono ?_; rintro e w1 ⟨rfl, rfl⟩))
        go_ret
        refine ⟨?_, ?_⟩
        · rw [HC.out, HE.out]; simp [*]
        · (refine bchain HBw.out ?_; repeat (first | assumption | exact Below.refl _ _ | refine Below.alloc ?_ (by first | omega | (simp; done) | (simp; omega)) _ | refine Below.drew ?_ | refine below_drewN ?_ _ | refine Below.setCell ?_ (by first | omega | (simp; done) | (simp; omega)) _))
      go_wp2_with (first | (go_at_call 32; refine (state_any _ _ _ _ _).mono ?_; rintro e w1 ⟨rfl, rfl⟩) | (go_at_call 33; refine (symbol_any _ _).mono ?_; rintro e w1 ⟨rfl, rfl⟩))
      go_roundw
      case rel => exact ⟨k + 1, by omega, by go_num, by rw [Hid, HE.out]; simp [*], by repeat (first | assumption | exact Below.refl _ _ | refine Below.alloc ?_ (by first | omega | (simp; done) | (simp; omega)) _ | refine Below.drew ?_ | refine below_drewN ?_ _ | refine Below.setCell ?_ (by first | omega | (simp; done) | (simp; omega)) _)⟩
      case measure => simp [intOf]; omega
    · have HE : Hid (arcsErr S L = 0) := by rw [Hid, HP.out, List.drop_of_length_le (by rw [hn.out]; omega)]; rfl
      obtain ⟨wo, rfl⟩ : ∃ wo : World, wo = wr := ⟨_, rfl⟩
      go_wp2
      have HBo := Lib.hid HB
      clear HB c0 c1 c2 hr hwz hwz2 HBw HP
      go_loopw [5] (fun i wr => ∃ k : Nat, (k + 1 ≤ n' ∨ k = 0) ∧ i = .int .i64 (k + 1) ∧ Hid (orderErr M = orderErr (M.drop k)) ∧ Below w0.heap.size w0 wr) (fun i _ => n' - (intOf i).toNat)
      case atStart => exact ⟨0, Or.inr rfl, rfl, rfl, HBo.out⟩
      case round =>
        obtain ⟨k, hk, rfl, HP, HB⟩ := hrel
        have c0 := (HB.cell (p := ⟨w.heap.size, 0, none⟩) (by rw [HZ.out]; simp)).trans b0
        have c1 := (HB.cell (p := ⟨w.heap.size, 1, none⟩) (by rw [HZ.out]; simp)).trans b1
        have c2 := (HB.cell (p := ⟨w.heap.size, 2, none⟩) (by rw [HZ.out]; simp)).trans b2
        have hwz : w.heap.size < wr.heap.size := by have := HB.size; rw [HZ.out] at this; omega
        have hwz2 := HB.size
        have HBw := Lib.hid (bchain HB0.out HB)
        by_cases hlt : k + 1 < n'
        · obtain ⟨b, off, x, y, rfl, hb, hdr, e0, e1⟩ := ((hr'.out k (by omega)).below HBw.out).two ((hr'.out (k + 1) hlt).below HBw.out)
          have HO : Hid (orderErr M = if y ≤ x then 10 else orderErr (M.drop (k + 1))) := by
            have h2 := (hr'.out (k + 1) hlt)
            obtain ⟨_, _, y', e, _, h3, _⟩ := h2
            rw [Hid, HP.out, hdr.out, h3.out]
            have : M.drop k = x :: M.drop (k + 1) := by
              have := congrArg (fun l => List.drop 1 l) hdr.out
              simp at this
              rw [hdr.out, this]
            rw [h3.out, hdr.out] at this
            simp at this
            rw [this, orderErr]
          go_wp2
          go_quiet (fail)
          by_cases hyx : y ≤ x
          · go_wp2
            go_ret
            refine ⟨?_, ?_⟩
            · rw [HC.out, HE.out, HO.out]; simp [*]
            · (refine bchain HBw.out ?_; repeat (first | assumption | exact Below.refl _ _ | refine Below.alloc ?_ (by first | omega | (simp; done) | (simp; omega)) _ | refine Below.drew ?_ | refine below_drewN ?_ _ | refine Below.setCell ?_ (by first | omega | (simp; done) | (simp; omega)) _))
          · go_wp2
            go_roundw
            case rel => exact ⟨k + 1, by omega, by go_num, by rw [Hid, HO.out]; simp; omega, by repeat (first | assumption | exact Below.refl _ _ | refine Below.alloc ?_ (by first | omega | (simp; done) | (simp; omega)) _ | refine Below.drew ?_ | refine below_drewN ?_ _ | refine Below.setCell ?_ (by first | omega | (simp; done) | (simp; omega)) _)⟩
            case measure => simp [intOf]; omega
        · have HO : Hid (orderErr M = 0) := by
            rw [Hid, HP.out]
            have hl : (M.drop k).length ≤ 1 := by rw [List.length_drop, hn'.out]; omega
            match M.drop k, hl with
            | [], _ => rfl
            | [_], _ => rfl
          obtain ⟨wo, rfl⟩ : ∃ wo : World, wo = wr := ⟨_, rfl⟩
          go_wp2
          have HBo := Lib.hid HB
          clear HB c0 c1 c2 hwz hwz2 HBw HP
          go_loopw [6] (fun i wr => ∃ k : Nat, k ≤ n' ∧ i = .int .i64 k ∧ Hid (finalErr S M = finalErr S (M.drop k)) ∧ Below w0.heap.size w0 wr) (fun i _ => n' - (intOf i).toNat)
          case atStart => exact ⟨0, Nat.zero_le _, rfl, rfl, HBo.out⟩
          case round =>
            obtain ⟨k, hk, rfl, HP, HB⟩ := hrel
            have c0 := (HB.cell (p := ⟨w.heap.size, 0, none⟩) (by rw [HZ.out]; simp)).trans b0
            have c1 := (HB.cell (p := ⟨w.heap.size, 1, none⟩) (by rw [HZ.out]; simp)).trans b1
            have c2 := (HB.cell (p := ⟨w.heap.size, 2, none⟩) (by rw [HZ.out]; simp)).trans b2
            have hwz : w.heap.size < wr.heap.size := by have := HB.size; rw [HZ.out] at this; omega
            have hwz2 := HB.size
            have HBw := Lib.hid (bchain HB0.out HB)
            by_cases hlt : k < n'
            · obtain ⟨b, off, x, rfl, hb, hdr, e0⟩ := (hr'.out k hlt).below HBw.out
              have HF : Hid (finalErr S M = if stateB S x then finalErr S (M.drop (k + 1)) else 2) := by rw [Hid, HP.out, hdr.out]; rfl
              go_wp2_with fail
              go_region_held3 (fun w' => w'.cell? ⟨w.heap.size, 0, none⟩ = some (.int .i64 S) ∧ w'.cell? ⟨w.heap.size, 1, none⟩ = some (.slice A n c) ∧ w'.cell? ⟨w.heap.size, 2, none⟩ = some (.slice (some ⟨b, off, none⟩) n' c') ∧ w'.cell? ⟨b, off + k, none⟩ = some (.int .i64 x)) (go_keep)
                (first | (go_at_call 32; refine (state_any _ _ _ _ _).mono ?_; rintro e w1 ⟨rfl, rfl⟩))
              cases hs : stateB S x
              · go_wp2
                go_ret
                refine ⟨?_, ?_⟩
                · rw [HC.out, HE.out, HO.out, HF.out]; simp [*]
                · (refine bchain HBw.out ?_; repeat (first | assumption | exact Below.refl _ _ | refine Below.alloc ?_ (by first | omega | (simp; done) | (simp; omega)) _ | refine Below.drew ?_ | refine below_drewN ?_ _ | refine Below.setCell ?_ (by first | omega | (simp; done) | (simp; omega)) _))
              · go_wp2
                go_roundw
                case rel => exact ⟨k + 1, by omega, by go_num, by rw [Hid, HF.out]; simp [*], by repeat (first | assumption | exact Below.refl _ _ | refine Below.alloc ?_ (by first | omega | (simp; done) | (simp; omega)) _ | refine Below.drew ?_ | refine below_drewN ?_ _ | refine Below.setCell ?_ (by first | omega | (simp; done) | (simp; omega)) _)⟩
                case measure => simp [intOf]; omega
            · have HF : Hid (finalErr S M = 0) := by rw [Hid, HP.out, List.drop_of_length_le (by rw [hn'.out]; omega)]; rfl
              go_wp2
              go_ret
              refine ⟨?_, ?_⟩
              · rw [HC.out, HE.out, HO.out, HF.out]; simp
              · (refine bchain HBw.out ?_; repeat (first | assumption | exact Below.refl _ _ | refine Below.alloc ?_ (by first | omega | (simp; done) | (simp; omega)) _ | refine Below.drew ?_ | refine below_drewN ?_ _ | refine Below.setCell ?_ (by first | omega | (simp; done) | (simp; omega)) _))
end Go.Proofs.Ytmejihlplbeekaa
