/-
  taken: whether the division of a text begins with a graph.
-/
import Derived.Test.YtokbclpdpegicaaW24
import Derived.RangeFuncBox
namespace Go.Proofs.Ytokbclpdpegicaa
open Go.ChangeShapes Go.WideShapes Go.ChangeAt Go.RowKit
set_option maxHeartbeats 1000000 in
theorem hasPrefix2_any (s t : ByteArray) (w : World) (_ : s.size ≤ 67108864) (_ : t.size ≤ 67108864) :
    Calls Try.prog 59 #[.string s, .string t] w fun e w' => e = .returned (.bool (begB s t)) ∧ w = w' := by
  by_cases h : t.size ≤ s.size
  · have d1 : decide ((t.size : Int) ≤ (s.size : Int)) = true := by simp; omega
    have HB : Hid (begB s t = ((s.extract 0 t.size).toList == t.toList)) := by rw [Hid, begB, if_pos h]
    go_enter Try.func59, Try.ntmps59
    go_wp2_with fail
    go_ret
    exact ⟨by rw [HB.out]; rfl, rfl⟩
  · have d1 : decide ((t.size : Int) ≤ (s.size : Int)) = false := by simp; omega
    have HB : Hid (begB s t = false) := by rw [Hid, begB, if_neg h]
    go_enter Try.func59, Try.ntmps59
    go_wp2_with fail
    go_ret
    exact ⟨by rw [HB.out]; rfl, rfl⟩
theorem hasPrefix_any (s t : ByteArray) (w : World) (hs : s.size ≤ 67108864) (ht : t.size ≤ 67108864) :
    Calls Try.prog 47 #[.string s, .string t] w fun e w' => e = .returned (.bool (begB s t)) ∧ w = w' := by
  have HS := Lib.hid hs
  have HT := Lib.hid ht
  clear hs ht
  go_enter Try.func47, Try.ntmps47
  go_wp2_with fail
  refine (hasPrefix2_any s t _ HS.out HT.out).mono ?_
  rintro e w' ⟨rfl, rfl⟩
  go_wp2_with fail
  go_ret
  exact ⟨rfl, rfl⟩
def overB (s t : ByteArray) (p : PU) : Bool := decide (t.size < p.g.size) && begB s p.g
set_option maxHeartbeats 1000000 in
theorem taken1_any (p : PU) (s t : ByteArray) (B2 : Option Addr) (m2 c2 Bt Bs : Nat) (w : World) (hs : s.size ≤ 67108864) (hg : p.g.size ≤ 67108864) (ht : Boxed w Bt 9 (.string t)) (hb : Boxed w Bs 9 (.string s)) :
    Calls Try.prog 46 #[.agg #[.string p.g, .slice B2 m2 c2], .pointer (some ⟨Bt, 0, none⟩), .pointer (some ⟨Bs, 0, none⟩)] w fun e w' => e = .returned (.bool (overB s t p)) ∧ Below w.heap.size w w' := by
  have hl1 := ht.lt
  have hl2 := hb.lt
  have hc1 := ht.cell
  have hc2 := hb.cell
  have HS := Lib.hid hs
  have HG := Lib.hid hg
  clear ht hb hs hg
  by_cases h : t.size < p.g.size
  · have d1 : decide (t.size < p.g.size) = true := by simpa using h
    have HF : Hid (overB s t p = begB s p.g) := by rw [Hid, overB, d1, Bool.true_and]
    clear h
    go_enter Try.func46, Try.ntmps46
    go_wp2_with fail
    refine (hasPrefix_any s p.g _ HS.out HG.out).mono ?_
    rintro e w1 ⟨rfl, rfl⟩
    go_wp2_with fail
    go_ret
    exact ⟨by rw [HF.out]; rfl, by repeat (first | assumption | exact Below.refl _ _ | refine Below.alloc ?_ (by first | omega | (simp; done) | (simp; omega)) _ | refine Below.drew ?_ | refine below_drewN ?_ _ | refine Below.setCell ?_ (by first | omega | (simp; done) | (simp; omega)) _)⟩
  · have d1 : decide (t.size < p.g.size) = false := by simpa using h
    have HF : Hid (overB s t p = false) := by rw [Hid, overB, d1, Bool.false_and]
    clear h
    go_enter Try.func46, Try.ntmps46
    go_wp2_with fail
    go_ret
    exact ⟨by rw [HF.out]; rfl, by repeat (first | assumption | exact Below.refl _ _ | refine Below.alloc ?_ (by first | omega | (simp; done) | (simp; omega)) _ | refine Below.drew ?_ | refine below_drewN ?_ _ | refine Below.setCell ?_ (by first | omega | (simp; done) | (simp; omega)) _)⟩
def overI (s t : ByteArray) : List PU → Nat → Int
  | [], _ => -1
  | p :: r, k => if overB s t p = true then k else overI s t r (k + 1)
theorem overI_iff (s t : ByteArray) : ∀ (us : List PU) (k : Nat), decide (0 ≤ overI s t us k) = us.any (overB s t)
  | [], _ => by simp [overI]
  | p :: r, k => by
    rw [overI, List.any_cons]
    cases h : overB s t p
    · rw [if_neg (by simp), overI_iff s t r (k + 1)]; rfl
    · rw [if_pos rfl]; simp
set_option maxHeartbeats 1000000 in
theorem idxT_any (v : Value) (us : List PU) (s t : ByteArray) (Bt Bs : Nat) (w : World) (hv : RdU w v us) (hus : ∀ p ∈ us, SmS p.g) (hs : s.size ≤ 67108864) (ht : Boxed w Bt 9 (.string t)) (hb : Boxed w Bs 9 (.string s)) :
    Calls Try.prog 58 #[v, .func (.func 46) #[] #[.pointer (some ⟨Bt, 0, none⟩), .pointer (some ⟨Bs, 0, none⟩)]] w fun e' w' => e' = .returned (.int .i64 (overI s t us 0)) ∧ Below w.heap.size w w' := by
  obtain ⟨A, n, c, rfl, h1, h2, HN, HR⟩ := hv.op
  have HT := Lib.hid ht
  have HBS := Lib.hid hb
  have HUS := Lib.hid hus
  clear hv ht hb hus
  go_enter Try.func58, Try.ntmps58
  go_wp2_with fail
  go_loopw [8] (fun i wr => ∃ k : Nat, k ≤ n ∧ i = .int .i64 k ∧ Hid (overI s t us 0 = overI s t (us.drop k) k) ∧ Hid (Below w.heap.size w wr)) (fun i _ => n - (intOf i).toNat)
  case atStart => exact ⟨0, Nat.zero_le _, rfl, rfl, Below.refl _ _⟩
  case round =>
    obtain ⟨k, hk, rfl, HP, HW⟩ := hrel
    by_cases hlt : k < n
    · obtain ⟨b, off, B2, m2, c2, p, rfl, hb, hd, c0, c1, _⟩ := (HR.out k hlt).below HW.out
      have HP2 : Hid (overI s t us 0 = if overB s t p = true then (k : Int) else overI s t (us.drop (k + 1)) (k + 1)) := by rw [Hid, HP.out, hd.out]; rfl
      have hgs : p.g.size ≤ 1048576 := HUS.out p (List.mem_of_mem_drop (by rw [hd.out]; exact List.mem_cons_self))
      clear HP hd
      go_wp2_with fail
      refine (taken1_any p s t B2 m2 c2 Bt Bs _ hs (by omega) ((HW.out.block _ HT.out.lt).trans HT.out) ((HW.out.block _ HBS.out.lt).trans HBS.out)).mono ?_
      rintro e' w1 ⟨rfl, hb1⟩
      have HW1 := Lib.hid (bchain HW.out hb1)
      clear hb1 c0 c1
      cases hid : overB s t p
      · have HP3 : Hid (overI s t us 0 = overI s t (us.drop (k + 1)) (k + 1)) := by rw [Hid, HP2.out, if_neg (by simp [hid])]
        clear hid
        go_wp2_with fail
        go_roundw
        case rel => exact ⟨k + 1, by omega, by go_num, HP3.out, HW1.out⟩
        case measure => simp [intOf]; omega
      · have HP3 : Hid (overI s t us 0 = k) := by rw [Hid, HP2.out, if_pos hid]
        clear hid
        go_wp2_with fail
        go_ret
        exact ⟨by rw [HP3.out]; rfl, HW1.out⟩
    · have HP3 : Hid (overI s t us 0 = -1) := by rw [Hid, HP.out, List.drop_of_length_le (by rw [HN.out]; omega)]; rfl
      go_wp2_with fail
      go_ret
      exact ⟨by rw [HP3.out]; rfl, HW.out⟩
theorem contT_any (v : Value) (us : List PU) (s t : ByteArray) (Bt Bs : Nat) (w : World) (hv : RdU w v us) (hus : ∀ p ∈ us, SmS p.g) (hs : s.size ≤ 67108864) (ht : Boxed w Bt 9 (.string t)) (hb : Boxed w Bs 9 (.string s)) :
    Calls Try.prog 45 #[v, .func (.func 46) #[] #[.pointer (some ⟨Bt, 0, none⟩), .pointer (some ⟨Bs, 0, none⟩)]] w fun e' w' => e' = .returned (.bool (us.any (overB s t))) ∧ Below w.heap.size w w' := by
  obtain ⟨A, n, c, rfl, h1, h2, _, _⟩ := hv.op
  have HC := Lib.hid (idxT_any _ us s t Bt Bs w hv hus hs ht hb)
  have HI := Lib.hid (overI_iff s t us 0)
  clear hv hus hs ht hb
  go_enter Try.func45, Try.ntmps45
  go_wp2_with fail
  refine HC.out.mono ?_
  rintro e w1 ⟨rfl, hb⟩
  have HB := Lib.hid hb
  clear hb HC
  go_wp2_with fail
  go_ret
  exact ⟨by rw [← HI.out]; rfl, HB.out⟩
set_option maxHeartbeats 1000000 in
theorem taken_any (va : Value) (a : PO) (s t : ByteArray) (w : World) (hA : RdO w va a) (hsa : SmO a) (hs : s.size ≤ 67108864) :
    Calls Try.prog 34 #[va, .string s, .string t] w fun e w' => e = .returned (.bool (!a.units.any (overB s t))) ∧ Below w.heap.size w w' := by
  have HSA := Lib.hid hsa
  obtain ⟨vu, vl, rfl, hu, hl⟩ := hA
  obtain ⟨A, n, c, rfl, _, _, _, _⟩ := hu.op
  obtain ⟨B, m, d, rfl, _, _, _, _⟩ := hl.op
  have HU := Lib.hid hu
  clear hu hl hsa
  go_enter Try.func34, Try.ntmps34
  go_upto_region 1 with (fail)
  generalize hW : World.alloc (World.alloc (World.alloc w _) _) _ = W
  have HBW : Hid (Below w.heap.size w W) := by rw [← hW]; repeat (first | assumption | exact Below.refl _ _ | refine Below.alloc ?_ (by first | omega | (simp; done) | (simp; omega)) _ | refine Below.drew ?_ | refine below_drewN ?_ _ | refine Below.setCell ?_ (by first | omega | (simp; done) | (simp; omega)) _)
  have z1 : W.cell? ⟨w.heap.size, 1, none⟩ = some (.slice A n c) := by rw [← hW]; simp [go_sem]
  have HBS : Hid (Boxed W (w.heap.size + 1) 9 (.string s)) := by
    rw [← hW]
    have := Boxed.new (w.alloc (.cells #[.string a.name, .slice A n c, .slice B m d] 28)) 9 (.string s)
    rw [World.size_alloc] at this
    exact this.alloc _
  have HBT : Hid (Boxed W (w.heap.size + 1 + 1) 9 (.string t)) := by
    rw [← hW]
    have := Boxed.new ((w.alloc (.cells #[.string a.name, .slice A n c, .slice B m d] 28)).alloc (.cells #[.string s] 9)) 9 (.string t)
    rw [World.size_alloc, World.size_alloc] at this
    exact this
  have hgW : w.heap.size < W.heap.size := by rw [← hW]; simp; omega
  clear hW
  go_wp2_with fail
  refine (contT_any _ a.units s t _ _ _ (HU.out.below HBW.out) HSA.out.graph hs HBT.out HBS.out).mono ?_
  rintro e w1 ⟨rfl, hb⟩
  have HB := Lib.hid (bchain HBW.out hb)
  clear hb
  go_wp2_with fail
  go_ret
  exact ⟨rfl, HB.out⟩
end Go.Proofs.Ytokbclpdpegicaa
