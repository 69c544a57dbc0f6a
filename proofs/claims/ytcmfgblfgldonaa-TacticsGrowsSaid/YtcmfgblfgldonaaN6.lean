/-
  Follow of tactics.
-/
import Derived.Test.YtcmfgblfgldonaaN5
namespace Go.Proofs.Ytcmfgblfgldonaa
open Go.ChangeShapes Go.WideShapes Go.ChangeAt Go.RowKit
def clsUp (k : Nat) : List Int := (List.range k).map fun (i : Nat) => (i : Int) + 1
theorem clsUp_succ (k : Nat) : clsUp (k + 1) = clsUp k ++ [(k : Int) + 1] := by simp [clsUp, List.range_succ]
def folB (N : PNet) (S m : Nat) (c : Int) : Bool := (afterF N.steps m c &&& livingF N S S) != 0
def folF (N : PNet) (S m k : Nat) : List Int := (clsUp k).filter (folB N S m)
theorem folF_succ (N : PNet) (S m k : Nat) : folF N S m (k + 1) = if folB N S m ((k : Int) + 1) then folF N S m k ++ [(k : Int) + 1] else folF N S m k := by
  rw [folF, clsUp_succ, List.filter_append]
  cases h : folB N S m ((k : Int) + 1) <;> simp [folF, h]
theorem folF_len (N : PNet) (S m k : Nat) : (folF N S m k).length ≤ k := by
  have := List.length_filter_le (folB N S m) (clsUp k)
  simpa [folF, clsUp] using this
def followF (N : PNet) (S : Nat) (l : List Int) : List Int := folF N S (runF N.steps 1 l) 20
set_option maxHeartbeats 4000000 in
set_option maxRecDepth 100000 in
theorem follow_any (v u : Value) (N : PNet) (S : Nat) (l : List Int) (w : World) (hv : RdN w v N) (hu : RdI w u l) (hG : GoodN N) (hS : N.states = (S : Int)) :
    Calls Try.prog 18 #[v, u] w fun e w' => (∃ vl, e = .returned vl ∧ OwnI w' w.heap.size vl (followF N S l)) ∧ Below w.heap.size w w' := by
  have HV := Lib.hid hv
  obtain ⟨vs, vf, rfl, hs, hf⟩ := hv
  obtain ⟨A1, n1, c1, rfl, _, _, _, _⟩ := hs.op
  obtain ⟨A2, n2, c2, rfl, _, _, _, _⟩ := hf.op
  obtain ⟨L1, nl, cl, rfl, h1, h2, _, _⟩ := hu.op
  have HU := Lib.hid hu
  have HS' := Lib.hid hS
  have hS24 : S ≤ 24 := by have := hG.s2; omega
  have h1S : (1 : Nat) < 2 ^ S := by have := hG.s1; exact Nat.one_lt_two_pow (by omega)
  have HRL := Lib.hid (runF_lt hG hS l 1 h1S)
  have HLL := Lib.hid (lt32 hS24 (livingF_lt N S S (Nat.le_refl _)))
  rw [hS] at HV ⊢
  clear hs hf hS hu h1S
  go_enter Try.func18, Try.ntmps18
  go_wp2_with fail
  generalize hW : World.alloc w _ = W
  have HBW : Hid (Below w.heap.size w W) := by rw [← hW]; repeat (first | assumption | exact Below.refl _ _ | refine Below.alloc ?_ (by first | omega | (simp; done) | (simp; omega)) _ | refine Below.drew ?_ | refine below_drewN ?_ _ | refine Below.setCell ?_ (by first | omega | (simp; done) | (simp; omega)) _)
  have HNB : Hid (NBlk W w.heap.size (.int .i64 S) (.slice A1 n1 c1) (.slice A2 n2 c2)) := by rw [← hW]; exact heap_alloc_new w _
  clear hW
  refine wp_region_ord 4 [0, 1, 2, 3] [] [0, 1, 3] [2, 4, 5, 6] (fun w' => Below W.heap.size W w') (by kernel_rfl) (by kernel_rfl) ?_
  rintro D hD
  have HSD : Hid (Below W.heap.size W D) := by rw [hD]; exact (Below.refl _ _).drew
  clear hD
  refine ⟨HSD.out, ?_⟩
  have HS : Hid (∀ w' : World, Below W.heap.size W w' → w'.cell? ⟨w.heap.size, 0, none⟩ = some (.int .i64 S) ∧ w'.cell? ⟨w.heap.size, 1, none⟩ = some (.slice A1 n1 c1) ∧ w'.cell? ⟨w.heap.size, 2, none⟩ = some (.slice A2 n2 c2)) := by
    intro w' h
    obtain ⟨f0, f1, f2, _⟩ := (HNB.out.below h).facts
    exact ⟨f0, f1, f2⟩
  iterate 3 (refine wpHead_cons (v := ?_) rfl rfl (fun w' hS => ?_) ?_; rotate_left; (focus ((try obtain ⟨s0, s1, s2⟩ := HS.out _ (hS rfl)); clear hS; go_simp; try with_reducible rfl; done)); (try simp only [Act.put, List.setIfInBounds_toArray, List.set_cons_zero, List.set_cons_succ]))
  refine wpHead_nil ?_
  refine wpTail_cons rfl rfl (fun K hK => ?_)
  go_simp
  refine (run_any _ _ N S l _ (HV.out.below (bchain HBW.out HSD.out)) (HU.out.below (bchain HBW.out HSD.out)) hG HS'.out).mono ?_
  rintro e Y1 ⟨rfl, hb⟩
  refine hK.out _ _ (fun _ => bchain HSD.out hb) ?_
  clear hK K
  (try simp only [Act.put, List.setIfInBounds_toArray, List.set_cons_zero, List.set_cons_succ])
  have HSY1 := Lib.hid (bchain HSD.out hb)
  clear hb
  refine wpTail_cons rfl rfl (fun K hK => ?_)
  go_simp
  refine (living_any _ N S _ (HV.out.below (bchain HBW.out HSY1.out)) hG HS'.out).mono ?_
  rintro e Y2 ⟨rfl, hb⟩
  refine hK.out _ _ (fun h => absurd h (by decide)) ?_
  clear hK K
  (try simp only [Act.put, List.setIfInBounds_toArray, List.set_cons_zero, List.set_cons_succ])
  have HSY2 := Lib.hid (bchain HSY1.out hb)
  clear hb
  refine wpTail_rest 5 rfl ?_
  simp only [List.drop_succ_cons, List.drop_zero]
  go_wp2_with fail
  refine NoPanic.normal ?_
  go_wp2_with fail
  have HFF : Hid (followF N S l = folF N S (runF N.steps 1 l) 20) := rfl
  generalize runF N.steps 1 l = m at HFF HRL
  go_loopw [7, 8] (fun o c wr => ∃ (k : Nat) (A : Option Addr) (n cap : Nat), k ≤ 20 ∧ c = .int .i64 ((k : Int) + 1) ∧ o = .slice A n cap ∧ Hid (OwnI wr W.heap.size (.slice A n cap) (folF N S m k)) ∧ Hid (Below W.heap.size W wr)) (fun _ i _ => 21 - (intOf i).toNat)
  case atStart => exact ⟨0, none, 0, 0, by omega, rfl, rfl, World.ownsRow_nil _ _ _ _, HSY2.out⟩
  case round =>
    obtain ⟨k, A, n, cap, hk, rfl, rfl, HO, HB⟩ := hrel
    by_cases hlt : k < 20
    · have hd : decide ((k : Int) + 1 ≤ 20) = true := by simp; omega
      have HFS := Lib.hid (folF_succ N S m k)
      have HAL := Lib.hid (lt32 hS24 (after_lt hG HS'.out m ((k : Int) + 1)))
      obtain ⟨p0, p1, p2, hpl⟩ := (HNB.out.below HB.out).facts
      go_wp2_with fail
      refine (after_any _ N S m ((k : Int) + 1) _ (HV.out.below (bchain HBW.out HB.out)) hG HS'.out HRL.out).mono ?_
      rintro e w1 ⟨rfl, hb1⟩
      have HO1 : Hid (OwnI w1 W.heap.size (.slice A n cap) (folF N S m k)) := own_below HO.out hb1
      have HB1 := Lib.hid (bchain HB.out hb1)
      clear hb1 p0 p1 p2 hpl
      have hba := bits_and (afterF N.steps m ((k : Int) + 1)) (livingF N S S) HAL.out HLL.out
      have hac := aliveB_cast (afterF N.steps m ((k : Int) + 1)) (livingF N S S)
      rw [show ((afterF N.steps m ((k : Int) + 1) &&& livingF N S S) != 0) = folB N S m ((k : Int) + 1) from rfl] at hac
      generalize folB N S m ((k : Int) + 1) = fb at hac HFS
      cases fb
      · go_wp2_with fail
        go_roundw
        case rel => exact ⟨k + 1, _, _, _, by omega, by go_num, rfl, by rw [HFS.out]; exact HO1.out, HB1.out⟩
        case measure => simp [intOf]; omega
      · have hbl : W.heap.size ≤ w1.heap.size := HB1.out.size
        obtain ⟨len, hlen⟩ : ∃ len, (folF N S m k).length = len := ⟨_, rfl⟩
        have hl20 : len ≤ 1000000 := by have := folF_len N S m k; omega
        have HLEN := Lib.hid hlen
        clear hlen
        go_wp2_with (at_builtin; refine wpList_app_int rfl (.tmp 25) (.tmp 27) rfl W.heap.size (.slice A n cap) (folF N S m k) rfl HO1.out ((k : Int) + 1) len HLEN hl20 hbl rfl ?_; intro g' cap' w5 ho hge hg)
        have HO5 := Lib.hid ho
        have HG5 := Lib.hid hg
        clear ho hg
        go_roundw
        case rel => exact ⟨k + 1, _, _, _, by omega, by go_num, rfl, by rw [HFS.out]; exact HO5.out, HB1.out.grown HG5.out hbl (fun j hj => (World.ownsRow.lt HO1.out j hj).1)⟩
        case measure => simp [intOf]; omega
    · obtain rfl : k = 20 := by omega
      go_wp2_with fail
      go_ret
      exact ⟨⟨_, rfl, by rw [HFF.out]; exact own_base HO.out HBW.out.size⟩, bchain HBW.out HB.out⟩
end Go.Proofs.Ytcmfgblfgldonaa
