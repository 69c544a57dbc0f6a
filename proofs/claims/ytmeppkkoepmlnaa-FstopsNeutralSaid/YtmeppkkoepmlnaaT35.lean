/-
  Many and higher of the reference.
-/
import Derived.Test.YtmeppkkoepmlnaaT33
import Derived.BigQuiet
namespace Go.Proofs.Ytmeppkkoepmlnaa
open Go.ChangeShapes Go.WideShapes Go.ChangeAt Go.RowKit
set_option maxHeartbeats 1000000 in
set_option maxRecDepth 100000 in
theorem many_no (v u : Value) (a b : PFst) (w : World) (hv : RdF w v a) (hu : RdF w u b) (hs : Sane a) (ht : Sane b) (he : manyB a b = false) :
    Calls Try.prog 49 #[v, u] w fun e w' => e = .returned (.bool false) ∧ Below w.heap.size w w' := by
  have HS := Lib.hid hs
  have HT := Lib.hid ht
  obtain ⟨va, vf, rfl, ha, hf⟩ := hv
  obtain ⟨A, n, c, rfl, h1, h2, HN, hr⟩ := ha.op
  obtain ⟨A', n', c', rfl, h1', h2', HN', hr'⟩ := hf.op
  obtain ⟨ua, uf, rfl, ka, kf⟩ := hu
  obtain ⟨D, m, d, rfl, g1, g2, HM, kr⟩ := ka.op
  obtain ⟨D', m', d', rfl, g1', g2', HM', kr'⟩ := kf.op
  obtain ⟨⟨sa0, sa1, sn, _⟩, _, _⟩ := hs
  obtain ⟨⟨sb0, sb1, sm, _⟩, _, _⟩ := ht
  rw [HN.out] at sn
  rw [HM.out] at sm
  obtain ⟨SA, hSA⟩ : ∃ SA : Nat, a.states = (SA : Int) := ⟨a.states.toNat, by omega⟩
  obtain ⟨SB, hSB⟩ : ∃ SB : Nat, b.states = (SB : Int) := ⟨b.states.toNat, by omega⟩
  have HSA := Lib.hid hSA
  have HSB := Lib.hid hSB
  rw [hSA] at sa0 sa1
  rw [hSB] at sb0 sb1
  obtain ⟨Q1, hQ1⟩ : ∃ Q1 : Nat, (SA : Int) * (SB : Int) = (Q1 : Int) := ⟨SA * SB, by simp⟩
  obtain ⟨Q2, hQ2⟩ : ∃ Q2 : Nat, (n : Int) * (m : Int) = (Q2 : Int) := ⟨n * m, by simp⟩
  obtain ⟨Q3, hQ3⟩ : ∃ Q3 : Nat, (n : Int) * (SB : Int) = (Q3 : Int) := ⟨n * SB, by simp⟩
  obtain ⟨Q4, hQ4⟩ : ∃ Q4 : Nat, (SA : Int) * (m : Int) = (Q4 : Int) := ⟨SA * m, by simp⟩
  have u1 : Q1 ≤ 1000000000000 := by have e : Q1 = SA * SB := (by exact_mod_cast hQ1.symm); rw [e]; exact Nat.mul_le_mul (by omega : SA ≤ 1000000) (by omega : SB ≤ 1000000)
  have u2 : Q2 ≤ 1000000000000 := by have e : Q2 = n * m := (by exact_mod_cast hQ2.symm); rw [e]; exact Nat.mul_le_mul (by omega : n ≤ 1000000) (by omega : m ≤ 1000000)
  have u3 : Q3 ≤ 1000000000000 := by have e : Q3 = n * SB := (by exact_mod_cast hQ3.symm); rw [e]; exact Nat.mul_le_mul (by omega : n ≤ 1000000) (by omega : SB ≤ 1000000)
  have u4 : Q4 ≤ 1000000000000 := by have e : Q4 = SA * m := (by exact_mod_cast hQ4.symm); rw [e]; exact Nat.mul_le_mul (by omega : SA ≤ 1000000) (by omega : m ≤ 1000000)
  have HMB : Hid (manyB a b = (decide (1000 < (Q1 : Int)) || decide (100000 < (Q2 : Int) + (Q3 : Int) + (Q4 : Int)))) := by rw [Hid, manyB, HSA.out, HSB.out, HN.out, HM.out, hQ1, hQ2, hQ3, hQ4]
  have HA := Lib.hid ha
  have HF := Lib.hid hf
  have KA := Lib.hid ka
  have KF := Lib.hid kf
  rw [hSA, hSB]
  clear ha hf ka kf hSA hSB
  rw [HMB.out] at he
  have hq : Q1 ≤ 1000 := by simp at he; omega
  have hq2 : Q2 + Q3 + Q4 ≤ 100000 := by simp at he; omega
  have hq' : decide (1000 < (Q1 : Int)) = false := by simp; omega
  have hq2' : decide (100000 < (Q2 : Int) + (Q3 : Int) + (Q4 : Int)) = false := by simp; omega
  clear he HMB
  go_enter Try.func49, Try.ntmps49
  go_wp2_with fail
  go_quiet (fail)
  go_wp2_with fail
  go_ret
  exact ⟨rfl, by repeat (first | assumption | exact Below.refl _ _ | refine Below.alloc ?_ (by first | omega | (simp; done) | (simp; omega)) _ | refine Below.drew ?_ | refine below_drewN ?_ _ | refine Below.setCell ?_ (by first | omega | (simp; done) | (simp; omega)) _)⟩
set_option maxHeartbeats 1000000 in
set_option maxRecDepth 100000 in
theorem higher_any (v : Value) (l : List Int) (r : Int) (w : World) (hv : RdI w v l) (hl : l.length ≤ 1000) (hr1 : 0 ≤ r) (hr2 : r ≤ 5000000) (hx : ∀ x, x ∈ l → 0 ≤ x ∧ x ≤ 1000000) :
    Calls Try.prog 50 #[v, .int .i64 r] w fun e w' => (∃ v', e = .returned v' ∧ OwnI w' w.heap.size v' (l.map (fun q => r + q))) ∧ Below w.heap.size w w' := by
  obtain ⟨A, n, c, rfl, h1, h2, HN, hr⟩ := hv.op
  have HV := Lib.hid hv
  have HX := Lib.hid hx
  rw [HN.out] at hl
  clear hv hx
  go_enter Try.func50, Try.ntmps50
  go_wp2_with fail
  go_loopw [5, 6] (fun s i wr => ∃ k : Nat, k ≤ n ∧ i = .int .i64 k ∧ Hid (OwnI wr w.heap.size s ((l.take k).map (fun q => r + q))) ∧ Hid (Below w.heap.size w wr)) (fun _ i _ => n - (intOf i).toNat)
  case atStart => exact ⟨0, Nat.zero_le _, rfl, own_newI w w.heap.size _ rfl (Nat.le_refl _), (Below.refl _ _).alloc (Nat.le_refl _) _⟩
  case round =>
    obtain ⟨k, hk, rfl, HO, HB⟩ := hrel
    by_cases hlt : k < n
    · obtain ⟨b, off, x, rfl, hbl, hd, e0⟩ := (hr.out k hlt).below HB.out
      obtain ⟨xa0, xa1⟩ := HX.out x (List.mem_of_mem_drop (by rw [hd.out]; exact List.mem_cons_self))
      have HMM : Hid (((l.take k).map (fun q => r + q)).length = k) := by rw [Hid, List.length_map, List.length_take, HN.out]; omega
      have hsz : w.heap.size ≤ wr.heap.size := HB.out.size
      have HCM : Hid (x + r = r + x) := Int.add_comm _ _
      go_wp2_with (at_builtin; refine wpList_app_int rfl (.tmp 14) (.tmp 21) rfl w.heap.size u5 ((l.take k).map (fun q => r + q)) rfl HO.out (x + r) k HMM (by omega) (by omega) rfl ?_; intro g' cap w9 ho hg hgr; have HO2 := Lib.hid ho; clear ho)
      go_roundw
      case rel =>
        refine ⟨k + 1, by omega, by go_num, ?_, ?_⟩
        · have := HO2.out
          rw [HCM.out] at this
          rw [Hid, take_of_drop hd.out]
          simpa using this
        · exact HB.out.grown hgr (by omega) (fun j hj => (World.ownsRow.lt HO.out _ hj).1)
      case measure => simp [intOf]; omega
    · have HOF : Hid (OwnI wr w.heap.size u5 (l.map (fun q => r + q))) := by
        have := HO.out; rw [List.take_of_length_le (by rw [HN.out]; omega)] at this; exact this
      go_wp2_with fail
      go_ret
      exact ⟨⟨_, rfl, HOF.out⟩, HB.out⟩
end Go.Proofs.Ytmeppkkoepmlnaa
