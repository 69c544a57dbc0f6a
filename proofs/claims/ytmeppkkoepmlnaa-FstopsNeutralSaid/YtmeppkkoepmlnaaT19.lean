/-
  Compose of fstops.
-/
import Derived.Test.YtmeppkkoepmlnaaT18
import Derived.Test.YtmeppkkoepmlnaaPl3
namespace Go.Proofs.Ytmeppkkoepmlnaa
open Go.ChangeShapes Go.WideShapes Go.ChangeAt Go.RowKit
set_option maxHeartbeats 1000000 in
set_option maxRecDepth 100000 in
theorem compose_full (v u : Value) (a b : PFst) (w : World) (hv : RdF w v a) (hu : RdF w u b) (hs : Sane a) (ht : Sane b) (he : manyB a b = true) :
    Calls Try.prog 28 #[v, u] w fun e w' => e = .returned (.tuple #[.agg #[.int .i64 0, .slice none 0 0, .slice none 0 0], .int .i64 11]) ∧ Below w.heap.size w w' := by
  have HS := Lib.hid hs
  have HT := Lib.hid ht
  obtain ⟨va, vf, rfl, ha, hf⟩ := hv
  obtain ⟨A, n, c, rfl, h1, h2, HN, hr⟩ := ha.op
  obtain ⟨A', n', c', rfl, h1', h2', HN', hr'⟩ := hf.op
  obtain ⟨ua, uf, rfl, ka, kf⟩ := hu
  obtain ⟨D, m, d, rfl, g1, g2, HM, kr⟩ := ka.op
  obtain ⟨D', m', d', rfl, g1', g2', HM', kr'⟩ := kf.op
  obtain ⟨⟨sa0, sa1, sn, _⟩, _, _⟩ := hs
  obtain ⟨⟨sb0, sb1, sm, _⟩, _, _⟩ := ht
  rw [HN.out] at sn
  rw [HM.out] at sm
  obtain ⟨SA, hSA⟩ : ∃ SA : Nat, a.states = (SA : Int) := ⟨a.states.toNat, by omega⟩
  obtain ⟨SB, hSB⟩ : ∃ SB : Nat, b.states = (SB : Int) := ⟨b.states.toNat, by omega⟩
  have HSA := Lib.hid hSA
  have HSB := Lib.hid hSB
  rw [hSA] at sa0 sa1
  rw [hSB] at sb0 sb1
  obtain ⟨Q1, hQ1⟩ : ∃ Q1 : Nat, (SA : Int) * (SB : Int) = (Q1 : Int) := ⟨SA * SB, by simp⟩
  obtain ⟨Q2, hQ2⟩ : ∃ Q2 : Nat, (n : Int) * (m : Int) = (Q2 : Int) := ⟨n * m, by simp⟩
  obtain ⟨Q3, hQ3⟩ : ∃ Q3 : Nat, (n : Int) * (SB : Int) = (Q3 : Int) := ⟨n * SB, by simp⟩
  obtain ⟨Q4, hQ4⟩ : ∃ Q4 : Nat, (SA : Int) * (m : Int) = (Q4 : Int) := ⟨SA * m, by simp⟩
  have u1 : Q1 ≤ 1000000000000 := by have e : Q1 = SA * SB := (by exact_mod_cast hQ1.symm); rw [e]; exact Nat.mul_le_mul (by omega : SA ≤ 1000000) (by omega : SB ≤ 1000000)
  have u2 : Q2 ≤ 1000000000000 := by have e : Q2 = n * m := (by exact_mod_cast hQ2.symm); rw [e]; exact Nat.mul_le_mul (by omega : n ≤ 1000000) (by omega : m ≤ 1000000)
  have u3 : Q3 ≤ 1000000000000 := by have e : Q3 = n * SB := (by exact_mod_cast hQ3.symm); rw [e]; exact Nat.mul_le_mul (by omega : n ≤ 1000000) (by omega : SB ≤ 1000000)
  have u4 : Q4 ≤ 1000000000000 := by have e : Q4 = SA * m := (by exact_mod_cast hQ4.symm); rw [e]; exact Nat.mul_le_mul (by omega : SA ≤ 1000000) (by omega : m ≤ 1000000)
  have HMB : Hid (manyB a b = (decide (1000 < (Q1 : Int)) || decide (100000 < (Q2 : Int) + (Q3 : Int) + (Q4 : Int)))) := by rw [Hid, manyB, HSA.out, HSB.out, HN.out, HM.out, hQ1, hQ2, hQ3, hQ4]
  have HA := Lib.hid ha
  have HF := Lib.hid hf
  have KA := Lib.hid ka
  have KF := Lib.hid kf
  rw [hSA, hSB]
  clear ha hf ka kf hSA hSB
  rw [HMB.out] at he
  by_cases hq : 1000 < Q1
  · clear he
    go_enter Try.func28, Try.ntmps28
    go_wp2_with fail
    refine bodyPost_ret (v := .tuple #[.agg #[.int .i64 0, .slice none 0 0, .slice none 0 0], .int .i64 11]) ?_ rfl ?_
    · simp [results, Try.results28, go_sem]
    exact ⟨rfl, by repeat (first | assumption | exact Below.refl _ _ | refine Below.alloc ?_ (by first | omega | (simp; done) | (simp; omega)) _ | refine Below.drew ?_ | refine below_drewN ?_ _ | refine Below.setCell ?_ (by first | omega | (simp; done) | (simp; omega)) _)⟩
  · have hq' : decide (1000 < (Q1 : Int)) = false := by simp; omega
    have hq2 : 100000 < Q2 + Q3 + Q4 := by rw [hq'] at he; simp at he; omega
    clear he
    go_enter Try.func28, Try.ntmps28
    go_wp2_with fail
    refine bodyPost_ret (v := .tuple #[.agg #[.int .i64 0, .slice none 0 0, .slice none 0 0], .int .i64 11]) ?_ rfl ?_
    · simp [results, Try.results28, go_sem]
    exact ⟨rfl, by repeat (first | assumption | exact Below.refl _ _ | refine Below.alloc ?_ (by first | omega | (simp; done) | (simp; omega)) _ | refine Below.drew ?_ | refine below_drewN ?_ _ | refine Below.setCell ?_ (by first | omega | (simp; done) | (simp; omega)) _)⟩
/-- the transducer f, an arc's box gx beside it -/
def CR (W : World) (base : Nat) (Q1 : Int) (gx : Nat) (x0 x1 x2 x3 : Int) (L : List PArc) (wr : World) : Prop :=
  ∃ va, Bld 29 wr base base va (.slice none 0 0) ⟨Q1, L, []⟩ ∧ Fr base base W wr ∧ ABlk wr gx x0 x1 x2 x3 ∧ va.ownBlock ≠ some gx ∧ gx ≠ base
theorem CR.alloc {W wr : World} {base gx : Nat} {Q1 x0 x1 x2 x3 : Int} {L : List PArc} (h : CR W base Q1 gx x0 x1 x2 x3 L wr) (hB : base ≤ W.heap.size) (o : Obj) : CR W base Q1 gx x0 x1 x2 x3 L (wr.alloc o) := by
  obtain ⟨va, h1, h2, h3, h4, h5⟩ := h
  exact ⟨va, h1.alloc o, h2.alloc hB o, (Below.heap_alloc wr o gx (Array.getElem?_eq_some_iff.1 h3).1).trans h3, h4, h5⟩
theorem CR.start {W wr : World} {base : Nat} {Q1 x0 x1 x2 x3 : Int} {L : List PArc} {va : Value} (h : Bld 29 wr base base va (.slice none 0 0) ⟨Q1, L, []⟩) (hf : Fr base base W wr) (hB : base ≤ W.heap.size) :
    CR W base Q1 wr.heap.size x0 x1 x2 x3 L (wr.alloc (.cells #[.int .i64 x0, .int .i64 x1, .int .i64 x2, .int .i64 x3] 57)) := by
  refine ⟨va, h.alloc _, hf.alloc hB _, heap_alloc_new wr _, fun he => ?_, by have := h.lt; omega⟩
  have := (World.ownsRow.lt h.oa _ he).2
  omega
theorem put_cr (W : World) (base Pb gx : Nat) (x0 x1 x2 x3 : Int) (L : List PArc) (Q1 m : Int) (y z : Value) (p q i o p2 q2 : Int) (w : World) (h : CR W base Q1 gx x0 x1 x2 x3 L w) (hP : FBlk W Pb (.int .i64 m) y z) (hne : Pb ≠ base) (hl : L.length ≤ 800000)
    (hm : 0 ≤ m ∧ m ≤ 5000) (hp : 0 ≤ p ∧ p ≤ 5000) (hq : 0 ≤ q ∧ q ≤ 5000) (hp2 : 0 ≤ p2 ∧ p2 ≤ 5000) (hq2 : 0 ≤ q2 ∧ q2 ≤ 5000) :
    Calls Try.prog 48 #[.int .i64 p, .int .i64 q, .int .i64 i, .int .i64 o, .int .i64 p2, .int .i64 q2, .pointer (some ⟨base, 0, none⟩), .pointer (some ⟨Pb, 0, none⟩)] w
      fun e w' => e = .returned (.tuple #[]) ∧ CR W base Q1 gx x0 x1 x2 x3 (L ++ [put m p q i o p2 q2]) w' := by
  obtain ⟨va, h1, h2, h3, h4, h5⟩ := h
  refine (put_any base base Pb va _ _ m y z p q i o p2 q2 w h1 (hP.fr h2 hne) hl hm hp hq hp2 hq2).mono ?_
  rintro e w' ⟨rfl, ⟨va', g1, g2⟩, g3⟩
  obtain ⟨g4, g5⟩ := g2.arc h3 h5 h4
  exact ⟨rfl, va', g1, h2.trans g3, g4, g5, h5⟩
theorem cxs_snoc (m : Int) (bs : List PArc) (y x : PArc) : cxs m (bs ++ [y]) x = cxs m bs x ++ cxy m x y := by simp [cxs]
theorem cxr_succ (m : Int) (K : Nat) (x : PArc) : cxr m (K + 1) x = cxr m K x ++ cxq m x K := by simp [cxr, List.range_succ]
theorem cy_succ (m : Int) (K : Nat) (y : PArc) : cy m (K + 1) y = cy m K y ++ cyp m y K := by simp [cy, List.range_succ]
theorem compFin_len (m : Int) (P Q : List Int) : (compFin m P Q).length = P.length * Q.length := by
  induction P with
  | nil => simp [compFin]
  | cons p P ih => simp only [compFin, List.flatMap_cons, List.length_append, List.length_map, List.length_cons, Nat.add_mul] at ih ⊢; omega
theorem compFin_snoc (m : Int) (P Q : List Int) (p : Int) : compFin m (P ++ [p]) Q = compFin m P Q ++ Q.map (fun q => p * m + q) := by simp [compFin]
set_option maxHeartbeats 8000000 in
set_option maxRecDepth 100000 in
theorem compose_any (v u : Value) (a b : PFst) (w : World) (hv : RdF w v a) (hu : RdF w u b) (hs : Good a) (ht : Good b) (he : manyB a b = false) :
    Calls Try.prog 28 #[v, u] w fun e w' => (∃ vF, e = .returned (.tuple #[vF, .int .i64 0]) ∧ OwnF w.heap.size w' vF (compF a b)) ∧ Below w.heap.size w w' := by
  have HFIT := Lib.hid (fits_of hs.s1 ht.s1 he)
  have HGA := Lib.hid hs
  have HGB := Lib.hid ht
  have hs := hs.sane
  have ht := ht.sane
  have HS := Lib.hid hs
  have HT := Lib.hid ht
  obtain ⟨va, vf, rfl, ha, hf⟩ := hv
  obtain ⟨A, n, c, rfl, h1, h2, HN, hr⟩ := ha.op
  obtain ⟨A', n', c', rfl, h1', h2', HN', hr'⟩ := hf.op
  obtain ⟨ua, uf, rfl, ka, kf⟩ := hu
  obtain ⟨D, m, d, rfl, g1, g2, HM, kr⟩ := ka.op
  obtain ⟨D', m', d', rfl, g1', g2', HM', kr'⟩ := kf.op
  obtain ⟨⟨sa0, sa1, sn, _⟩, _, _⟩ := hs
  obtain ⟨⟨sb0, sb1, sm, _⟩, _, _⟩ := ht
  rw [HN.out] at sn
  rw [HM.out] at sm
  obtain ⟨SA, hSA⟩ : ∃ SA : Nat, a.states = (SA : Int) := ⟨a.states.toNat, by omega⟩
  obtain ⟨SB, hSB⟩ : ∃ SB : Nat, b.states = (SB : Int) := ⟨b.states.toNat, by omega⟩
  have HSA := Lib.hid hSA
  have HSB := Lib.hid hSB
  rw [hSA] at sa0 sa1
  rw [hSB] at sb0 sb1
  obtain ⟨Q1, hQ1⟩ : ∃ Q1 : Nat, (SA : Int) * (SB : Int) = (Q1 : Int) := ⟨SA * SB, by simp⟩
  obtain ⟨Q2, hQ2⟩ : ∃ Q2 : Nat, (n : Int) * (m : Int) = (Q2 : Int) := ⟨n * m, by simp⟩
  obtain ⟨Q3, hQ3⟩ : ∃ Q3 : Nat, (n : Int) * (SB : Int) = (Q3 : Int) := ⟨n * SB, by simp⟩
  obtain ⟨Q4, hQ4⟩ : ∃ Q4 : Nat, (SA : Int) * (m : Int) = (Q4 : Int) := ⟨SA * m, by simp⟩
  have u1 : Q1 ≤ 1000000000000 := by have e : Q1 = SA * SB := (by exact_mod_cast hQ1.symm); rw [e]; exact Nat.mul_le_mul (by omega : SA ≤ 1000000) (by omega : SB ≤ 1000000)
  have u2 : Q2 ≤ 1000000000000 := by have e : Q2 = n * m := (by exact_mod_cast hQ2.symm); rw [e]; exact Nat.mul_le_mul (by omega : n ≤ 1000000) (by omega : m ≤ 1000000)
  have u3 : Q3 ≤ 1000000000000 := by have e : Q3 = n * SB := (by exact_mod_cast hQ3.symm); rw [e]; exact Nat.mul_le_mul (by omega : n ≤ 1000000) (by omega : SB ≤ 1000000)
  have u4 : Q4 ≤ 1000000000000 := by have e : Q4 = SA * m := (by exact_mod_cast hQ4.symm); rw [e]; exact Nat.mul_le_mul (by omega : SA ≤ 1000000) (by omega : m ≤ 1000000)
  have HMB : Hid (manyB a b = (decide (1000 < (Q1 : Int)) || decide (100000 < (Q2 : Int) + (Q3 : Int) + (Q4 : Int)))) := by rw [Hid, manyB, HSA.out, HSB.out, HN.out, HM.out, hQ1, hQ2, hQ3, hQ4]
  have HA := Lib.hid ha
  have HF := Lib.hid hf
  have KA := Lib.hid ka
  have KF := Lib.hid kf
  rw [hSA, hSB]
  clear ha hf ka kf hSA hSB
  rw [HMB.out] at he
  have hq : Q1 ≤ 1000 := by simp at he; omega
  have hq2 : Q2 + Q3 + Q4 ≤ 100000 := by simp at he; omega
  have hq' : decide (1000 < (Q1 : Int)) = false := by simp; omega
  clear he HMB
  have hSBb : SB ≤ 1000 := by have := HFIT.out.sb; rw [HSB.out] at this; omega
  have hSAb : SA ≤ 1000 := by have := HFIT.out.sa; rw [HSA.out] at this; omega
  have hq2' : decide (100000 < (Q2 : Int) + (Q3 : Int) + (Q4 : Int)) = false := by simp; omega
  have HAR : Hid (∀ x, x ∈ a.arcs → (0 ≤ x.fr ∧ x.fr ≤ 5000) ∧ 0 ≤ x.tgt ∧ x.tgt ≤ 5000) := fun x hx => by have := HGA.out.arc x hx; have := HGA.out.s2; unfold ArcOk at *; omega
  have HBR : Hid (∀ x, x ∈ b.arcs → (0 ≤ x.fr ∧ x.fr ≤ 5000) ∧ 0 ≤ x.tgt ∧ x.tgt ≤ 5000) := fun x hx => by have := HGB.out.arc x hx; have := HGB.out.s2; unfold ArcOk at *; omega
  go_enter Try.func28, Try.ntmps28
  go_wp2_with fail
  generalize hW : World.alloc (World.alloc (World.alloc (World.alloc w _) _) _) _ = W
  have HW : Hid (Bld 29 W (w.heap.size + 1 + 1 + 1) (w.heap.size + 1 + 1 + 1) (.slice none 0 0) (.slice none 0 0) ⟨Q1, [], []⟩) := by
    rw [← hW]
    refine ⟨?_, World.ownsRow_nil _ _ _ _, World.ownsRow_nil _ _ _ _, by decide, by decide, by omega⟩
    have := heap_alloc_new (World.alloc (World.alloc (World.alloc w (.cells #[.int .i64 SA, .slice A n c, .slice A' n' c'] 29)) (.cells #[.int .i64 SB, .slice D m d, .slice D' m' d'] 29)) (.cells #[.int .i64 0, .slice none 0 0, .slice none 0 0] 29)) (.cells #[.int .i64 Q1, .slice none 0 0, .slice none 0 0] 29)
    simpa using this
  have HR : Hid (FBlk W (w.heap.size + 1 + 1) (.int .i64 0) (.slice none 0 0) (.slice none 0 0)) := by
    rw [← hW]
    refine (Below.heap_alloc _ _ _ (by simp)).trans ?_
    have := heap_alloc_new (World.alloc (World.alloc w (.cells #[.int .i64 SA, .slice A n c, .slice A' n' c'] 29)) (.cells #[.int .i64 SB, .slice D m d, .slice D' m' d'] 29)) (.cells #[.int .i64 0, .slice none 0 0, .slice none 0 0] 29)
    simpa using this
  have HP2 : Hid (FBlk W (w.heap.size + 1) (.int .i64 SB) (.slice D m d) (.slice D' m' d')) := by
    rw [← hW]
    refine (Below.heap_alloc _ _ _ (by first | omega | (simp; done) | (simp; omega))).trans ((Below.heap_alloc _ _ _ (by first | omega | (simp; done) | (simp; omega))).trans ?_)
    have := heap_alloc_new (World.alloc w (.cells #[.int .i64 SA, .slice A n c, .slice A' n' c'] 29)) (.cells #[.int .i64 SB, .slice D m d, .slice D' m' d'] 29)
    simpa using this
  have HP1 : Hid (FBlk W w.heap.size (.int .i64 SA) (.slice A n c) (.slice A' n' c')) := by
    rw [← hW]
    exact (Below.heap_alloc _ _ _ (by first | omega | (simp; done) | (simp; omega))).trans ((Below.heap_alloc _ _ _ (by first | omega | (simp; done) | (simp; omega))).trans ((Below.heap_alloc _ _ _ (by first | omega | (simp; done) | (simp; omega))).trans (heap_alloc_new w _)))
  have HB2 : Hid (Below w.heap.size w W) := by rw [← hW]; repeat (first | assumption | exact Below.refl _ _ | refine Below.alloc ?_ (by first | omega | (simp; done) | (simp; omega)) _ | refine Below.drew ?_ | refine below_drewN ?_ _ | refine Below.setCell ?_ (by first | omega | (simp; done) | (simp; omega)) _)
  clear hW HA HF KA KF
  obtain ⟨base, hbase⟩ : ∃ base, base = w.heap.size + 1 + 1 + 1 := ⟨_, rfl⟩
  rw [← hbase] at HW ⊢
  have hlw : w.heap.size + 2 < base := by omega
  clear hbase
  have hbW : base ≤ W.heap.size := by have := HW.out.lt; omega
  go_loopw [61] (fun i wr => ∃ k : Nat, k ≤ n ∧ i = .int .i64 k ∧ Hid (∃ va, Bld 29 wr base base va (.slice none 0 0) ⟨Q1, (a.arcs.take k).flatMap (cx b), []⟩) ∧ Hid (Fr base base W wr)) (fun i _ => n - (intOf i).toNat)
  case atStart => exact ⟨0, Nat.zero_le _, rfl, ⟨_, HW.out⟩, Fr.refl _ _ _⟩
  case round =>
    obtain ⟨k, hk, rfl, HBE, HF⟩ := hrel
    obtain ⟨va4, hbb⟩ := HBE.out
    have HB := Lib.hid hbb
    clear hbb HBE
    by_cases hlt : k < n
    · obtain ⟨bb, off, x0, x1, x2, x3, rfl, hbl, hd, e0, e1, e2, e3⟩ := (hr.out k hlt).below (Fr.below HB2.out (by omega) HF.out)
      obtain ⟨⟨xa0, xa1⟩, xb0, xb1⟩ := HAR.out _ (List.mem_of_mem_drop (by rw [hd.out]; exact List.mem_cons_self))
      simp only at xa0 xa1 xb0 xb1
      have hQ := HP2.out.fr HF.out (by omega)
      obtain ⟨q0, q1, q2, _, _, _⟩ := hQ.facts
      have hQl := hQ.lt
      clear hQ
      have HLN : Hid (((a.arcs.take k).flatMap (cx b)).length ≤ 100000) := HFIT.out.one k
      generalize hL0 : (a.arcs.take k).flatMap (cx b) = L0 at HB HLN
      have HL0 := Lib.hid hL0
      clear hL0
      go_wp2_with fail
      generalize hX : World.alloc wr _ = X
      have HX : Hid (CR W base Q1 wr.heap.size x0 x1 x2 x3 L0 X) := by rw [← hX]; exact CR.start HB.out HF.out hbW
      have hgx : w.heap.size + 1 < wr.heap.size := by omega
      clear hX e0 e1 e2 e3 q0 q1 q2 HB
      generalize wr.heap.size = gx at HX hgx ⊢
      obtain ⟨wo, rfl⟩ : ∃ wo : World, wo = wr := ⟨_, rfl⟩
      go_loopw [68] (fun i wx => ∃ j : Nat, j ≤ m ∧ i = .int .i64 j ∧ Hid (CR W base Q1 gx x0 x1 x2 x3 (L0 ++ cxs SB (b.arcs.take j) ⟨x0, x1, x2, x3⟩) wx)) (fun i _ => m - (intOf i).toNat)
      case atStart => exact ⟨0, Nat.zero_le _, rfl, by rw [Hid]; simpa [cxs] using HX.out⟩
      case round =>
        obtain ⟨j, hj, rfl, HC⟩ := hrel
        obtain ⟨vc, hb5, hf5, ha5, hn5, hg5⟩ := HC.out
        obtain ⟨t0, t1, t2, t3⟩ := ha5.cells
        have HFX := Lib.hid hf5
        have hgl := (Array.getElem?_eq_some_iff.1 ha5).1
        have hQ := HP2.out.fr HFX.out (by omega)
        obtain ⟨q0, q1, q2, _, _, _⟩ := hQ.facts
        have hQl := hQ.lt
        clear hQ hb5 hf5 ha5 hn5 hg5
        by_cases hjm : j < m
        · obtain ⟨bb2, off2, y0, y1, y2, y3, rfl, hbl2, hd2, e0, e1, e2, e3⟩ := (kr.out j hjm).below (Fr.below HB2.out (by omega) HFX.out)
          obtain ⟨⟨ya0, ya1⟩, yb0, yb1⟩ := HBR.out _ (List.mem_of_mem_drop (by rw [hd2.out]; exact List.mem_cons_self))
          simp only at ya0 ya1 yb0 yb1
          have HSN : Hid (cxs SB (b.arcs.take (j + 1)) ⟨x0, x1, x2, x3⟩ = cxs SB (b.arcs.take j) ⟨x0, x1, x2, x3⟩ ++ cxy SB ⟨x0, x1, x2, x3⟩ ⟨y0, y1, y2, y3⟩) := by rw [Hid, take_of_drop hd2.out, cxs_snoc]
          have HLJ : Hid ((L0 ++ cxs SB (b.arcs.take j) ⟨x0, x1, x2, x3⟩).length ≤ 800000) := by
            have h1 := cxs_le SB (b.arcs.take j) ⟨x0, x1, x2, x3⟩
            have h2 := HLN.out
            have h3 := HFIT.out.m
            have h4 := List.length_take_le j b.arcs
            have h5 := List.length_take_le' j b.arcs
            simp only [Hid, List.length_append]; omega
          by_cases hx2 : x2 = 0
          · have hx2' : (x2 != 0) = false := by simp [hx2]
            have HCE : Hid (cxy SB ⟨x0, x1, x2, x3⟩ ⟨y0, y1, y2, y3⟩ = []) := by simp [Hid, cxy, hx2]
            clear hx2
            go_wp2_with fail
            go_roundw
            case rel => exact ⟨j + 1, by omega, by go_num, by rw [HSN.out, HCE.out, List.append_nil]; exact HC.out.alloc hbW _⟩
            case measure => simp [intOf]; omega
          · have hx2' : (x2 != 0) = true := by simpa using hx2
            by_cases hxy : x2 = y1
            · have hxy' : (x2 == y1) = true := by simpa using hxy
              have HCE : Hid (cxy SB ⟨x0, x1, x2, x3⟩ ⟨y0, y1, y2, y3⟩ = [put SB x0 y0 x1 y2 x3 y3]) := by simp [Hid, cxy, hxy]; omega
              clear hx2 hxy
              go_wp2_with fail
              refine (put_cr W base (w.heap.size + 1) gx x0 x1 x2 x3 _ Q1 SB _ _ x0 y0 x1 y2 x3 y3 _ (HC.out.alloc hbW _) HP2.out (by omega) HLJ.out (by omega) ⟨xa0, xa1⟩ ⟨ya0, ya1⟩ ⟨xb0, xb1⟩ ⟨yb0, yb1⟩).mono ?_
              rintro e w7 ⟨rfl, hc7⟩
              have HC7 := Lib.hid hc7
              clear hc7
              go_wp2_with fail
              go_roundw
              case rel => exact ⟨j + 1, by omega, by go_num, by rw [HSN.out, HCE.out, ← List.append_assoc]; exact HC7.out⟩
              case measure => simp [intOf]; omega
            · have hxy' : (x2 == y1) = false := by simpa using hxy
              have HCE : Hid (cxy SB ⟨x0, x1, x2, x3⟩ ⟨y0, y1, y2, y3⟩ = []) := by simp [Hid, cxy, hxy]
              clear hx2 hxy
              go_wp2_with fail
              go_roundw
              case rel => exact ⟨j + 1, by omega, by go_num, by rw [HSN.out, HCE.out, List.append_nil]; exact HC.out.alloc hbW _⟩
              case measure => simp [intOf]; omega
        · have HCM : Hid (CR W base Q1 gx x0 x1 x2 x3 (L0 ++ cxs SB b.arcs ⟨x0, x1, x2, x3⟩) wr) := by
            have := HC.out; rw [List.take_of_length_le (by rw [HM.out]; omega)] at this; exact this
          obtain ⟨wo2, rfl⟩ : ∃ wo2 : World, wo2 = wr := ⟨_, rfl⟩
          have HLM : Hid ((L0 ++ cxs SB b.arcs ⟨x0, x1, x2, x3⟩).length ≤ 300000) := by
            have h1 := cxs_le SB b.arcs ⟨x0, x1, x2, x3⟩
            have h2 := HLN.out
            have h3 := HFIT.out.m
            simp only [Hid, List.length_append]; omega
          generalize hL1 : L0 ++ cxs SB b.arcs ⟨x0, x1, x2, x3⟩ = L1 at HCM HLM
          have HL1 := Lib.hid hL1
          clear hL1
          go_wp2_with fail
          go_loopw [99] (fun i wx => ∃ j : Nat, j ≤ SB ∧ i = .int .i64 j ∧ Hid (CR W base Q1 gx x0 x1 x2 x3 (L1 ++ cxr SB j ⟨x0, x1, x2, x3⟩) wx)) (fun i _ => SB - (intOf i).toNat)
          case atStart => exact ⟨0, Nat.zero_le _, rfl, by rw [Hid]; simpa [cxr] using HCM.out⟩
          case round =>
            obtain ⟨j, hj, rfl, HC⟩ := hrel
            obtain ⟨vc, hb5, hf5, ha5, hn5, hg5⟩ := HC.out
            obtain ⟨t0, t1, t2, t3⟩ := ha5.cells
            have HFX := Lib.hid hf5
            have HBX := Lib.hid hb5
            clear hb5 hf5 ha5 hn5 hg5
            by_cases hjm : j < SB
            · have HLJ : Hid ((L1 ++ cxr SB j ⟨x0, x1, x2, x3⟩).length ≤ 800000) := by
                have h1 := cxr_le SB j ⟨x0, x1, x2, x3⟩
                have h2 := HLM.out
                simp only [Hid, List.length_append]; omega
              by_cases hx2 : x2 = 0
              · have hx2' : (x2 == 0) = true := by simpa using hx2
                have HCE : Hid (cxq SB ⟨x0, x1, x2, x3⟩ j = [put SB x0 j x1 0 x3 j]) := by simp [Hid, cxq, hx2]
                clear hx2
                go_wp2_with fail
                refine (put_cr W base (w.heap.size + 1) gx x0 x1 x2 x3 _ Q1 SB _ _ x0 j x1 0 x3 j _ HC.out HP2.out (by omega) HLJ.out (by omega) ⟨xa0, xa1⟩ (by omega) ⟨xb0, xb1⟩ (by omega)).mono ?_
                rintro e w7 ⟨rfl, hc7⟩
                have HC7 := Lib.hid hc7
                clear hc7
                go_wp2_with fail
                go_roundw
                case rel => exact ⟨j + 1, by omega, by go_num, by rw [cxr_succ, HCE.out, ← List.append_assoc]; exact HC7.out⟩
                case measure => simp [intOf]; omega
              · have hx2' : (x2 == 0) = false := by simpa using hx2
                have HCE : Hid (cxq SB ⟨x0, x1, x2, x3⟩ j = []) := by simp [Hid, cxq, hx2]
                clear hx2
                go_wp2_with fail
                go_roundw
                case rel => exact ⟨j + 1, by omega, by go_num, by rw [cxr_succ, HCE.out, List.append_nil]; exact HC.out⟩
                case measure => simp [intOf]; omega
            · have HFIN : Hid ((a.arcs.take (k + 1)).flatMap (cx b) = L1 ++ cxr SB j ⟨x0, x1, x2, x3⟩) := by
                have hjs : j = SB := by omega
                rw [Hid, take_of_drop hd.out, List.flatMap_append, HL0.out, ← HL1.out, hjs]
                simp [cx, HSB.out]
              go_wp2_with fail
              go_roundw
              case rel => exact ⟨k + 1, by omega, by go_num, by rw [HFIN.out]; exact ⟨_, HBX.out⟩, HFX.out⟩
              case measure => simp [intOf]; omega
    · have HB6 : Hid (Bld 29 wr base base va4 (.slice none 0 0) ⟨Q1, a.arcs.flatMap (cx b), []⟩) := by
        have := HB.out; rw [List.take_of_length_le (by rw [HN.out]; omega)] at this; exact this
      have HLN : Hid ((a.arcs.flatMap (cx b)).length ≤ 100000) := by have := HFIT.out.one a.arcs.length; rw [List.take_length] at this; exact this
      clear HB
      obtain ⟨wo, rfl⟩ : ∃ wo : World, wo = wr := ⟨_, rfl⟩
      have hQ := HP2.out.fr HF.out (by omega)
      obtain ⟨q0, q1, q2, _, _, _⟩ := hQ.facts
      have hQl := hQ.lt
      clear hQ
      generalize hL0 : a.arcs.flatMap (cx b) = L0 at HB6 HLN
      have HL0 := Lib.hid hL0
      clear hL0
      go_wp2_with fail
      clear q0 q1 q2
      go_loopw [120] (fun i wr => ∃ k : Nat, k ≤ m ∧ i = .int .i64 k ∧ Hid (∃ va, Bld 29 wr base base va (.slice none 0 0) ⟨Q1, L0 ++ (b.arcs.take k).flatMap (cy SB SA), []⟩) ∧ Hid (Fr base base W wr)) (fun i _ => m - (intOf i).toNat)
      case atStart => exact ⟨0, Nat.zero_le _, rfl, ⟨_, by simpa using HB6.out⟩, HF.out⟩
      case round =>
        obtain ⟨k, hk, rfl, HBE, HF⟩ := hrel
        obtain ⟨va4, hbb⟩ := HBE.out
        have HB := Lib.hid hbb
        clear hbb HBE
        by_cases hlt : k < m
        · obtain ⟨bb, off, x0, x1, x2, x3, rfl, hbl, hd, e0, e1, e2, e3⟩ := (kr.out k hlt).below (Fr.below HB2.out (by omega) HF.out)
          obtain ⟨⟨xa0, xa1⟩, xb0, xb1⟩ := HBR.out _ (List.mem_of_mem_drop (by rw [hd.out]; exact List.mem_cons_self))
          simp only at xa0 xa1 xb0 xb1
          have hQ := HP1.out.fr HF.out (by omega)
          obtain ⟨q0, q1, q2, _, _, _⟩ := hQ.facts
          have hQl := hQ.lt
          clear hQ
          have HLM : Hid ((L0 ++ (b.arcs.take k).flatMap (cy SB SA)).length ≤ 200000) := by
            have h1 := HFIT.out.two k
            rw [HSB.out, HSA.out, Int.toNat_natCast] at h1
            have h2 := HLN.out
            simp only [Hid, List.length_append]; omega
          generalize hL1 : L0 ++ (b.arcs.take k).flatMap (cy SB SA) = L1 at HB HLM
          have HL1 := Lib.hid hL1
          clear hL1
          go_wp2_with fail
          generalize hX : World.alloc wr _ = X
          have HX : Hid (CR W base Q1 wr.heap.size x0 x1 x2 x3 L1 X) := by rw [← hX]; exact CR.start HB.out HF.out hbW
          have hgx : w.heap.size < wr.heap.size := by omega
          clear hX e0 e1 e2 e3 q0 q1 q2 HB
          generalize wr.heap.size = gx at HX hgx ⊢
          obtain ⟨wo3, rfl⟩ : ∃ wo3 : World, wo3 = wr := ⟨_, rfl⟩
          go_loopw [126] (fun i wx => ∃ j : Nat, j ≤ SA ∧ i = .int .i64 j ∧ Hid (CR W base Q1 gx x0 x1 x2 x3 (L1 ++ cy SB j ⟨x0, x1, x2, x3⟩) wx)) (fun i _ => SA - (intOf i).toNat)
          case atStart => exact ⟨0, Nat.zero_le _, rfl, by rw [Hid]; simpa [cy] using HX.out⟩
          case round =>
            obtain ⟨j, hj, rfl, HC⟩ := hrel
            obtain ⟨vc, hb5, hf5, ha5, hn5, hg5⟩ := HC.out
            obtain ⟨t0, t1, t2, t3⟩ := ha5.cells
            have HFX := Lib.hid hf5
            have HBX := Lib.hid hb5
            clear hb5 hf5 ha5 hn5 hg5
            by_cases hjm : j < SA
            · have HLJ : Hid ((L1 ++ cy SB j ⟨x0, x1, x2, x3⟩).length ≤ 800000) := by
                have h1 := cy_le SB j ⟨x0, x1, x2, x3⟩
                have h2 := HLM.out
                simp only [Hid, List.length_append]; omega
              by_cases hx1 : x1 = 0
              · have hx1' : (x1 == 0) = true := by simpa using hx1
                have HCE : Hid (cyp SB ⟨x0, x1, x2, x3⟩ j = [put SB j x0 0 x2 j x3]) := by simp [Hid, cyp, hx1]
                clear hx1
                go_wp2_with fail
                refine (put_cr W base (w.heap.size + 1) gx x0 x1 x2 x3 _ Q1 SB _ _ j x0 0 x2 j x3 _ HC.out HP2.out (by omega) HLJ.out (by omega) (by omega) ⟨xa0, xa1⟩ (by omega) ⟨xb0, xb1⟩).mono ?_
                rintro e w7 ⟨rfl, hc7⟩
                have HC7 := Lib.hid hc7
                clear hc7
                go_wp2_with fail
                go_roundw
                case rel => exact ⟨j + 1, by omega, by go_num, by rw [cy_succ, HCE.out, ← List.append_assoc]; exact HC7.out⟩
                case measure => simp [intOf]; omega
              · have hx1' : (x1 == 0) = false := by simpa using hx1
                have HCE : Hid (cyp SB ⟨x0, x1, x2, x3⟩ j = []) := by simp [Hid, cyp, hx1]
                clear hx1
                go_wp2_with fail
                go_roundw
                case rel => exact ⟨j + 1, by omega, by go_num, by rw [cy_succ, HCE.out, List.append_nil]; exact HC.out⟩
                case measure => simp [intOf]; omega
            · have HFIN : Hid (L0 ++ (b.arcs.take (k + 1)).flatMap (cy SB SA) = L1 ++ cy SB j ⟨x0, x1, x2, x3⟩) := by
                have hjs : j = SA := by omega
                rw [Hid, take_of_drop hd.out, List.flatMap_append, ← List.append_assoc, HL1.out, hjs]
                simp
              go_wp2_with fail
              go_roundw
              case rel => exact ⟨k + 1, by omega, by go_num, by rw [HFIN.out]; exact ⟨_, HBX.out⟩, HFX.out⟩
              case measure => simp [intOf]; omega
        · have HB7 : Hid (Bld 29 wr base base va4 (.slice none 0 0) ⟨Q1, (compF a b).arcs, []⟩) := by
            have h := HB.out
            rw [List.take_of_length_le (by rw [HM.out]; omega)] at h
            have e : (compF a b).arcs = L0 ++ b.arcs.flatMap (cy SB SA) := by rw [← HL0.out]; simp only [compF, HSB.out, HSA.out, Int.toNat_natCast]
            rw [Hid, e]; exact h
          clear HB HB6
          obtain ⟨wo4, rfl⟩ : ∃ wo4 : World, wo4 = wr := ⟨_, rfl⟩
          have hQ := HP1.out.fr HF.out (by omega)
          obtain ⟨q0, q1, q2, _, _, _⟩ := hQ.facts
          have hQl := hQ.lt
          clear hQ
          have HFL : Hid (n' ≤ SA ∧ m' ≤ SB) := by
            have h1 := final_len HGA.out.ord HGA.out.fin
            have h2 := final_len HGB.out.ord HGB.out.fin
            rw [HN'.out, HSA.out] at h1
            rw [HM'.out, HSB.out] at h2
            exact ⟨by omega, by omega⟩
          have HQN : Hid (SA * SB = Q1) := by rw [Hid]; exact_mod_cast hQ1
          go_wp2_with fail
          clear q0 q1 q2
          go_loopw [147] (fun i wr => ∃ k : Nat, k ≤ n' ∧ i = .int .i64 k ∧ Hid (∃ va vf, Bld 29 wr base base va vf ⟨Q1, (compF a b).arcs, compFin SB (a.final.take k) b.final⟩) ∧ Hid (Fr base base W wr)) (fun i _ => n' - (intOf i).toNat)
          case atStart => exact ⟨0, Nat.zero_le _, rfl, ⟨_, _, HB7.out⟩, HF.out⟩
          case round =>
            obtain ⟨k, hk, rfl, HBE, HF⟩ := hrel
            obtain ⟨va5, vf5, hbb⟩ := HBE.out
            have HB := Lib.hid hbb
            clear hbb HBE
            by_cases hlt : k < n'
            · obtain ⟨bb, off, x, rfl, hbl, hd, e0⟩ := (hr'.out k hlt).below (Fr.below HB2.out (by omega) HF.out)
              obtain ⟨xa0, xa1⟩ := HGA.out.fin x (List.mem_of_mem_drop (by rw [hd.out]; exact List.mem_cons_self))
              rw [HSA.out] at xa1
              obtain ⟨r, hr0⟩ : ∃ r : Int, x * (SB : Int) = r := ⟨_, rfl⟩
              have hr1 : 0 ≤ r := by rw [← hr0]; exact Int.mul_nonneg xa0 (by omega)
              have hr2 : r ≤ 1000000 := by
                have := Int.mul_le_mul (show x ≤ 1000 by omega) (show (SB : Int) ≤ 1000 by omega) (by omega) (by omega : (0:Int) ≤ 1000)
                rw [hr0] at this; omega
              have hQ := HP2.out.fr HF.out (by omega)
              obtain ⟨q0, q1, q2, _, _, _⟩ := hQ.facts
              have hQl := hQ.lt
              clear hQ
              obtain ⟨wo5, rfl⟩ : ∃ wo5 : World, wo5 = wr := ⟨_, rfl⟩
              have HLF : Hid ((compFin SB (a.final.take k) b.final).length ≤ 1000) := by
                rw [Hid, compFin_len]
                have h1 := List.length_take_le k a.final
                have h2 := List.length_take_le' k a.final
                have h3 : (a.final.take k).length * b.final.length ≤ SA * SB := Nat.mul_le_mul (by rw [HN'.out] at h2; have := HFL.out.1; omega) (by rw [HM'.out]; exact HFL.out.2)
                rw [HQN.out] at h3; omega
              generalize hL2 : compFin SB (a.final.take k) b.final = L2 at HB HLF
              have HL2 := Lib.hid hL2
              clear hL2
              go_wp2_with fail
              clear q0 q1 q2
              go_loopw [154] (fun i wx => ∃ j : Nat, j ≤ m' ∧ i = .int .i64 j ∧ Hid (∃ va vf, Bld 29 wx base base va vf ⟨Q1, (compF a b).arcs, L2 ++ (b.final.take j).map (fun q => r + q)⟩) ∧ Hid (Fr base base W wx)) (fun i _ => m' - (intOf i).toNat)
              case atStart => exact ⟨0, Nat.zero_le _, rfl, ⟨_, _, by simpa using HB.out⟩, HF.out⟩
              case round =>
                obtain ⟨j, hj, rfl, HBE, HFX⟩ := hrel
                obtain ⟨va6, vf6, hbb⟩ := HBE.out
                have HBX := Lib.hid hbb
                clear hbb HBE
                by_cases hjm : j < m'
                · obtain ⟨bb2, off2, y, rfl, hbl2, hd2, f0⟩ := (kr'.out j hjm).below (Fr.below HB2.out (by omega) HFX.out)
                  obtain ⟨ya0, ya1⟩ := HGB.out.fin y (List.mem_of_mem_drop (by rw [hd2.out]; exact List.mem_cons_self))
                  rw [HSB.out] at ya1
                  have hQ := HP2.out.fr HFX.out (by omega)
                  obtain ⟨q0, q1, q2, _, _, _⟩ := hQ.facts
                  clear hQ
                  have c2 := HBX.out.c2
                  have hBl := HBX.out.lt
                  obtain ⟨mm, hmm⟩ : ∃ mm, (L2 ++ (b.final.take j).map (fun q => r + q)).length = mm := ⟨_, rfl⟩
                  have hmb : mm ≤ 1000000 := by
                    have h1 := HLF.out
                    have h2 := List.length_take_le j b.final
                    have h3 := HFL.out.2
                    simp only [List.length_append, List.length_map] at hmm
                    omega
                  have HMM := Lib.hid hmm
                  clear hmm
                  go_wp2_with (at_builtin; refine wpList_app_int rfl (.tmp 159) (.tmp 166) rfl base vf6 (L2 ++ (b.final.take j).map (fun q => r + q)) rfl HBX.out.oi (r + y) mm HMM hmb (by omega) rfl ?_; intro g' cap w9 ho hg hgr; obtain ⟨k1, k2⟩ := HBX.out.midF hgr; have HO := Lib.hid ho; clear ho)
                  go_roundw
                  case rel =>
                    have hp := HBX.out.pushedF hgr HO.out
                    have h3 := hp.1
                    have e1 : (b.final.take j).map (fun q => r + q) ++ [r + y] = (b.final.take (j + 1)).map (fun q => r + q) := by rw [take_of_drop hd2.out]; simp
                    rw [List.append_assoc, e1] at h3
                    exact ⟨j + 1, by omega, by go_num, ⟨_, _, h3⟩, HFX.out.trans hp.2⟩
                  case measure => simp [intOf]; omega
                · have HFIN : Hid (compFin SB (a.final.take (k + 1)) b.final = L2 ++ (b.final.take j).map (fun q => r + q)) := by
                    rw [Hid, take_of_drop hd.out, compFin_snoc, HL2.out, List.take_of_length_le (by rw [HM'.out]; omega), hr0]
                  go_wp2_with fail
                  go_roundw
                  case rel => exact ⟨k + 1, by omega, by go_num, by rw [HFIN.out]; exact ⟨_, _, HBX.out⟩, HFX.out⟩
                  case measure => simp [intOf]; omega
            · have HBF : Hid (Bld 29 wr base base va5 vf5 (compF a b)) := by
                have h := HB.out
                rw [List.take_of_length_le (by rw [HN'.out]; omega)] at h
                have e : compF a b = ⟨Q1, (compF a b).arcs, compFin SB a.final b.final⟩ := by simp only [compF, HSA.out, HSB.out, hQ1]
                rw [Hid, e]; exact h
              have hRw := HR.out.fr HF.out (by omega)
              obtain ⟨A3, n3, c3, rfl, z1, z2, _, _⟩ := HB.out.oa.rd.op
              obtain ⟨A4, n4, c4, rfl, z3, z4, _, _⟩ := HB.out.oi.rd.op
              obtain ⟨r0, r1, r2, f0, f1, f2⟩ := hRw.facts
              have d0 := HB.out.c0
              have d1 := HB.out.c1
              have d2 := HB.out.c2
              have HRW := Lib.hid hRw
              clear hRw HB
              go_wp2_with fail
              refine bodyPost_ret (v := .tuple #[.agg #[.int .i64 Q1, .slice A3 n3 c3, .slice A4 n4 c4], .int .i64 0]) ?_ rfl ?_
              · simp [results, Try.results28, go_sem, r0, r1, r2]
              have e : ((Q1 : Nat) : Int) = (compF a b).states := by simp only [compF, HSA.out, HSB.out, hQ1]
              refine ⟨⟨_, rfl, ?_⟩, ?_⟩
              · rw [e]; exact OwnF.past HBF.out HRW.out _ _ _ (by omega)
              · exact (((Fr.below HB2.out (by omega) HF.out).setCell (by first | omega | (simp; done) | (simp; omega)) _).setCell (by first | omega | (simp; done) | (simp; omega)) _).setCell (by first | omega | (simp; done) | (simp; omega)) _
end Go.Proofs.Ytmeppkkoepmlnaa
