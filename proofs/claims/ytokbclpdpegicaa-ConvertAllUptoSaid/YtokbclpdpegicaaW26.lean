/-
  begins: the places of a word that units reach.
-/
import Derived.Test.YtokbclpdpegicaaW25
namespace Go.Proofs.Ytokbclpdpegicaa
open Go.ChangeShapes Go.WideShapes Go.ChangeAt Go.RowKit
inductive Reach (us : List PU) (ws : List Int) : Nat → Prop
  | zero : Reach us ws 0
  | step {a : Nat} {u : PU} (h : Reach us ws a) (hu : u ∈ us) (hp : preR (ws.drop a) u.s = true) : Reach us ws (a + u.s.length)
/-- the mark of a place a is handed on by the unit u -/
def Hands (ws : List Int) (M : List Bool) (a : Nat) (u : PU) : Prop := M.getD a false = true → preR (ws.drop a) u.s = true → M.getD (a + u.s.length) false = true
structure GoodR (us : List PU) (ws : List Int) (M : List Bool) : Prop where
  len : M.length = ws.length + 1
  zero : M.getD 0 false = true
  real : ∀ a, M.getD a false = true → Reach us ws a
  hands : ∀ a u, a < ws.length → u ∈ us → Hands ws M a u
/-- the marks while the place a is looked at, behind k units -/
structure PartR (us : List PU) (ws : List Int) (M : List Bool) (a k : Nat) : Prop where
  len : M.length = ws.length + 1
  zero : M.getD 0 false = true
  real : ∀ a, M.getD a false = true → Reach us ws a
  old : ∀ b u, b < a → u ∈ us → Hands ws M b u
  now : ∀ u, u ∈ us.take k → Hands ws M a u
theorem getD_set_true (M : List Bool) (j i : Nat) (h : j < M.length) : (M.set j true).getD i false = (if j = i then true else M.getD i false) := by
  simp only [List.getD_eq_getElem?_getD, List.getElem?_set]
  by_cases e : j = i
  · subst e; simp [h]
  · simp [e]
theorem Hands.set_ {ws : List Int} {M : List Bool} {a : Nat} {u : PU} {j : Nat} (h : Hands ws M a u) (hj : j < M.length) (hne : j ≠ a) : Hands ws (M.set j true) a u := by
  intro h1 h2
  rw [getD_set_true M j _ hj, if_neg hne] at h1
  rw [getD_set_true M j _ hj]
  split
  · rfl
  · exact h h1 h2
theorem PartR.next {us : List PU} {ws : List Int} {M : List Bool} {a k : Nat} {p : PU} (h : PartR us ws M a k) (hp : us[k]? = some p) (hn : Hands ws M a p) : PartR us ws M a (k + 1) := by
  refine ⟨h.len, h.zero, h.real, h.old, fun u hu => ?_⟩
  rw [List.take_add_one, hp] at hu
  rcases List.mem_append.1 hu with h1 | h1
  · exact h.now u h1
  · simp at h1; subst h1; exact hn
theorem PartR.mark {us : List PU} {ws : List Int} {M : List Bool} {a k : Nat} {p : PU} (h : PartR us ws M a k) (hp : us[k]? = some p) (ha : M.getD a false = true) (hpre : preR (ws.drop a) p.s = true) (hs : 1 ≤ p.s.length) (hl : a + p.s.length ≤ ws.length) : PartR us ws (M.set (a + p.s.length) true) a (k + 1) := by
  have hj : a + p.s.length < M.length := by rw [h.len]; omega
  refine ⟨by rw [List.length_set]; exact h.len, ?_, ?_, fun b u hb hu => (h.old b u hb hu).set_ hj (by omega), fun u hu => ?_⟩
  · rw [getD_set_true M _ _ hj, if_neg (by omega)]; exact h.zero
  · intro b hb
    rw [getD_set_true M _ _ hj] at hb
    split at hb
    · rename_i e; rw [← e]; exact (h.real a ha).step (List.mem_of_getElem? hp) hpre
    · exact h.real b hb
  · rw [List.take_add_one, hp] at hu
    rcases List.mem_append.1 hu with h1 | h1
    · exact (h.now u h1).set_ hj (by omega)
    · simp at h1; subst h1
      intro _ _
      rw [getD_set_true M _ _ hj, if_pos rfl]
theorem PartR.over {us : List PU} {ws : List Int} {M : List Bool} {a k : Nat} (h : PartR us ws M a k) (hk : us.length ≤ k) : PartR us ws M (a + 1) 0 := by
  refine ⟨h.len, h.zero, h.real, fun b u hb hu => ?_, fun u hu => by simp at hu⟩
  by_cases hba : b < a
  · exact h.old b u hba hu
  · obtain rfl : b = a := by omega
    exact h.now u (by rwa [List.take_of_length_le hk])
theorem PartR.done {us : List PU} {ws : List Int} {M : List Bool} {a : Nat} (h : PartR us ws M a 0) (ha : ws.length ≤ a) : GoodR us ws M :=
  ⟨h.len, h.zero, h.real, fun b u hb hu => h.old b u (by omega) hu⟩
theorem partR_new (us : List PU) (ws : List Int) : PartR us ws ((List.replicate (ws.length + 1) false).set 0 true) 0 0 := by
  refine ⟨by simp, by rw [getD_set_true _ _ _ (by simp), if_pos rfl], fun b hb => ?_, fun b u hb => absurd hb (by omega), fun u hu => by simp at hu⟩
  rw [getD_set_true _ _ _ (by simp)] at hb
  split at hb
  · rename_i e; rw [← e]; exact .zero
  · simp only [List.getD_eq_getElem?_getD, List.getElem?_replicate] at hb
    split at hb <;> cases hb
/-- the marks that begins returns -/
def RetM (us : List PU) (ws : List Int) (base : Nat) (e : Ending) (w' : World) : Prop := ∃ g M, e = .returned (.slice (some ⟨g, 0, none⟩) (ws.length + 1) (ws.length + 1)) ∧ base ≤ g ∧ Bls w' g M ∧ GoodR us ws M
theorem Bls.below {w w' : World} {g : Nat} {M : List Bool} (h : Bls w g M) (hb : Below w.heap.size w w') : Bls w' g M := (hb.block g h.lt).trans h
theorem make_bools (S : Nat) (hS : S ≤ 1000) (W : World) : (Instr.makeSlice 56 (.int .i64 (S : Int)) (.int .i64 (S : Int))).run Try.prog W = .ok (.slice (some ⟨W.heap.size, 0, none⟩) S S) (W.alloc (.cells (bArr (List.replicate S false)) 4)) := by
  obtain ⟨i0, hi, hz0, hz1, hz2⟩ := info_parts infoB0
  have h := run_make_rowN (P := Try.prog) 56 4 i0 (.bool false) Try.underlying56 hi hz0 .i64 .i64 S S (Nat.le_refl _) (by rw [hz2]; omega) (by omega) W
  rw [hz1, made_bools] at h
  exact h
set_option maxHeartbeats 4000000 in
set_option maxRecDepth 100000 in
theorem begins_any (v vw : Value) (o : PO) (ws : List Int) (w : World) (hv : RdO w v o) (hso : SmO o) (hgd : ∀ p ∈ o.units, GoodU p) (hw : RdI w vw ws) (hlen : ws.length ≤ 24) :
    Calls Try.prog 33 #[v, vw] w fun e w' => RetM o.units ws w.heap.size e w' ∧ Below w.heap.size w w' := by
  obtain ⟨vu, vl, rfl, hu, hl⟩ := hv
  obtain ⟨A, n, c, rfl, hnc, hcm, HN, HR⟩ := hu.op
  obtain ⟨B, m, d, rfl, _, _, _, _⟩ := hl.op
  obtain ⟨Aw, nw, cw, rfl, hnw, _, HNW, _⟩ := hw.op
  have HSO := Lib.hid hso
  have HGD := Lib.hid hgd
  have hn2 : n ≤ 1048576 := by rw [← HN.out]; exact hso.units
  rw [HNW.out] at hlen
  have HRI := Lib.hid hw
  clear hu hl hso hw hgd
  obtain ⟨N, hN⟩ : ∃ N : Nat, (nw : Int) + 1 = (N : Int) := ⟨nw + 1, by simp⟩
  have hmk := make_bools N (by omega)
  have hNn : Hid (N = nw + 1) := by rw [Hid]; omega
  have hNb : N ≤ 25 := by omega
  have hN0 : (0 : Int) < (N : Int) := by omega
  have hm0 : (bArr (List.replicate N false))[0]? = some (.bool false) := by rw [hNn.out]; simp [bArr, List.replicate_succ]
  go_enter Try.func33, Try.ntmps33
  go_upto_region 1 with (fail)
  generalize hW : World.alloc w _ = W
  have HBW : Hid (Below w.heap.size w W) := by rw [← hW]; repeat (first | assumption | exact Below.refl _ _ | refine Below.alloc ?_ (by first | omega | (simp; done) | (simp; omega)) _ | refine Below.drew ?_ | refine below_drewN ?_ _ | refine Below.setCell ?_ (by first | omega | (simp; done) | (simp; omega)) _)
  have z1 : W.cell? ⟨w.heap.size, 1, none⟩ = some (.slice A n c) := by rw [← hW]; simp [go_sem]
  have hgW : w.heap.size < W.heap.size := by rw [← hW]; simp
  have HZ : Hid (∀ W' : World, Below W.heap.size W W' → W'.cell? ⟨w.heap.size, 1, none⟩ = some (.slice A n c)) := fun W' h => cell_keep hgW z1 h
  have HRW : Hid (∀ W' : World, Below W.heap.size W W' → ∀ k, k < n → UAt W' A o.units k) := fun W' h k hk => ((HR.out k hk).below HBW.out).below h
  have HRI : Hid (∀ W' : World, Below W.heap.size W W' → RdI W' (.slice Aw nw cw) ws) := fun W' h => (HRI.out.below HBW.out).below h
  have HBO : Hid (∀ W' : World, Below W.heap.size W W' → Below w.heap.size w W') := fun W' h => bchain HBW.out h
  clear hW HR HBW hgW z1
  have HUN : Hid (∀ k, k < n → ∃ p, o.units[k]? = some p) := fun k hk => ⟨_, List.getElem?_eq_getElem (by rw [HN.out]; exact hk)⟩
  generalize hg : w.heap.size = g at HZ HBO ⊢
  have HG := Lib.hid hg
  clear hg
  go_wp2_with fail
  generalize hX : World.alloc W _ = X
  have HBX : Hid (Below W.heap.size W X) := by rw [← hX]; exact (Below.refl _ _).alloc (Nat.le_refl _) _
  have HMX : Hid (Bls X W.heap.size ((List.replicate (ws.length + 1) false).set 0 true)) := by
    rw [← hX, bArr_set, hNn.out, HNW.out]
    exact heap_alloc_new W _
  clear hX hmk hm0
  go_loopg [18] nw (fun gk i wr => ∃ (a : Nat) (M : List Bool), a ≤ nw ∧ gk = nw - a ∧ i = .int .i64 a ∧ Hid (Bls wr W.heap.size M) ∧ Hid (PartR o.units ws M a 0) ∧ Hid (Below W.heap.size W wr))
  case atStart => exact ⟨0, _, Nat.zero_le _, rfl, rfl, HMX.out, partR_new _ _, HBX.out⟩
  case round =>
    obtain ⟨a, M, ha, hgk, rfl, HM, HP, HB⟩ := hrel
    have HGA := Lib.hid hgk
    clear hgk HMX HBX
    by_cases han : a < nw
    · have dan : decide (a < nw) = true := by simpa using han
      have z1 := HZ.out wr HB.out
      go_wp2_with fail
      clear z1
      generalize hwo : wr = wo at HB HM ⊢
      clear hwo
      go_loopg [24] n (fun gk i wr => ∃ (k : Nat) (M : List Bool), k ≤ n ∧ gk = n - k ∧ i = .int .i64 k ∧ Hid (Bls wr W.heap.size M) ∧ Hid (PartR o.units ws M a k) ∧ Hid (Below W.heap.size W wr))
      case atStart => exact ⟨0, _, Nat.zero_le _, rfl, rfl, HM.out, HP.out, HB.out⟩
      case round =>
        obtain ⟨k, M, hk, hgk, rfl, HM, HP, HB3⟩ := hrel
        have HGK := Lib.hid hgk
        clear hgk
        by_cases hlt : k < n
        · obtain ⟨p, hp⟩ := HUN.out k hlt
          obtain ⟨b, off, B2, m2, c2, hA, hbl, c0, c1, hrd, hnp⟩ := (HRW.out wr HB3.out k hlt).op hp
          subst hA
          have HPK := Lib.hid hp
          have HGP := Lib.hid (HGD.out p (List.mem_of_getElem? hp))
          have hm3 : m2 ≤ 3 := by have := HGP.out.2.2; rw [hnp.out] at this; exact this
          have dkn : decide (k < n) = true := by simpa using hlt
          have hml : M.length = nw + 1 := by rw [HP.out.len, HNW.out]
          have m1 := HM.out.cell (j := a) (by omega)
          have hgm := HM.out.lt
          clear hp
          go_wp2_with fail
          generalize hX : World.alloc wr _ = X
          have x1 : X.cell? ⟨wr.heap.size, 1, none⟩ = some (.slice B2 m2 c2) := by rw [← hX]; simp [go_sem]
          have HXB : Hid (Below wr.heap.size wr X) := by rw [← hX]; exact (Below.refl _ _).alloc (Nat.le_refl _) _
          have HRX : Hid (RdI X (.slice B2 m2 c2) p.s) := hrd.out.below HXB.out
          have HMX : Hid (Bls X W.heap.size M) := HM.out.below HXB.out
          have HBX : Hid (Below W.heap.size W X) := bchain HB3.out HXB.out
          have m2' := HMX.out.cell (j := a) (by omega)
          have han0 : (0 : Int) ≤ (a : Int) := by omega
          have han1 : (a : Int) < (N : Int) := by omega
          clear hX c0 c1 hrd m1
          cases hma : M.getD a false
          · rw [hma] at m2'
            have HP2 : Hid (PartR o.units ws M a (k + 1)) := HP.out.next HPK.out fun h => by rw [hma] at h; cases h
            clear HP
            go_quiet (fail)
            go_wp2_with fail
            go_roundg (n - (k + 1))
            case measure => have := HGK.out; omega
            case rel => exact ⟨k + 1, M, by omega, rfl, by go_num, Bls.drewN HMX.out _, HP2.out, below_drewN HBX.out _⟩
          rw [hma] at m2'
          by_cases hnx : a + m2 ≤ nw
          rotate_left
          · have HP2 : Hid (PartR o.units ws M a (k + 1)) := HP.out.next HPK.out fun _ h => by
              have := preR_len h
              rw [List.length_drop, HNW.out, hnp.out] at this
              omega
            have dnx : decide ((a : Int) + (m2 : Int) ≤ (nw : Int)) = false := by simp; omega
            have dnx2 : decide (a + m2 ≤ nw) = false := by simpa using hnx
            clear HP hnx
            go_quiet (fail)
            go_wp2_with fail
            go_roundg (n - (k + 1))
            case measure => have := HGK.out; omega
            case rel => exact ⟨k + 1, M, by omega, rfl, by go_num, Bls.drewN HMX.out _, HP2.out, below_drewN HBX.out _⟩
          have dnx : decide ((a : Int) + (m2 : Int) ≤ (nw : Int)) = true := by simp; omega
          have dnx2 : decide (a + m2 ≤ nw) = true := by simpa using hnx
          have hca : ¬ (cw = a) := by omega
          have i1 : (a : Int) ≤ (a : Int) + (m2 : Int) := by omega
          have i2 : (a : Int) + (m2 : Int) ≤ (cw : Int) := by omega
          have HVX := ((HRI.out X HBX.out).drop (k := a) (by omega)).take (k := m2) (by omega)
          rw [if_neg hca] at HVX
          have HVX := Lib.hid HVX
          have HSB : Hid (preR (ws.drop a) p.s = sameB ((ws.drop a).take m2) p.s) := by rw [Hid, preR_same, hnp.out, Bool.eq_iff_iff, sameB_iff, sameB_iff]; exact eq_comm
          cases hsb : sameB ((ws.drop a).take m2) p.s
          · have HP2 : Hid (PartR o.units ws M a (k + 1)) := HP.out.next HPK.out fun _ h => by rw [HSB.out, hsb] at h; cases h
            clear HP HSB
            go_quiet (first | (go_at_call 29; exact Calls.quiet_of (equal_any _ _ _ p.s _ HVX.out HRX.out)))
            go_wp2_with fail
            go_roundg (n - (k + 1))
            case measure => have := HGK.out; omega
            case rel => exact ⟨k + 1, M, by omega, rfl, by go_num, Bls.drewN HMX.out _, HP2.out, below_drewN HBX.out _⟩
          · have HP2 : Hid (PartR o.units ws (M.set (a + m2) true) a (k + 1)) := by
              rw [← hnp.out]
              exact HP.out.mark HPK.out hma (HSB.out.trans hsb) HGP.out.2.1 (by rw [hnp.out, HNW.out]; exact hnx)
            clear HP HSB
            go_quiet (first | (go_at_call 29; exact Calls.quiet_of (equal_any _ _ _ p.s _ HVX.out HRX.out)))
            clear hsb
            generalize hY : World.drewN X _ = Y
            have HMY : Hid (Bls Y W.heap.size M) := by rw [← hY]; exact HMX.out.drewN _
            have HBY : Hid (Below W.heap.size W Y) := by rw [← hY]; exact below_drewN HBX.out _
            have mc := HMY.out.cell (j := a + m2) (by omega)
            have mf := HMY.out.free (a + m2)
            have i3 : (0 : Int) ≤ (a : Int) + (m2 : Int) := by omega
            have i4 : (a : Int) + (m2 : Int) < (N : Int) := by omega
            have hto : ((a : Int) + (m2 : Int)).toNat = a + m2 := by omega
            clear hY x1 m2'
            go_wp2_with fail
            generalize hZ : World.setCell Y _ _ = Z
            have HMZ : Hid (Bls Z W.heap.size (M.set (a + m2) true)) := by rw [← hZ]; exact HMY.out.set_ _
            have HBZ : Hid (Below W.heap.size W Z) := by rw [← hZ]; exact HBY.out.setCell (Nat.le_refl _) _
            clear hZ mc mf
            go_roundg (n - (k + 1))
            case measure => have := HGK.out; omega
            case rel => exact ⟨k + 1, _, by omega, rfl, by go_num, HMZ.out, HP2.out, HBZ.out⟩
        · have dkn : decide (k < n) = false := by simpa using hlt
          go_wp2_with fail
          go_roundg (nw - (a + 1))
          case measure => have := HGA.out; omega
          case rel => exact ⟨a + 1, M, by omega, rfl, by go_num, HM.out, HP.out.over (by rw [HN.out]; omega), HB3.out⟩
    · have dan : decide (a < nw) = false := by simpa using han
      go_wp2_with fail
      go_ret
      exact ⟨⟨W.heap.size, M, by rw [HNW.out, ← hNn.out]; rfl, by have h1 := (HBO.out W (Below.refl _ _)).size; have h2 := HG.out; omega, HM.out, HP.out.done (by rw [HNW.out]; omega)⟩, by rw [HG.out]; exact HBO.out _ HB.out⟩
end Go.Proofs.Ytokbclpdpegicaa
