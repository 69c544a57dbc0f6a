/-
  The closure of Words.
-/
import Derived.Test.YtcmfgblfgldonaaN11
import Derived.Test.YtcmfgblfgldonaaN14
import Derived.Test.YtcmfgblfgldonaaN16
namespace Go.Proofs.Ytcmfgblfgldonaa
open Go.ChangeShapes Go.WideShapes Go.ChangeAt Go.RowKit Go.Shelf
def EnvW (ba be bo bl bw bn S E L len : Nat) (y z : Value) (w : World) : Prop :=
  Boxed w ba 47 (.int .u32 (L : Int)) ∧ Boxed w be 47 (.int .u32 (E : Int)) ∧ Boxed w bl 3 (.int .i64 (len : Int)) ∧
  Boxed w bw 56 (.func (.func 42) #[] #[.pointer (some ⟨ba, 0, none⟩), .pointer (some ⟨be, 0, none⟩), .pointer (some ⟨bo, 0, none⟩), .pointer (some ⟨bl, 0, none⟩), .pointer (some ⟨bw, 0, none⟩), .pointer (some ⟨bn, 0, none⟩)]) ∧ NBlk w bn (.int .i64 S) y z
theorem EnvW.gr {ba be bo bl bw bn S E L len n₀ : Nat} {y z : Value} {w w' : World} (h : EnvW ba be bo bl bw bn S E L len y z w) (g : Gr n₀ w w') : EnvW ba be bo bl bw bn S E L len y z w' :=
  ⟨g.boxed h.1 (by decide) (by decide), g.boxed h.2.1 (by decide) (by decide), g.boxed h.2.2.1 (by decide) (by decide), g.boxed h.2.2.2.1 (by decide) (by decide), g.2 bn _ _ _ h.2.2.2.2 (by decide) (by decide)⟩
def partF (N : PNet) (E L : Nat) (k : Nat) (l : List Int) (now i : Nat) : List (List Int) := match k with
  | 0 => []
  | k + 1 => (clsUp i).flatMap fun c => wF N E L k (l ++ [c]) (afterF N.steps now c)
theorem wF_none (N : PNet) (E L k : Nat) (l : List Int) (now : Nat) (h : now &&& L = 0) : wF N E L k l now = [] := by cases k <;> simp [wF, h]
theorem wF_some (N : PNet) (E L k : Nat) (l : List Int) (now : Nat) (h : now &&& L ≠ 0) : wF N E L k l now = (if (now &&& E) != 0 then [l] else []) ++ partF N E L k l now 20 := by cases k <;> simp [wF, h, partF]
theorem partF_zero (N : PNet) (E L k : Nat) (l : List Int) (now : Nat) : partF N E L k l now 0 = [] := by cases k <;> simp [partF, clsUp]
theorem partF_len (N : PNet) (E L k : Nat) (l : List Int) (now i : Nat) (hi : i ≤ 20) : (partF N E L k l now i).length + 1 ≤ cW k := by
  cases k with
  | zero => simp [partF, cW]
  | succ k =>
    have h := flat_part_len N E L k i l now
    have h2 : i * cW k ≤ 20 * cW k := Nat.mul_le_mul_right _ hi
    simp only [partF, cW]
    omega
theorem partF_len2 (N : PNet) (E L k : Nat) (l : List Int) (now i : Nat) (hi : i < 20) : (partF N E L (k + 1) l now i).length + cW k + 1 ≤ cW (k + 1) := by
  have h := flat_part_len N E L k i l now
  have h2 : (i + 1) * cW k ≤ 20 * cW k := Nat.mul_le_mul_right _ hi
  rw [Nat.add_mul, Nat.one_mul] at h2
  simp only [partF, cW]
  omega
theorem partF_succ (N : PNet) (E L k : Nat) (l : List Int) (now i : Nat) : partF N E L (k + 1) l now (i + 1) = partF N E L (k + 1) l now i ++ wF N E L k (l ++ [(i : Int) + 1]) (afterF N.steps now ((i : Int) + 1)) := flat_succ N E L k i l now
def WalkC (w₀ : World) (N : PNet) (ba be bo bl bw bn S E L len : Nat) (y z : Value) (k : Nat) : Prop :=
  ∀ (l : List Int) (now : Nat) (lv : Value) (w : World) (v : Value) (Ls : List (List Int)), l.length + k = len → now < 2 ^ S → OwnI w w₀.heap.size lv l → Below w₀.heap.size w₀ w → EnvW ba be bo bl bw bn S E L len y z w →
    Boxed w bo 34 v → OwnL w w₀.heap.size v Ls → Ls.length + cW k ≤ 1000000 →
    Calls Try.prog 42 #[lv, .int .u32 (now : Int), .pointer (some ⟨ba, 0, none⟩), .pointer (some ⟨be, 0, none⟩), .pointer (some ⟨bo, 0, none⟩), .pointer (some ⟨bl, 0, none⟩), .pointer (some ⟨bw, 0, none⟩), .pointer (some ⟨bn, 0, none⟩)] w
      fun e w' => (e = .returned (.tuple #[]) ∧ ∃ v', Boxed w' bo 34 v' ∧ OwnL w' w₀.heap.size v' (Ls ++ wF N E L k l now)) ∧ Gr w₀.heap.size w w'
set_option maxHeartbeats 4000000 in
set_option maxRecDepth 100000 in
theorem walk_step (w₀ : World) (N : PNet) (ba be bo bl bw bn S E L len n1 c1 n2 c2 : Nat) (A1 A2 : Option Addr) (hV : RdN w₀ (.agg #[.int .i64 S, .slice A1 n1 c1, .slice A2 n2 c2]) N) (hG : GoodN N) (hS : N.states = (S : Int)) (hE : E < 2 ^ S) (hL : L < 2 ^ S) (hlen : len ≤ 4) (hbo : w₀.heap.size ≤ bo) (k : Nat)
    (ih : ∀ k', k = k' + 1 → WalkC w₀ N ba be bo bl bw bn S E L len (.slice A1 n1 c1) (.slice A2 n2 c2) k') : WalkC w₀ N ba be bo bl bw bn S E L len (.slice A1 n1 c1) (.slice A2 n2 c2) k := by
  intro l now lv w v Ls hlk hnow hlv hB0 hEnv hbv hLs hcap
  have hS24 : S ≤ 24 := by have := hG.s2; omega
  have hn32 := lt32 hS24 hnow
  have hE32 := lt32 hS24 hE
  have hL32 := lt32 hS24 hL
  obtain ⟨_, A, cap, rfl⟩ := own_slice hlv
  have HIH := Lib.hid ih
  have HV := Lib.hid hV
  have HS' := Lib.hid hS
  have HB0 := Lib.hid hB0
  have HEnv := Lib.hid hEnv
  have HBV := Lib.hid hbv
  have HLs := Lib.hid hLs
  have HLK := Lib.hid hlk
  have HCAP := Lib.hid hcap
  have HNOW := Lib.hid hnow
  have hn0 : w₀.heap.size ≤ w.heap.size := hB0.size
  have hl4 : l.length ≤ 4 := by omega
  have hba := bits_and now L hn32 hL32
  have hbe := bits_and now E hn32 hE32
  obtain ⟨m, hm⟩ : ∃ m, l.length = m := ⟨_, rfl⟩
  have HM := Lib.hid hm
  rw [hm] at hl4 hlv ⊢
  have HLV := Lib.hid hlv
  obtain ⟨e0, e1, e2, e3, e4⟩ := id hEnv
  have cA := e0.cell
  have cE := e1.cell
  obtain ⟨x, hx⟩ : ∃ x, now &&& L = x := ⟨_, rfl⟩
  obtain ⟨y, hy⟩ : ∃ y, now &&& E = y := ⟨_, rfl⟩
  have HXX := Lib.hid hx
  have HYY := Lib.hid hy
  rw [hx] at hba
  rw [hy] at hbe
  clear hlv ih hV hS hB0 hEnv hbv hLs hlk hcap hm hx hy e0 e1 e2 e3 e4 hnow
  go_enter Try.func42, Try.ntmps42
  by_cases hx0 : x = 0
  · have hq : ((x : Int) == 0) = true := by simp [hx0]
    have HW := Lib.hid (wF_none N E L k l now (by rw [HXX.out, hx0]))
    clear hx0
    go_wp2_with fail
    first | refine bodyPost_ret (v := .tuple #[]) ?_ rfl ?_ | refine bodyPost_end (v := .tuple #[]) ?_ rfl ?_
    · simp [results, Try.results42, go_sem]
    exact ⟨⟨rfl, v, HBV.out, by rw [HW.out, List.append_nil]; exact HLs.out⟩, Gr.refl _ _⟩
  · have hq : ((x : Int) == 0) = false := by simp [hx0]
    have HW := Lib.hid (wF_some N E L k l now (by rw [HXX.out]; exact hx0))
    clear hx0
    cases hy0 : ((y : Int) != 0)
    · have HW2 : Hid (wF N E L k l now = partF N E L k l now 20) := by rw [Hid, HW.out, HYY.out]; have : (y != 0) = false := by (have h : y = 0 := by simpa using hy0); simp [h]
                                                                       rw [this]; rfl
      have HG2 : Hid (Gr w₀.heap.size w w) := Gr.refl _ _
      have HBV2 := HBV
      obtain ⟨Ls2, hLs2⟩ : ∃ Ls2, Ls2 = Ls := ⟨_, rfl⟩
      have HLs2 : Hid (OwnL w w₀.heap.size v Ls2) := by rw [Hid, hLs2]; exact HLs.out
      have HCAP2 : Hid (Ls2.length ≤ Ls.length + 1) := by rw [Hid, hLs2]; omega
      have HFIN : Hid (Ls ++ wF N E L k l now = Ls2 ++ partF N E L k l now 20) := by rw [Hid, HW2.out, hLs2]
      clear hLs2
      go_wp2_with fail
      clear hy0 hq hba hbe cA cE
      go_loopw [10] (fun c wr => ∃ (i : Nat) (vr : Value), i ≤ 20 ∧ c = .int .i64 ((i : Int) + 1) ∧ Hid (Boxed wr bo 34 vr) ∧ Hid (OwnL wr w₀.heap.size vr (Ls2 ++ partF N E L k l now i)) ∧ Hid (Gr w₀.heap.size w wr)) (fun c _ => 21 - (intOf c).toNat)
      case atStart => exact ⟨0, v, by omega, rfl, HBV2.out, by rw [Hid, partF_zero, List.append_nil]; exact HLs2.out, HG2.out⟩
      case round =>
        obtain ⟨i, vr, hi, rfl, HBR, HLR, HGR⟩ := hrel
        have HER := Lib.hid (HEnv.out.gr HGR.out)
        have HBWR := Lib.hid (HB0.out.trans HGR.out.1)
        have HLVR := Lib.hid (HGR.out.ownI HLV.out)
        obtain ⟨e0, e1, e2, e3, e4⟩ := id HER.out
        have cL := e2.cell
        have HE3 := Lib.hid e3
        have HE4 := Lib.hid e4
        clear e0 e1 e2 e3 e4
        by_cases hlt : i < 20
        · have hd : decide ((i : Int) + 1 ≤ 20) = true := by simp; omega
          cases hk0 : decide (k = 0)
          · have hk1 : k ≠ 0 := by simpa using hk0
            obtain ⟨k', hk'⟩ : ∃ k', k = k' + 1 := ⟨k - 1, by omega⟩
            have hml : m < len := by have := HLK.out; have := HM.out; omega
            have HK := Lib.hid hk'
            clear hk0 hk1 hk'
            go_wp2_with fail
            refine wp_region_steps 11 10 [0, 1, 2, 3, 4, 5, 6, 7, 8, 9] [] (fun w' => Below wr.heap.size wr w') (by kernel_rfl) (by kernel_rfl) ?_
            rintro D hD
            have HSD : Hid (Below wr.heap.size wr D) := by rw [hD]; exact (Below.refl _ _).drew
            clear hD
            have HS : Hid (∀ w' : World, Below wr.heap.size wr w' → w'.cell? ⟨bw, 0, none⟩ = some (.func (.func 42) #[] #[.pointer (some ⟨ba, 0, none⟩), .pointer (some ⟨be, 0, none⟩), .pointer (some ⟨bo, 0, none⟩), .pointer (some ⟨bl, 0, none⟩), .pointer (some ⟨bw, 0, none⟩), .pointer (some ⟨bn, 0, none⟩)]) ∧ w'.cell? ⟨bn, 0, none⟩ = some (.int .i64 S) ∧ w'.cell? ⟨bn, 1, none⟩ = some (.slice A1 n1 c1) ∧ w'.cell? ⟨bn, 2, none⟩ = some (.slice A2 n2 c2)) := by
              intro w' h
              obtain ⟨f0, f1, f2, _⟩ := (HE4.out.below h).facts
              exact ⟨(boxed_below HE3.out h).cell, f0, f1, f2⟩
            (refine wpE_take 0 (v := ?_) (by kernel_rfl) rfl rfl (by exact HSD.out) (fun w' hS => ?_) ?_; rotate_left; (focus ((try obtain ⟨s0, s1, s2, s3⟩ := HS.out _ (hS rfl)); clear hS; go_simp; try with_reducible rfl; done)); (try simp only [Act.put, List.setIfInBounds_toArray, List.set_cons_zero, List.set_cons_succ]))
            (refine wpE_take 1 (v := ?_) (by kernel_rfl) rfl rfl (by exact HSD.out) (fun w' hS => ?_) ?_; rotate_left; (focus ((try obtain ⟨s0, s1, s2, s3⟩ := HS.out _ (hS rfl)); clear hS; go_simp; try with_reducible rfl; done)); (try simp only [Act.put, List.setIfInBounds_toArray, List.set_cons_zero, List.set_cons_succ]))
            (refine wpE_take 3 (v := ?_) (by kernel_rfl) rfl rfl (by exact HSD.out) (fun w' hS => ?_) ?_; rotate_left; (focus ((try obtain ⟨s0, s1, s2, s3⟩ := HS.out _ (hS rfl)); clear hS; go_simp; try with_reducible rfl; done)); (try simp only [Act.put, List.setIfInBounds_toArray, List.set_cons_zero, List.set_cons_succ]))
            (refine wpE_take 6 (v := ?_) (by kernel_rfl) rfl rfl (by exact HSD.out) (fun w' hS => ?_) ?_; rotate_left; (focus ((try obtain ⟨s0, s1, s2, s3⟩ := HS.out _ (hS rfl)); clear hS; go_simp; try with_reducible rfl; done)); (try simp only [Act.put, List.setIfInBounds_toArray, List.set_cons_zero, List.set_cons_succ]))
            (refine wpE_take 7 (v := ?_) (by kernel_rfl) rfl rfl (by exact HSD.out) (fun w' hS => ?_) ?_; rotate_left; (focus ((try obtain ⟨s0, s1, s2, s3⟩ := HS.out _ (hS rfl)); clear hS; go_simp; try with_reducible rfl; done)); (try simp only [Act.put, List.setIfInBounds_toArray, List.set_cons_zero, List.set_cons_succ]))
            (refine wpE_take 8 (v := ?_) (by kernel_rfl) rfl rfl (by exact HSD.out) (fun w' hS => ?_) ?_; rotate_left; (focus ((try obtain ⟨s0, s1, s2, s3⟩ := HS.out _ (hS rfl)); clear hS; go_simp; try with_reducible rfl; done)); (try simp only [Act.put, List.setIfInBounds_toArray, List.set_cons_zero, List.set_cons_succ]))
            refine wpE_br [2, 4] (by kernel_rfl) ?_
            refine AllE.cons rfl rfl (fun K hK => ?_) (AllE.cons rfl rfl (fun K hK => ?_) AllE.nil)
            · skip
              go_simp
              refine (clone_any _ l _ (HLVR.out.rd.below HSD.out) (by have := HM.out; omega)).mono ?_
              rintro e Y1 ⟨⟨vc, rfl, hvc⟩, hb⟩
              obtain ⟨_, B, cb, rfl⟩ := own_slice hvc
              refine hK.out _ _ (bchain HSD.out hb) ?_
              clear hK K
              (try simp only [Act.put, List.setIfInBounds_toArray, List.set_cons_zero, List.set_cons_succ])
              have HSY1 := Lib.hid (bchain HSD.out hb)
              have HXY1 := Lib.hid hb
              have HCL := Lib.hid hvc
              clear hb hvc
              refine wpE_br [4] (by kernel_rfl) ?_
              refine AllE.cons rfl rfl (fun K hK => ?_) AllE.nil
              go_simp
              refine hK.out _ _ (HSY1.out.alloc HSY1.out.size _) ?_
              clear hK K
              (try simp only [Act.put, List.setIfInBounds_toArray, List.set_cons_zero, List.set_cons_succ])
              generalize hX : World.alloc Y1 _ = Y2
              have HSY2 : Hid (Below wr.heap.size wr Y2) := by rw [← hX]; exact HSY1.out.alloc HSY1.out.size _
              have HXY2 : Hid (Below Y1.heap.size Y1 Y2) := by rw [← hX]; exact (Below.refl _ _).alloc (Nat.le_refl _) _
              have HRY2 : Hid (RdI Y2 (.slice (some ⟨Y1.heap.size, 0, none⟩) 1 1) [(i : Int) + 1]) := by rw [← hX]; exact rd_new1 Y1 _ rfl _
              clear hX
              have hbase : D.heap.size ≤ Y2.heap.size := Nat.le_trans HXY1.out.size HXY2.out.size
              have hwb : wr.heap.size ≤ D.heap.size := HSD.out.size
              have HCL2 : Hid (OwnI Y2 D.heap.size (.slice B l.length cb) l) := own_below HCL.out HXY2.out
              have HRD := Lib.hid HRY2.out
              refine wpE_br [5] (by kernel_rfl) ?_
              refine AllE.cons rfl rfl (fun K hK => ?_) AllE.nil
              refine wp_app_ints (.tmp 36) (.tmp 38) rfl D.heap.size _ l rfl HCL2.out _ [(i : Int) + 1] rfl HRD.out (by have := HM.out; simp; omega) hbase ?_
              intro v5 Y3 ho5 hg5 _
              have HSY3 := Lib.hid (below_grown HSY2.out hwb HCL2.out hg5)
              refine hK.out _ _ HSY3.out ?_
              clear hK K
              (try simp only [Act.put, List.setIfInBounds_toArray, List.set_cons_zero, List.set_cons_succ])
              have HO5 : Hid (OwnI Y3 w₀.heap.size v5 (l ++ [(i : Int) + 1])) := own_base ho5 (by have := HBWR.out.size; omega)
              clear ho5 hg5
              refine wpE_br [9] (by kernel_rfl) ?_
              refine AllE.cons rfl rfl (fun K hK => ?_) AllE.nil
              go_simp
              refine (after_any _ N S now ((i : Int) + 1) _ (HV.out.below (bchain HBWR.out HSY3.out)) hG HS'.out HNOW.out).mono ?_
              rintro e Y4 ⟨rfl, hb⟩
              refine hK.out _ _ (bchain HSY3.out hb) ?_
              clear hK K
              (try simp only [Act.put, List.setIfInBounds_toArray, List.set_cons_zero, List.set_cons_succ])
              have HSY4 := Lib.hid (bchain HSY3.out hb)
              have HXY4 := Lib.hid hb
              clear hb
              refine wpE_rest 10 (by kernel_rfl) ?_
              simp only [List.drop_succ_cons, List.drop_zero]
              have HG4 := Lib.hid (Gr.of_below HSY4.out HBWR.out.size)
              have HO6 : Hid (OwnI Y4 w₀.heap.size v5 (l ++ [(i : Int) + 1])) := own_below HO5.out HXY4.out
              have hcap6 : (Ls2 ++ partF N E L k l now i).length + cW k' ≤ 1000000 := by
                have h1 := partF_len2 N E L k' l now i hlt
                rw [← HK.out] at h1
                have := HCAP.out
                have := HCAP2.out
                simp only [List.length_append]
                omega
              have hlen6 : (l ++ [(i : Int) + 1]).length + k' = len := by have := HLK.out; have := HK.out; simp; omega
              go_wp2_with fail
              refine (HIH.out k' HK.out _ _ _ _ _ _ hlen6 (after_lt hG HS'.out now _) HO6.out (bchain HBWR.out HSY4.out) (HER.out.gr HG4.out) (boxed_below HBR.out HSY4.out) (HLR.out.below HSY4.out) hcap6).mono ?_
              rintro e Y5 ⟨⟨rfl, v6, hb6, hl6⟩, g6⟩
              have HB6 := Lib.hid hb6
              have HL6 := Lib.hid hl6
              have HG6 := Lib.hid ((HGR.out.trans HG4.out).trans g6)
              clear hb6 hl6 g6
              go_wp2_with fail
              refine NoPanic.normal ?_
              go_wp2_with fail
              go_roundw
              case rel => exact ⟨i + 1, v6, by omega, by go_num, HB6.out, by rw [Hid, HK.out, partF_succ, ← List.append_assoc, ← HK.out]; exact HL6.out, HG6.out⟩
              case measure => simp [intOf]; omega
            · skip
              go_simp
              refine hK.out _ _ (HSD.out.alloc HSD.out.size _) ?_
              clear hK K
              (try simp only [Act.put, List.setIfInBounds_toArray, List.set_cons_zero, List.set_cons_succ])
              generalize hX : World.alloc D _ = Y1
              have HSY1 : Hid (Below wr.heap.size wr Y1) := by rw [← hX]; exact HSD.out.alloc HSD.out.size _
              have HXY1 : Hid (Below D.heap.size D Y1) := by rw [← hX]; exact (Below.refl _ _).alloc (Nat.le_refl _) _
              have HRY1 : Hid (RdI Y1 (.slice (some ⟨D.heap.size, 0, none⟩) 1 1) [(i : Int) + 1]) := by rw [← hX]; exact rd_new1 D _ rfl _
              clear hX
              have hwb : wr.heap.size ≤ Y1.heap.size := HSY1.out.size
              refine wpE_br [2] (by kernel_rfl) ?_
              refine AllE.cons rfl rfl (fun K hK => ?_) AllE.nil
              go_simp
              refine (clone_any _ l _ (HLVR.out.rd.below HSY1.out) (by have := HM.out; omega)).mono ?_
              rintro e Y2 ⟨⟨vc, rfl, hvc⟩, hb⟩
              obtain ⟨_, B, cb, rfl⟩ := own_slice hvc
              refine hK.out _ _ (bchain HSY1.out hb) ?_
              clear hK K
              (try simp only [Act.put, List.setIfInBounds_toArray, List.set_cons_zero, List.set_cons_succ])
              have HSY2 := Lib.hid (bchain HSY1.out hb)
              have HXY2 := Lib.hid hb
              have HCL := Lib.hid hvc
              clear hb hvc
              have hbase : Y1.heap.size ≤ Y2.heap.size := HXY2.out.size
              have HCL2 := HCL
              have HRD := Lib.hid (HRY1.out.below HXY2.out)
              refine wpE_br [5] (by kernel_rfl) ?_
              refine AllE.cons rfl rfl (fun K hK => ?_) AllE.nil
              refine wp_app_ints (.tmp 36) (.tmp 38) rfl Y1.heap.size _ l rfl HCL2.out _ [(i : Int) + 1] rfl HRD.out (by have := HM.out; simp; omega) hbase ?_
              intro v5 Y3 ho5 hg5 _
              have HSY3 := Lib.hid (below_grown HSY2.out hwb HCL2.out hg5)
              refine hK.out _ _ HSY3.out ?_
              clear hK K
              (try simp only [Act.put, List.setIfInBounds_toArray, List.set_cons_zero, List.set_cons_succ])
              have HO5 : Hid (OwnI Y3 w₀.heap.size v5 (l ++ [(i : Int) + 1])) := own_base ho5 (by have := HBWR.out.size; omega)
              clear ho5 hg5
              refine wpE_br [9] (by kernel_rfl) ?_
              refine AllE.cons rfl rfl (fun K hK => ?_) AllE.nil
              go_simp
              refine (after_any _ N S now ((i : Int) + 1) _ (HV.out.below (bchain HBWR.out HSY3.out)) hG HS'.out HNOW.out).mono ?_
              rintro e Y4 ⟨rfl, hb⟩
              refine hK.out _ _ (bchain HSY3.out hb) ?_
              clear hK K
              (try simp only [Act.put, List.setIfInBounds_toArray, List.set_cons_zero, List.set_cons_succ])
              have HSY4 := Lib.hid (bchain HSY3.out hb)
              have HXY4 := Lib.hid hb
              clear hb
              refine wpE_rest 10 (by kernel_rfl) ?_
              simp only [List.drop_succ_cons, List.drop_zero]
              have HG4 := Lib.hid (Gr.of_below HSY4.out HBWR.out.size)
              have HO6 : Hid (OwnI Y4 w₀.heap.size v5 (l ++ [(i : Int) + 1])) := own_below HO5.out HXY4.out
              have hcap6 : (Ls2 ++ partF N E L k l now i).length + cW k' ≤ 1000000 := by
                have h1 := partF_len2 N E L k' l now i hlt
                rw [← HK.out] at h1
                have := HCAP.out
                have := HCAP2.out
                simp only [List.length_append]
                omega
              have hlen6 : (l ++ [(i : Int) + 1]).length + k' = len := by have := HLK.out; have := HK.out; simp; omega
              go_wp2_with fail
              refine (HIH.out k' HK.out _ _ _ _ _ _ hlen6 (after_lt hG HS'.out now _) HO6.out (bchain HBWR.out HSY4.out) (HER.out.gr HG4.out) (boxed_below HBR.out HSY4.out) (HLR.out.below HSY4.out) hcap6).mono ?_
              rintro e Y5 ⟨⟨rfl, v6, hb6, hl6⟩, g6⟩
              have HB6 := Lib.hid hb6
              have HL6 := Lib.hid hl6
              have HG6 := Lib.hid ((HGR.out.trans HG4.out).trans g6)
              clear hb6 hl6 g6
              go_wp2_with fail
              refine NoPanic.normal ?_
              go_wp2_with fail
              go_roundw
              case rel => exact ⟨i + 1, v6, by omega, by go_num, HB6.out, by rw [Hid, HK.out, partF_succ, ← List.append_assoc, ← HK.out]; exact HL6.out, HG6.out⟩
              case measure => simp [intOf]; omega
          · have hk1 : k = 0 := by simpa using hk0
            have hml : ¬ m < len := by have := HLK.out; have := HM.out; omega
            have HPE : Hid (partF N E L k l now i = partF N E L k l now 20) := by rw [Hid, hk1]; rfl
            clear hk0 hk1
            go_wp2_with fail
            first | refine bodyPost_ret (v := .tuple #[]) ?_ rfl ?_ | refine bodyPost_end (v := .tuple #[]) ?_ rfl ?_
            · simp [results, Try.results42, go_sem]
            exact ⟨⟨rfl, vr, HBR.out, by rw [HFIN.out, ← HPE.out]; exact HLR.out⟩, HGR.out⟩
        · obtain rfl : i = 20 := by omega
          go_wp2_with fail
          first | refine bodyPost_ret (v := .tuple #[]) ?_ rfl ?_ | refine bodyPost_end (v := .tuple #[]) ?_ rfl ?_
          · simp [results, Try.results42, go_sem]
          exact ⟨⟨rfl, vr, HBR.out, by rw [HFIN.out]; exact HLR.out⟩, HGR.out⟩
    · have HW2 : Hid (wF N E L k l now = [l] ++ partF N E L k l now 20) := by
        rw [Hid, HW.out, HYY.out]
        have : (y != 0) = true := by
          have h : y ≠ 0 := by simpa using hy0
          simp [h]
        rw [this]
        rfl
      go_wp2_with fail
      clear hy0 hq hba hbe cA cE
      refine wp_region_ord 4 [0, 1, 2, 3] [] [0, 1] [2, 3, 4, 5] (fun w' => Below w.heap.size w w') (by kernel_rfl) (by kernel_rfl) ?_
      rintro D hD
      have HSD : Hid (Below w.heap.size w D) := by rw [hD]; exact (Below.refl _ _).drew
      clear hD
      refine ⟨HSD.out, ?_⟩
      have HS : Hid (∀ w' : World, Below w.heap.size w w' → w'.cell? ⟨bo, 0, none⟩ = some v) := fun w' h => (boxed_below HBV.out h).cell
      iterate 2 (refine wpHead_cons (v := ?_) rfl rfl (fun w' hS => ?_) ?_; rotate_left; (focus ((try obtain s0 := HS.out _ (hS rfl)); clear hS; go_simp; try with_reducible rfl; done)); (try simp only [Act.put, List.setIfInBounds_toArray, List.set_cons_zero, List.set_cons_succ]))
      refine wpHead_nil ?_
      refine wpTail_cons rfl rfl (fun K hK => ?_)
      go_simp
      refine (clone_any _ l _ (HLV.out.rd.below HSD.out) (by have := HM.out; omega)).mono ?_
      rintro e Y1 ⟨⟨vc, rfl, hvc⟩, hb⟩
      obtain ⟨_, B, cb, rfl⟩ := own_slice hvc
      refine hK.out _ _ (fun _ => bchain HSD.out hb) ?_
      clear hK K
      (try simp only [Act.put, List.setIfInBounds_toArray, List.set_cons_zero, List.set_cons_succ])
      have HSY := Lib.hid (bchain HSD.out hb)
      have HCL : Hid (OwnI Y1 w₀.heap.size (.slice B l.length cb) l) := own_base hvc (by have := HSD.out.size; omega)
      clear hb hvc
      refine wpTail_cons rfl rfl (fun K hK => ?_)
      go_simp
      refine hK.out _ _ (fun _ => HSY.out.alloc HSY.out.size _) ?_
      clear hK K
      (try simp only [Act.put, List.setIfInBounds_toArray, List.set_cons_zero, List.set_cons_succ])
      refine wpTail_rest 4 rfl ?_
      simp only [List.drop_succ_cons, List.drop_zero]
      obtain ⟨len5, hlen5⟩ : ∃ len5, Ls.length = len5 := ⟨_, rfl⟩
      have HLEN := Lib.hid hlen5
      have hl5 : len5 ≤ 1000000 := by have := HCAP.out; omega
      have HLsY := Lib.hid (HLs.out.below HSY.out)
      have hbY := Lib.hid (boxed_below HBV.out HSY.out)
      have hbase : w₀.heap.size ≤ Y1.heap.size := by have := HSY.out.size; omega
      clear hlen5
      go_wp2_with (at_builtin; refine wpList_app_words rfl (.tmp 19) (.tmp 22) rfl w₀.heap.size v Ls rfl HLsY.out _ l HCL.out len5 HLEN hl5 hbase rfl ?_; intro g' cap' w5 ho hge hg5 hbx5; have hbb := Lib.hid (hbx5 _ _ hbY.out); have cb5 := hbb.out.cell; have fb5 := hbb.out.frozen; have HO5 := Lib.hid ho; have HG5 := Lib.hid hg5; clear ho hg5 hbx5)
      refine NoPanic.normal ?_
      have HBV2 := Lib.hid (hbb.out.set (.slice (some ⟨g', 0, none⟩) (len5 + 1) cap'))
      have HLs2a := Lib.hid (HO5.out.setBox hbb.out (.slice (some ⟨g', 0, none⟩) (len5 + 1) cap'))
      have HG2 := Lib.hid (((Gr.of_below HSY.out hn0).trans HG5.out).trans (Gr.setBox hbb.out hbo (.slice (some ⟨g', 0, none⟩) (len5 + 1) cap')))
      generalize w5.setCell ⟨bo, 0, none⟩ (.slice (some ⟨g', 0, none⟩) (len5 + 1) cap') = w6 at HBV2 HLs2a HG2 ⊢
      obtain ⟨Ls2, hLs2⟩ : ∃ Ls2, Ls2 = Ls ++ [l] := ⟨_, rfl⟩
      have HLs2 : Hid (OwnL w6 w₀.heap.size (.slice (some ⟨g', 0, none⟩) (len5 + 1) cap') Ls2) := by rw [Hid, hLs2]; exact HLs2a.out
      have HCAP2 : Hid (Ls2.length ≤ Ls.length + 1) := by rw [Hid, hLs2]; simp
      have HFIN : Hid (Ls ++ wF N E L k l now = Ls2 ++ partF N E L k l now 20) := by rw [Hid, HW2.out, hLs2, List.append_assoc]
      clear hLs2 HLs2a cb5 fb5 hbb HO5 HG5
      go_wp2_with fail
      go_loopw [10] (fun c wr => ∃ (i : Nat) (vr : Value), i ≤ 20 ∧ c = .int .i64 ((i : Int) + 1) ∧ Hid (Boxed wr bo 34 vr) ∧ Hid (OwnL wr w₀.heap.size vr (Ls2 ++ partF N E L k l now i)) ∧ Hid (Gr w₀.heap.size w wr)) (fun c _ => 21 - (intOf c).toNat)
      case atStart => exact ⟨0, _, by omega, rfl, HBV2.out, by rw [Hid, partF_zero, List.append_nil]; exact HLs2.out, HG2.out⟩
      case round =>
        obtain ⟨i, vr, hi, rfl, HBR, HLR, HGR⟩ := hrel
        have HER := Lib.hid (HEnv.out.gr HGR.out)
        have HBWR := Lib.hid (HB0.out.trans HGR.out.1)
        have HLVR := Lib.hid (HGR.out.ownI HLV.out)
        obtain ⟨e0, e1, e2, e3, e4⟩ := id HER.out
        have cL := e2.cell
        have HE3 := Lib.hid e3
        have HE4 := Lib.hid e4
        clear e0 e1 e2 e3 e4
        by_cases hlt : i < 20
        · have hd : decide ((i : Int) + 1 ≤ 20) = true := by simp; omega
          cases hk0 : decide (k = 0)
          · have hk1 : k ≠ 0 := by simpa using hk0
            obtain ⟨k', hk'⟩ : ∃ k', k = k' + 1 := ⟨k - 1, by omega⟩
            have hml : m < len := by have := HLK.out; have := HM.out; omega
            have HK := Lib.hid hk'
            clear hk0 hk1 hk'
            go_wp2_with fail
            refine wp_region_steps 11 10 [0, 1, 2, 3, 4, 5, 6, 7, 8, 9] [] (fun w' => Below wr.heap.size wr w') (by kernel_rfl) (by kernel_rfl) ?_
            rintro D hD
            have HSD : Hid (Below wr.heap.size wr D) := by rw [hD]; exact (Below.refl _ _).drew
            clear hD
            have HS : Hid (∀ w' : World, Below wr.heap.size wr w' → w'.cell? ⟨bw, 0, none⟩ = some (.func (.func 42) #[] #[.pointer (some ⟨ba, 0, none⟩), .pointer (some ⟨be, 0, none⟩), .pointer (some ⟨bo, 0, none⟩), .pointer (some ⟨bl, 0, none⟩), .pointer (some ⟨bw, 0, none⟩), .pointer (some ⟨bn, 0, none⟩)]) ∧ w'.cell? ⟨bn, 0, none⟩ = some (.int .i64 S) ∧ w'.cell? ⟨bn, 1, none⟩ = some (.slice A1 n1 c1) ∧ w'.cell? ⟨bn, 2, none⟩ = some (.slice A2 n2 c2)) := by
              intro w' h
              obtain ⟨f0, f1, f2, _⟩ := (HE4.out.below h).facts
              exact ⟨(boxed_below HE3.out h).cell, f0, f1, f2⟩
            (refine wpE_take 0 (v := ?_) (by kernel_rfl) rfl rfl (by exact HSD.out) (fun w' hS => ?_) ?_; rotate_left; (focus ((try obtain ⟨s0, s1, s2, s3⟩ := HS.out _ (hS rfl)); clear hS; go_simp; try with_reducible rfl; done)); (try simp only [Act.put, List.setIfInBounds_toArray, List.set_cons_zero, List.set_cons_succ]))
            (refine wpE_take 1 (v := ?_) (by kernel_rfl) rfl rfl (by exact HSD.out) (fun w' hS => ?_) ?_; rotate_left; (focus ((try obtain ⟨s0, s1, s2, s3⟩ := HS.out _ (hS rfl)); clear hS; go_simp; try with_reducible rfl; done)); (try simp only [Act.put, List.setIfInBounds_toArray, List.set_cons_zero, List.set_cons_succ]))
            (refine wpE_take 3 (v := ?_) (by kernel_rfl) rfl rfl (by exact HSD.out) (fun w' hS => ?_) ?_; rotate_left; (focus ((try obtain ⟨s0, s1, s2, s3⟩ := HS.out _ (hS rfl)); clear hS; go_simp; try with_reducible rfl; done)); (try simp only [Act.put, List.setIfInBounds_toArray, List.set_cons_zero, List.set_cons_succ]))
            (refine wpE_take 6 (v := ?_) (by kernel_rfl) rfl rfl (by exact HSD.out) (fun w' hS => ?_) ?_; rotate_left; (focus ((try obtain ⟨s0, s1, s2, s3⟩ := HS.out _ (hS rfl)); clear hS; go_simp; try with_reducible rfl; done)); (try simp only [Act.put, List.setIfInBounds_toArray, List.set_cons_zero, List.set_cons_succ]))
            (refine wpE_take 7 (v := ?_) (by kernel_rfl) rfl rfl (by exact HSD.out) (fun w' hS => ?_) ?_; rotate_left; (focus ((try obtain ⟨s0, s1, s2, s3⟩ := HS.out _ (hS rfl)); clear hS; go_simp; try with_reducible rfl; done)); (try simp only [Act.put, List.setIfInBounds_toArray, List.set_cons_zero, List.set_cons_succ]))
            (refine wpE_take 8 (v := ?_) (by kernel_rfl) rfl rfl (by exact HSD.out) (fun w' hS => ?_) ?_; rotate_left; (focus ((try obtain ⟨s0, s1, s2, s3⟩ := HS.out _ (hS rfl)); clear hS; go_simp; try with_reducible rfl; done)); (try simp only [Act.put, List.setIfInBounds_toArray, List.set_cons_zero, List.set_cons_succ]))
            refine wpE_br [2, 4] (by kernel_rfl) ?_
            refine AllE.cons rfl rfl (fun K hK => ?_) (AllE.cons rfl rfl (fun K hK => ?_) AllE.nil)
            · skip
              go_simp
              refine (clone_any _ l _ (HLVR.out.rd.below HSD.out) (by have := HM.out; omega)).mono ?_
              rintro e Y1 ⟨⟨vc, rfl, hvc⟩, hb⟩
              obtain ⟨_, B, cb, rfl⟩ := own_slice hvc
              refine hK.out _ _ (bchain HSD.out hb) ?_
              clear hK K
              (try simp only [Act.put, List.setIfInBounds_toArray, List.set_cons_zero, List.set_cons_succ])
              have HSY1 := Lib.hid (bchain HSD.out hb)
              have HXY1 := Lib.hid hb
              have HCL := Lib.hid hvc
              clear hb hvc
              refine wpE_br [4] (by kernel_rfl) ?_
              refine AllE.cons rfl rfl (fun K hK => ?_) AllE.nil
              go_simp
              refine hK.out _ _ (HSY1.out.alloc HSY1.out.size _) ?_
              clear hK K
              (try simp only [Act.put, List.setIfInBounds_toArray, List.set_cons_zero, List.set_cons_succ])
              generalize hX : World.alloc Y1 _ = Y2
              have HSY2 : Hid (Below wr.heap.size wr Y2) := by rw [← hX]; exact HSY1.out.alloc HSY1.out.size _
              have HXY2 : Hid (Below Y1.heap.size Y1 Y2) := by rw [← hX]; exact (Below.refl _ _).alloc (Nat.le_refl _) _
              have HRY2 : Hid (RdI Y2 (.slice (some ⟨Y1.heap.size, 0, none⟩) 1 1) [(i : Int) + 1]) := by rw [← hX]; exact rd_new1 Y1 _ rfl _
              clear hX
              have hbase : D.heap.size ≤ Y2.heap.size := Nat.le_trans HXY1.out.size HXY2.out.size
              have hwb : wr.heap.size ≤ D.heap.size := HSD.out.size
              have HCL2 : Hid (OwnI Y2 D.heap.size (.slice B l.length cb) l) := own_below HCL.out HXY2.out
              have HRD := Lib.hid HRY2.out
              refine wpE_br [5] (by kernel_rfl) ?_
              refine AllE.cons rfl rfl (fun K hK => ?_) AllE.nil
              refine wp_app_ints (.tmp 36) (.tmp 38) rfl D.heap.size _ l rfl HCL2.out _ [(i : Int) + 1] rfl HRD.out (by have := HM.out; simp; omega) hbase ?_
              intro v5 Y3 ho5 hg5 _
              have HSY3 := Lib.hid (below_grown HSY2.out hwb HCL2.out hg5)
              refine hK.out _ _ HSY3.out ?_
              clear hK K
              (try simp only [Act.put, List.setIfInBounds_toArray, List.set_cons_zero, List.set_cons_succ])
              have HO5 : Hid (OwnI Y3 w₀.heap.size v5 (l ++ [(i : Int) + 1])) := own_base ho5 (by have := HBWR.out.size; omega)
              clear ho5 hg5
              refine wpE_br [9] (by kernel_rfl) ?_
              refine AllE.cons rfl rfl (fun K hK => ?_) AllE.nil
              go_simp
              refine (after_any _ N S now ((i : Int) + 1) _ (HV.out.below (bchain HBWR.out HSY3.out)) hG HS'.out HNOW.out).mono ?_
              rintro e Y4 ⟨rfl, hb⟩
              refine hK.out _ _ (bchain HSY3.out hb) ?_
              clear hK K
              (try simp only [Act.put, List.setIfInBounds_toArray, List.set_cons_zero, List.set_cons_succ])
              have HSY4 := Lib.hid (bchain HSY3.out hb)
              have HXY4 := Lib.hid hb
              clear hb
              refine wpE_rest 10 (by kernel_rfl) ?_
              simp only [List.drop_succ_cons, List.drop_zero]
              have HG4 := Lib.hid (Gr.of_below HSY4.out HBWR.out.size)
              have HO6 : Hid (OwnI Y4 w₀.heap.size v5 (l ++ [(i : Int) + 1])) := own_below HO5.out HXY4.out
              have hcap6 : (Ls2 ++ partF N E L k l now i).length + cW k' ≤ 1000000 := by
                have h1 := partF_len2 N E L k' l now i hlt
                rw [← HK.out] at h1
                have := HCAP.out
                have := HCAP2.out
                simp only [List.length_append]
                omega
              have hlen6 : (l ++ [(i : Int) + 1]).length + k' = len := by have := HLK.out; have := HK.out; simp; omega
              go_wp2_with fail
              refine (HIH.out k' HK.out _ _ _ _ _ _ hlen6 (after_lt hG HS'.out now _) HO6.out (bchain HBWR.out HSY4.out) (HER.out.gr HG4.out) (boxed_below HBR.out HSY4.out) (HLR.out.below HSY4.out) hcap6).mono ?_
              rintro e Y5 ⟨⟨rfl, v6, hb6, hl6⟩, g6⟩
              have HB6 := Lib.hid hb6
              have HL6 := Lib.hid hl6
              have HG6 := Lib.hid ((HGR.out.trans HG4.out).trans g6)
              clear hb6 hl6 g6
              go_wp2_with fail
              refine NoPanic.normal ?_
              go_wp2_with fail
              go_roundw
              case rel => exact ⟨i + 1, v6, by omega, by go_num, HB6.out, by rw [Hid, HK.out, partF_succ, ← List.append_assoc, ← HK.out]; exact HL6.out, HG6.out⟩
              case measure => simp [intOf]; omega
            · skip
              go_simp
              refine hK.out _ _ (HSD.out.alloc HSD.out.size _) ?_
              clear hK K
              (try simp only [Act.put, List.setIfInBounds_toArray, List.set_cons_zero, List.set_cons_succ])
              generalize hX : World.alloc D _ = Y1
              have HSY1 : Hid (Below wr.heap.size wr Y1) := by rw [← hX]; exact HSD.out.alloc HSD.out.size _
              have HXY1 : Hid (Below D.heap.size D Y1) := by rw [← hX]; exact (Below.refl _ _).alloc (Nat.le_refl _) _
              have HRY1 : Hid (RdI Y1 (.slice (some ⟨D.heap.size, 0, none⟩) 1 1) [(i : Int) + 1]) := by rw [← hX]; exact rd_new1 D _ rfl _
              clear hX
              have hwb : wr.heap.size ≤ Y1.heap.size := HSY1.out.size
              refine wpE_br [2] (by kernel_rfl) ?_
              refine AllE.cons rfl rfl (fun K hK => ?_) AllE.nil
              go_simp
              refine (clone_any _ l _ (HLVR.out.rd.below HSY1.out) (by have := HM.out; omega)).mono ?_
              rintro e Y2 ⟨⟨vc, rfl, hvc⟩, hb⟩
              obtain ⟨_, B, cb, rfl⟩ := own_slice hvc
              refine hK.out _ _ (bchain HSY1.out hb) ?_
              clear hK K
              (try simp only [Act.put, List.setIfInBounds_toArray, List.set_cons_zero, List.set_cons_succ])
              have HSY2 := Lib.hid (bchain HSY1.out hb)
              have HXY2 := Lib.hid hb
              have HCL := Lib.hid hvc
              clear hb hvc
              have hbase : Y1.heap.size ≤ Y2.heap.size := HXY2.out.size
              have HCL2 := HCL
              have HRD := Lib.hid (HRY1.out.below HXY2.out)
              refine wpE_br [5] (by kernel_rfl) ?_
              refine AllE.cons rfl rfl (fun K hK => ?_) AllE.nil
              refine wp_app_ints (.tmp 36) (.tmp 38) rfl Y1.heap.size _ l rfl HCL2.out _ [(i : Int) + 1] rfl HRD.out (by have := HM.out; simp; omega) hbase ?_
              intro v5 Y3 ho5 hg5 _
              have HSY3 := Lib.hid (below_grown HSY2.out hwb HCL2.out hg5)
              refine hK.out _ _ HSY3.out ?_
              clear hK K
              (try simp only [Act.put, List.setIfInBounds_toArray, List.set_cons_zero, List.set_cons_succ])
              have HO5 : Hid (OwnI Y3 w₀.heap.size v5 (l ++ [(i : Int) + 1])) := own_base ho5 (by have := HBWR.out.size; omega)
              clear ho5 hg5
              refine wpE_br [9] (by kernel_rfl) ?_
              refine AllE.cons rfl rfl (fun K hK => ?_) AllE.nil
              go_simp
              refine (after_any _ N S now ((i : Int) + 1) _ (HV.out.below (bchain HBWR.out HSY3.out)) hG HS'.out HNOW.out).mono ?_
              rintro e Y4 ⟨rfl, hb⟩
              refine hK.out _ _ (bchain HSY3.out hb) ?_
              clear hK K
              (try simp only [Act.put, List.setIfInBounds_toArray, List.set_cons_zero, List.set_cons_succ])
              have HSY4 := Lib.hid (bchain HSY3.out hb)
              have HXY4 := Lib.hid hb
              clear hb
              refine wpE_rest 10 (by kernel_rfl) ?_
              simp only [List.drop_succ_cons, List.drop_zero]
              have HG4 := Lib.hid (Gr.of_below HSY4.out HBWR.out.size)
              have HO6 : Hid (OwnI Y4 w₀.heap.size v5 (l ++ [(i : Int) + 1])) := own_below HO5.out HXY4.out
              have hcap6 : (Ls2 ++ partF N E L k l now i).length + cW k' ≤ 1000000 := by
                have h1 := partF_len2 N E L k' l now i hlt
                rw [← HK.out] at h1
                have := HCAP.out
                have := HCAP2.out
                simp only [List.length_append]
                omega
              have hlen6 : (l ++ [(i : Int) + 1]).length + k' = len := by have := HLK.out; have := HK.out; simp; omega
              go_wp2_with fail
              refine (HIH.out k' HK.out _ _ _ _ _ _ hlen6 (after_lt hG HS'.out now _) HO6.out (bchain HBWR.out HSY4.out) (HER.out.gr HG4.out) (boxed_below HBR.out HSY4.out) (HLR.out.below HSY4.out) hcap6).mono ?_
              rintro e Y5 ⟨⟨rfl, v6, hb6, hl6⟩, g6⟩
              have HB6 := Lib.hid hb6
              have HL6 := Lib.hid hl6
              have HG6 := Lib.hid ((HGR.out.trans HG4.out).trans g6)
              clear hb6 hl6 g6
              go_wp2_with fail
              refine NoPanic.normal ?_
              go_wp2_with fail
              go_roundw
              case rel => exact ⟨i + 1, v6, by omega, by go_num, HB6.out, by rw [Hid, HK.out, partF_succ, ← List.append_assoc, ← HK.out]; exact HL6.out, HG6.out⟩
              case measure => simp [intOf]; omega
          · have hk1 : k = 0 := by simpa using hk0
            have hml : ¬ m < len := by have := HLK.out; have := HM.out; omega
            have HPE : Hid (partF N E L k l now i = partF N E L k l now 20) := by rw [Hid, hk1]; rfl
            clear hk0 hk1
            go_wp2_with fail
            first | refine bodyPost_ret (v := .tuple #[]) ?_ rfl ?_ | refine bodyPost_end (v := .tuple #[]) ?_ rfl ?_
            · simp [results, Try.results42, go_sem]
            exact ⟨⟨rfl, vr, HBR.out, by rw [HFIN.out, ← HPE.out]; exact HLR.out⟩, HGR.out⟩
        · obtain rfl : i = 20 := by omega
          go_wp2_with fail
          first | refine bodyPost_ret (v := .tuple #[]) ?_ rfl ?_ | refine bodyPost_end (v := .tuple #[]) ?_ rfl ?_
          · simp [results, Try.results42, go_sem]
          exact ⟨⟨rfl, vr, HBR.out, by rw [HFIN.out]; exact HLR.out⟩, HGR.out⟩
theorem walk_any (w₀ : World) (N : PNet) (ba be bo bl bw bn S E L len n1 c1 n2 c2 : Nat) (A1 A2 : Option Addr) (hV : RdN w₀ (.agg #[.int .i64 S, .slice A1 n1 c1, .slice A2 n2 c2]) N) (hG : GoodN N) (hS : N.states = (S : Int)) (hE : E < 2 ^ S) (hL : L < 2 ^ S) (hlen : len ≤ 4) (hbo : w₀.heap.size ≤ bo) :
    ∀ k, WalkC w₀ N ba be bo bl bw bn S E L len (.slice A1 n1 c1) (.slice A2 n2 c2) k
  | 0 => walk_step w₀ N ba be bo bl bw bn S E L len n1 c1 n2 c2 A1 A2 hV hG hS hE hL hlen hbo 0 (fun k' h => by omega)
  | k + 1 => walk_step w₀ N ba be bo bl bw bn S E L len n1 c1 n2 c2 A1 A2 hV hG hS hE hL hlen hbo (k + 1) (fun k' h => by
      have h : k = k' := by omega
      rw [← h]
      exact walk_any w₀ N ba be bo bl bw bn S E L len n1 c1 n2 c2 A1 A2 hV hG hS hE hL hlen hbo k)
end Go.Proofs.Ytcmfgblfgldonaa
