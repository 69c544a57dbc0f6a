/-
  The reference of relations: Reach and Check; each returns.
-/
import Derived.Test.YtiopgbbggeimaaaGreatK9
namespace Go.Proofs.YtiopgbbggeimaaaGreat
open Go.ChangeShapes Go.WideShapes Go.ChangeAt Go.RowKit
theorem make_bools (S : Nat) (hS : S ≤ 100000) (W : World) : (Instr.makeSlice 126 (.int .i64 (S : Int)) (.int .i64 (S : Int))).run Tryz.prog W = .ok (.slice (some ⟨W.heap.size, 0, none⟩) S S) (W.alloc (.cells (bArr (List.replicate S false)) 4)) := by
  obtain ⟨i0, hi, hz0, hz1, hz2⟩ := info_parts infoB0
  have h := run_make_rowN (P := Tryz.prog) 126 4 i0 (.bool false) Tryz.underlying126 hi hz0 .i64 .i64 S S (Nat.le_refl _) (by rw [hz2]; omega) (by omega) W
  rw [hz1, made_bools] at h
  exact h
theorem own_new1 (w : World) (base g : Nat) (x : Int) (hg : w.heap.size = g) (hb : base ≤ g) : OwnI (w.alloc (.cells #[.int .i64 x] 3)) base (.slice (some ⟨g, 0, none⟩) 1 1) [x] := by
  subst hg
  exact ⟨rfl, .inr ⟨w.heap.size, 1, #[.int .i64 x], rfl, hb, heap_alloc_new w _, Nat.le_refl _, by simp [maxLen], rfl, rfl⟩⟩
theorem cf_le (M : List Bool) : cf M ≤ M.length := by
  induction M with
  | nil => simp [cf]
  | cons b l ih => cases b <;> simp [cf] <;> omega
/-- what a round of Reach keeps -/
structure RI (w A : World) (Bm n : Nat) (M : List Bool) (v : Value) (l : List Int) (wr : World) : Prop where
  b : Below w.heap.size w wr
  s : Same1 Bm A wr
  m : Bls wr Bm M
  ml : M.length = n
  o : OwnI wr A.heap.size v l
  c : l.length + cf M ≤ n
section
variable {w A wr wq : World} {Bm n : Nat} {M : List Bool} {v : Value} {l : List Int}
theorem RI.call (h : RI w A Bm n M v l wr) (hb : Below wr.heap.size wr wq) : RI w A Bm n M v l wq :=
  ⟨h.b.trans (hb.mono h.b.size), h.s.call hb, h.m.below hb, h.ml, own_below h.o hb, h.c⟩
theorem RI.next (h : RI w A Bm n M v l wr) {M0 : List Bool} (hA : Bls A Bm M0) {base : Nat} {vx : Value} {nx : List Int} (ho : OwnI A base vx nx) : OwnI wr base vx nx :=
  own_keepQ ho fun k cs m _ hk _ => h.s.2 k (Array.getElem?_eq_some_iff.1 hk).1 (ne_of_type hk hA (by decide))
theorem RI.set_ (h : RI w A Bm n M v l wr) (hw : w.heap.size ≤ Bm) (j : Nat) (hj : j < n) (hm : M.getD j false = false) : Below w.heap.size w (wr.setCell ⟨Bm, j, none⟩ (.bool true)) ∧ Same1 Bm A (wr.setCell ⟨Bm, j, none⟩ (.bool true)) ∧
    Bls (wr.setCell ⟨Bm, j, none⟩ (.bool true)) Bm (M.set j true) ∧ OwnI (wr.setCell ⟨Bm, j, none⟩ (.bool true)) A.heap.size v l ∧ l.length + cf (M.set j true) + 1 ≤ n := by
  refine ⟨h.b.setCell (by simpa using hw) _, h.s.set _ _, h.m.set_ j, own_keepQ h.o fun k cs m _ hk _ => Below.heap_setCell wr ⟨Bm, j, none⟩ _ k (ne_of_type hk h.m (by decide)), ?_⟩
  have h1 := (cf_set M j).2 (by rw [h.ml]; exact hj) hm
  have h2 := h.c
  omega
theorem RI.app {Y w5 : World} {v' : Value} {l' : List Int} (hAS : w.heap.size ≤ A.heap.size) (hB : Bm < A.heap.size) (s1 : Below w.heap.size w Y) (s2 : Same1 Bm A Y) (s3 : Bls Y Bm M) (ml : M.length = n) (s4 : OwnI Y A.heap.size v l) (hg : Y.grownBy w5 v.ownBlock) (ho : OwnI w5 A.heap.size v' l') (c : l'.length + cf M ≤ n) : RI w A Bm n M v' l' w5 := by
  have hne : ∀ k, k < A.heap.size → v.ownBlock ≠ some k := fun k hk h => by have := (World.ownsRow.lt s4 k h).1; omega
  exact ⟨below_grown s1 hAS s4 hg, ⟨Nat.le_trans s2.1 hg.size, fun k hk h => (hg.block k (Nat.lt_of_lt_of_le hk s2.1) (Ne.symm (hne k hk))).trans (s2.2 k hk h)⟩, (hg.block Bm s3.lt (Ne.symm (hne Bm hB))).trans s3, ml, ho, c⟩
end
set_option maxHeartbeats 32000000 in
set_option maxRecDepth 100000 in
theorem reach_any (v : Value) (L : List EV) (P : List PE) (id kind : Int) (w : World) (hv : RdV w v L) (hd : All2 (DpE w) L P) (hn : L.length ≤ 100) :
    Calls Tryz.prog 75 #[v, .int .i64 id, .int .i64 kind] w fun e' w' => (∃ v' l, e' = .returned v' ∧ RdI w' v' l) ∧ Below w.heap.size w w' := by
  have HV := Lib.hid hv
  have HD := Lib.hid hd
  obtain ⟨A, n, c, rfl, h1, h2, HN, HR⟩ := hv.op
  have hn1 : n ≤ 100 := by rw [← HN.out]; exact hn
  have hmk := make_bools n (by omega)
  clear hv hd hn
  go_enter Tryz.func75, Tryz.ntmps75
  go_wp2_with fail
  generalize hW : World.alloc (World.alloc w _) _ = W
  have HBW : Hid (Below w.heap.size w W) := by rw [← hW]; exact bchain (al_below _ _) (al_below _ _)
  have HM0 : Hid (Bls W w.heap.size (List.replicate n false)) := by rw [← hW]; exact Bls.alloc (heap_alloc_new w _) _
  have HO0 : Hid (OwnI W w.heap.size (.slice (some ⟨w.heap.size + 1, 0, none⟩) 1 1) [id]) := by
    rw [← hW]
    exact own_new1 _ _ _ _ (by simp) (by omega)
  clear hW hmk
  generalize (.slice (some ⟨w.heap.size + 1, 0, none⟩) 1 1 : Value) = v0 at HO0 ⊢
  go_loopw [8, 9] (fun v8 v9 wr => ∃ (r : Nat) (nx : List Int) (M : List Bool), r ≤ n + 1 ∧ v9 = .int .i64 r ∧ Hid (OwnI wr w.heap.size v8 nx) ∧ Hid (nx.length ≤ n + 1) ∧ Hid (Bls wr w.heap.size M) ∧ Hid (M.length = n) ∧ Hid (Below w.heap.size w wr)) (fun _ v9 _ => n + 1 - (intOf v9).toNat)
  case atStart => exact ⟨0, [id], _, by omega, rfl, HO0.out, by simp [Hid], HM0.out, by simp [Hid], HBW.out⟩
  case round =>
    obtain ⟨r, nx, M, hr, rfl, HNX, HNL, HM, HML, HBR⟩ := hrel
    obtain ⟨Ax, nn, cx, rfl, _, _, HNN, HRX⟩ := HNX.out.rd.op
    by_cases hrn : r ≤ n
    · obtain ⟨A0, hA0⟩ : ∃ A0, A0 = wr := ⟨_, rfl⟩
      have HRI : Hid (RI w A0 w.heap.size n M (.slice none 0 0) [] A0) := by rw [hA0]; exact ⟨HBR.out, Same1.refl _ _, HM.out, HML.out, World.ownsRow_nil _ _ _ _, by rw [← HML.out]; simpa using cf_le M⟩
      have HNX0 : Hid (OwnI A0 w.heap.size (.slice Ax nn cx) nx) := by rw [hA0]; exact HNX.out
      have HM00 : Hid (Bls A0 w.heap.size M) := by rw [hA0]; exact HM.out
      have hnn : nn ≤ 101 := by have := HNL.out; rw [HNN.out] at this; omega
      have HAS : Hid (w.heap.size ≤ A0.heap.size) := by rw [hA0]; exact HBR.out.size
      rw [← hA0]
      clear hA0 HM HBR HNX HRX
      go_wp2_with fail
      go_loopw [10, 11] (fun v10 v11 wr => ∃ (i : Nat) (M : List Bool) (l : List Int), i ≤ nn ∧ v11 = .int .i64 i ∧ Hid (RI w A0 w.heap.size n M v10 l wr)) (fun _ v11 _ => nn - (intOf v11).toNat)
      case atStart => exact ⟨0, M, [], Nat.zero_le _, rfl, HRI.out⟩
      case round =>
        obtain ⟨i, M1, l1, hi, rfl, HI⟩ := hrel
        obtain ⟨_, _, _, hz, _, _, HNN2, HRX⟩ := (HI.out.next HM00.out HNX0.out).rd.op
        cases hz
        obtain ⟨Am, nm, cm, rfl, _, _, HNM, _⟩ := HI.out.o.rd.op
        by_cases hit : i < nn
        · obtain ⟨b, off, x, rfl, hb, hdx, c0⟩ := HRX.out i hit
          have hi0 : (0 : Int) ≤ (i : Int) := by omega
          go_wp2_with fail
          refine (find26_any _ L x _ (HV.out.below HI.out.b)).mono ?_
          rintro e' w1 ⟨rfl, rfl⟩
          have HX2 := HRX
          clear c0
          rcases find_cases HV.out x with ⟨hz, -⟩ | ⟨at_, e, ba, oa, hz, hat, hLe, -, rfl, hba, hce⟩
          · rw [hz]
            go_wp2_with fail
            go_loopw [10, 13] (fun v10 v13 wr => ∃ (k : Nat) (M : List Bool) (l : List Int), v13 = .int .i64 k ∧ Hid (RI w A0 w.heap.size n M v10 l wr)) (fun _ _ _ => 0)
            case atStart => exact ⟨0, M1, l1, rfl, HI.out⟩
            case round =>
              obtain ⟨k, M2, l2, rfl, HI2⟩ := hrel
              go_wp2_with fail
              go_roundw
              case rel => exact ⟨i + 1, _, _, by omega, by go_num, HI2.out⟩
              case measure => simp [intOf]; omega
          · rw [hz]
            have hat0 : (0 : Int) ≤ (at_ : Int) := by omega
            have hl100 : e.l.n ≤ 9223372036854775807 := by
              obtain ⟨p, _, hdp⟩ := HD.out.get hLe
              obtain ⟨_, _, _, h0, _, _, _, _⟩ := hdp.l.op
              cases h0
              omega
            obtain ⟨p, hpp, hdp⟩ := HD.out.get hLe
            have HDP := Lib.hid hdp
            have HCE := Lib.hid hce
            obtain ⟨_, _, _, h0, _, _, HNL2, HRL⟩ := hdp.l.op
            cases h0
            have hbq0 := hba
            have HHZ := Lib.hid hz
            clear hdp hpp hLe hz hl100
            obtain ⟨f0, f1, f2, f3, f4, f5, f6, f7⟩ := HCE.out.below HI.out.b hba
            go_wp2_with fail
            go_loopw [10, 13] (fun v10 v13 wr => ∃ (k : Nat) (M : List Bool) (l : List Int), k ≤ e.l.n ∧ v13 = .int .i64 k ∧ Hid (RI w A0 w.heap.size n M v10 l wr)) (fun _ v13 _ => e.l.n - (intOf v13).toNat)
            case atStart => exact ⟨0, M1, l1, Nat.zero_le _, rfl, HI.out⟩
            case round =>
              obtain ⟨k, M2, l2, hk, rfl, HI2⟩ := hrel
              obtain ⟨Al, nl, cl, rfl, _, _, HNO, _⟩ := HI2.out.o.rd.op
              clear f0 f1 f2 f3 f4 f5 f6 f7
              obtain ⟨f0, f1, f2, f3, f4, f5, f6, f7⟩ := HCE.out.below HI2.out.b hba
              by_cases hkt : k < e.l.n
              · obtain ⟨b2, off2, q, hA2, hbq, hdq, g0, g1⟩ := (HRL.out k hkt).below HI2.out.b
                rw [hA2] at f6
                have hk0 : (0 : Int) ≤ (k : Int) := by omega
                have HZA := Lib.hid hA2
                clear hA2
                obtain ⟨wo, rfl⟩ : ∃ wo : World, wo = wr := ⟨_, rfl⟩
                go_upto_region 15 with (fail)
                generalize hX : World.alloc wo _ = X
                have HXI : Hid (RI w A0 w.heap.size n M2 (.slice Al nl cl) l2 X) := by rw [← hX]; exact HI2.out.call (al_below _ _)
                have HXL : Hid (LkBlk X wo.heap.size 134 q.x q.y) := by rw [← hX]; exact heap_alloc_new wo _
                clear hX f0 f1 f2 f3 f4 f5 f6 f7 g0 g1
                generalize wo.heap.size = gx at HXL ⊢
                obtain ⟨t0, t1, tl⟩ := HXL.out.facts
                go_wp2_with fail
                refine (find26_any _ L q.y _ (HV.out.below HXI.out.b)).mono ?_
                rintro e' w1 ⟨rfl, rfl⟩
                cases hkd : (q.x == kind)
                · go_wp2_with fail
                  go_roundw
                  case rel => exact ⟨k + 1, _, _, by omega, by go_num, HXI.out⟩
                  case measure => simp [intOf]; omega
                rcases find_cases HV.out q.y with ⟨hz2, -⟩ | ⟨j, e2, b3, o3, hz2, hjn, -, -, -, -, -⟩
                · rw [hz2]
                  go_wp2_with fail
                  go_roundw
                  case rel => exact ⟨k + 1, _, _, by omega, by go_num, HXI.out⟩
                  case measure => simp [intOf]; omega
                · rw [hz2]
                  have HZ2 := Lib.hid hz2
                  have hj0 : (0 : Int) ≤ (j : Int) := by omega
                  have m0 := HXI.out.m.cell (j := j) (by rw [HXI.out.ml]; exact hjn)
                  have mf := HXI.out.m.free j
                  have ml := HXI.out.m.lt
                  clear hz2
                  cases hm : M2.getD j false
                  rotate_left
                  · rw [hm] at m0
                    go_wp2_with fail
                    go_roundw
                    case rel => exact ⟨k + 1, _, _, by omega, by go_num, HXI.out⟩
                    case measure => simp [intOf]; omega
                  · rw [hm] at m0
                    have HSX := Lib.hid (HXI.out.set_ (Nat.le_refl _) j hjn hm)
                    have HYL : Hid (LkBlk (X.setCell ⟨w.heap.size, j, none⟩ (.bool true)) gx 134 q.x q.y) := (Below.heap_setCell X ⟨w.heap.size, j, none⟩ _ gx (ne_of_type HXL.out HXI.out.m (by decide))).trans HXL.out
                    go_upto_region 18 with (fail)
                    generalize X.setCell ⟨w.heap.size, j, none⟩ (.bool true) = Y at HSX HYL ⊢
                    clear t0 t1 tl m0 mf ml
                    obtain ⟨t0, t1, tl⟩ := HYL.out.facts
                    have HO3 := Lib.hid HSX.out.2.2.2.1
                    have hnl : nl ≤ 1000000 := by have := HSX.out.2.2.2.2; rw [HNO.out] at this; omega
                    have hbs : A0.heap.size ≤ Y.heap.size := HSX.out.2.1.1
                    have HMLS : Hid ((M2.set j true).length = n) := by rw [Hid, List.length_set]; exact HXI.out.ml
                    have HCF : Hid ((l2 ++ [q.y]).length + cf (M2.set j true) ≤ n) := by rw [Hid, List.length_append]; have := HSX.out.2.2.2.2; simp; omega
                    go_wp2_with (at_builtin; refine wpList_app_int rfl (.tmp 85) (.tmp 88) rfl A0.heap.size (.slice Al nl cl) l2 rfl HO3.out q.y nl HNO hnl hbs rfl ?_; intro g' cap' w5 ho hge hg; have HRN : Hid (RI w A0 w.heap.size n (M2.set j true) (.slice (some ⟨g', 0, none⟩) (nl + 1) cap') (l2 ++ [q.y]) w5) := RI.app HAS.out HM00.out.lt HSX.out.1 HSX.out.2.1 HSX.out.2.2.1 HMLS.out HSX.out.2.2.2.1 hg ho HCF.out; clear ho hg)
                    go_roundw
                    case rel => exact ⟨k + 1, _, _, by omega, by go_num, HRN.out⟩
                    case measure => simp [intOf]; omega
              · go_wp2_with fail
                go_roundw
                case rel => exact ⟨i + 1, _, _, by omega, by go_num, HI2.out⟩
                case measure => simp [intOf]; omega
        · go_wp2_with fail
          go_roundw
          case rel => exact ⟨r + 1, l1, M1, by omega, by go_num, own_base HI.out.o HAS.out, by have := HI.out.c; rw [Hid]; omega, HI.out.m, HI.out.ml, HI.out.b⟩
          case measure => simp [intOf]; omega
    · obtain ⟨A0, hA0⟩ : ∃ A0, A0 = wr := ⟨_, rfl⟩
      have HB0 : Hid (Below w.heap.size w A0) := by rw [hA0]; exact HBR.out
      have HM00 : Hid (Bls A0 w.heap.size M) := by rw [hA0]; exact HM.out
      rw [← hA0]
      clear hA0 HM HBR HNX HRX
      go_wp2_with fail
      go_loopw [16, 17] (fun v16 v17 wr => ∃ (k : Nat) (l : List Int), k ≤ n ∧ v17 = .int .i64 k ∧ Hid (OwnI wr A0.heap.size v16 l) ∧ Hid (l.length ≤ k) ∧ Hid (Below A0.heap.size A0 wr)) (fun _ v17 _ => n - (intOf v17).toNat)
      case atStart => exact ⟨0, [], Nat.zero_le _, rfl, World.ownsRow_nil _ _ _ _, Nat.le_refl _, Below.refl _ _⟩
      case round =>
        obtain ⟨k, l, hk, rfl, HO, HLK, HBA⟩ := hrel
        have HBX := Lib.hid (bchain HB0.out HBA.out)
        obtain ⟨Al, nl, cl, rfl, _, _, HNO, _⟩ := HO.out.rd.op
        by_cases hlt : k < n
        · obtain ⟨b, off, e, rfl, hb, hdl, c0, c1, c2, c3, c4, c5, c6, c7⟩ := (HR.out k hlt).below HBX.out
          have hk0 : (0 : Int) ≤ (k : Int) := by omega
          have m0 := (HM00.out.below HBA.out).cell (j := k) (by rw [HML.out]; exact hlt)
          cases hm : M.getD k false
          · rw [hm] at m0
            go_wp2_with fail
            go_roundw
            case rel => exact ⟨k + 1, l, by omega, by go_num, HO.out, by have := HLK.out; rw [Hid]; omega, HBA.out⟩
            case measure => simp [intOf]; omega
          · rw [hm] at m0
            have hnl : nl ≤ 1000000 := by have := HLK.out; rw [HNO.out] at this; omega
            have hbs : A0.heap.size ≤ wr.heap.size := HBA.out.size
            go_wp2_with (at_builtin; refine wpList_app_int rfl (.tmp 101) (.tmp 107) rfl A0.heap.size (.slice Al nl cl) l rfl HO.out e.id nl HNO hnl hbs rfl ?_; intro g' cap' w5 ho hge hg; have HO5 := Lib.hid ho; have HB5 := Lib.hid (below_grown HBA.out (Nat.le_refl _) HO.out hg); clear ho hg)
            go_roundw
            case rel => exact ⟨k + 1, _, by omega, by go_num, HO5.out, by rw [Hid, List.length_append]; have := HLK.out; simp; omega, HB5.out⟩
            case measure => simp [intOf]; omega
        · go_wp2_with fail
          go_ret
          exact ⟨⟨_, _, rfl, HO.out.rd⟩, HBX.out⟩
end Go.Proofs.YtiopgbbggeimaaaGreat
