/-
  FstopsIdentity: the walk.
-/
import Derived.Test.YtmeppkkoepmlnaaT27
namespace Go.Proofs.Ytmeppkkoepmlnaa
open Go.ChangeShapes Go.WideShapes Go.ChangeAt Go.RowKit
theorem rsame_b (v u : Value) (xs ys : List Int) (w : World) (hv : RdI w v xs) (hu : RdI w u ys) :
    Calls Try.prog 20 #[v, u] w fun e w' => e = .returned (.bool (sameB xs ys)) ∧ Below w.heap.size w w' :=
  (rsame_any v u xs ys w hv hu).mono fun _ _ ⟨h, n, hw⟩ => ⟨h, by rw [hw]; exact below_drewN (Below.refl _ _) n⟩
def allIn (l xs : List Int) : Bool := xs.all (hasB l)
theorem allIn_iff (l xs : List Int) : allIn l xs = true ↔ ∀ x, x ∈ xs → x ∈ l := by simp [allIn, hasB_iff]
theorem symE_long {most : Int} {xs : List Int} (h : symE most xs = 0) : (xs.length : Int) ≤ most ∧ SymOk xs := by
  unfold symE at h
  split at h
  · cases h
  · split at h
    · rename_i h1 h2; exact ⟨by omega, symOk_of h2⟩
    · cases h
set_option maxHeartbeats 8000000 in
set_option maxRecDepth 100000 in
theorem ident_walk (v x : Value) (l xs ys : List Int) (w : World) (hv : RdI w v l) (hx : RdT w x xs ys) :
    Calls Try.prog 4 #[v, x] w fun e w' => e = .returned (.bool true) ∧ Below w.heap.size w w' := by
  obtain ⟨A0, n0, c0, rfl, _, _, HN0, _⟩ := hv.op
  obtain ⟨vx, vy, rfl, hx1, hx2⟩ := id hx
  obtain ⟨X1, k1, e1, rfl, hke, hec, HK1, hr1⟩ := hx1.op
  obtain ⟨X2, k2, e2, rfl, _, _, HK2, _⟩ := hx2.op
  have HV := Lib.hid hv
  have HX := Lib.hid hx
  have HX1 := Lib.hid hx1
  have HX2 := Lib.hid hx2
  clear hx1 hx2 hv hx
  have HBW0 : Hid (∀ o, Below w.heap.size w (w.alloc o)) := fun o => (Below.refl _ _).alloc (Nat.le_refl _) _
  by_cases hn : 100 < n0
  · have hn' : decide (100 < (n0 : Int)) = true := by simp; omega
    go_enter Try.func4, Try.ntmps4
    go_wp2_with fail
    refine (awake_any _).mono ?_
    rintro e wz ⟨rfl, hbz⟩
    have HBZ := Lib.hid (bchain (HBW0.out _) hbz)
    clear hbz
    go_wp2_with fail
    go_ret
    exact ⟨rfl, HBZ.out⟩
  have hn' : decide (100 < (n0 : Int)) = false := by simp; omega
  have HLL : Hid (l.length ≤ 100) := by rw [Hid, HN0.out]; omega
  go_enter Try.func4, Try.ntmps4
  go_wp2_with fail
  generalize hW : World.alloc w _ = W
  have HP : Hid (TBlk W w.heap.size (.slice X1 k1 e1) (.slice X2 k2 e2)) := by rw [← hW]; exact heap_alloc_new w _
  have HBW : Hid (Below w.heap.size w W) := by rw [← hW]; exact HBW0.out _
  clear hW HBW0
  have HV := Lib.hid (HV.out.below HBW.out)
  have HX := Lib.hid (HX.out.below HBW.out)
  have HX1 := Lib.hid (HX1.out.below HBW.out)
  have HX2 := Lib.hid (HX2.out.below HBW.out)
  refine (short_any _ xs ys _ HX.out).mono ?_
  rintro e w1 ⟨rfl, hb⟩
  have HB1 := Lib.hid hb
  clear hb
  cases hsh : (decide (xs.length ≤ 4) && decide (ys.length ≤ 4))
  · skip
    go_wp2_with fail
    refine (awake_any _).mono ?_
    rintro e wz ⟨rfl, hbz⟩
    have HBZ := Lib.hid (bchain (HB1).out hbz)
    clear hbz
    go_wp2_with fail
    go_ret
    exact ⟨rfl, bchain HBW.out HBZ.out⟩
  simp only [Bool.and_eq_true, decide_eq_true_eq] at hsh
  have HSH := Lib.hid hsh
  clear hsh
  have hs1 : W.heap.size ≤ w1.heap.size := HB1.out.size
  go_wp2_with (at_builtin; refine wpList_app_ints rfl (.tmp 21) (.tmp 22) rfl w1.heap.size (.slice (some ⟨w1.heap.size, 0, none⟩) 0 0) [] rfl (own_newI w1 w1.heap.size _ rfl (Nat.le_refl _)) (.slice A0 n0 c0) l rfl ((HV.out.below HB1.out).alloc _) (by have := HLL.out; simp; omega) (by simp) ?_; intro vc w2 ho hg _; have HO := Lib.hid ho; have HG := Lib.hid hg; clear ho hg)
  have HB2 : Hid (Below W.heap.size W w2) := (HB1.out.alloc hs1 _).grown HG.out (by simp; omega) (fun k hk => by simp [Value.ownBlock] at hk; omega)
  have HRC : Hid (RdI w2 vc l) := by rw [Hid]; have := HO.out.rd; simpa using this
  clear HO HG
  by_cases hsy : symE 60 l = 0
  · refine (ident_yes _ l _ HRC.out (by have := HLL.out; omega) (by rw [wrongE_one]; exact hsy)).mono ?_
    rintro e w3 ⟨⟨vF, rfl, hof⟩, hb⟩
    obtain ⟨oa, of, he, hca, hcf⟩ := id hof
    subst he
    obtain ⟨C1, z1, o1, rfl, _, _, _, _⟩ := hca.rd.op
    obtain ⟨C2, z2, o2, rfl, _, _, _, _⟩ := hcf.rd.op
    have HB3 := Lib.hid (bchain HB2.out hb)
    have HOF := Lib.hid hof.rd
    clear hb hof hca hcf
    go_wp2_with fail
    generalize hX3 : World.alloc w3 _ = W3
    have BX : Hid (Box W3 w3.heap.size (identF l)) := by rw [← hX3]; exact Box.make HOF.out
    have HB4 : Hid (Below W.heap.size W W3) := by rw [← hX3]; exact HB3.out.alloc HB3.out.size _
    clear hX3
    generalize w3.heap.size = g at BX ⊢
    refine (rident_any _ l _ (HV.out.below HB4.out) (by have := HLL.out; omega)).mono ?_
    rintro e w4 ⟨⟨s5, A5, n5, c5, A5', n5', c5', rfl⟩, hb⟩
    rw [hsy]
    have HB5 := Lib.hid (bchain HB4.out hb)
    have BX5 := Lib.hid (BX.out.below hb)
    have HSY := Lib.hid hsy
    clear hb BX hsy
    go_wp2_with fail
    generalize hX3 : World.alloc w4 _ = W4
    have HB6 : Hid (Below W.heap.size W W4) := by rw [← hX3]; exact HB5.out.alloc HB5.out.size _
    have BX6 : Hid (Box W4 g (identF l)) := by rw [← hX3]; exact BX5.out.below ((Below.refl _ _).alloc (Nat.le_refl _) _)
    clear hX3 BX5 HB5
    obtain ⟨p0, p1, hp⟩ := (HP.out.below HB6.out).facts
    have HRL := Lib.hid (HV.out.below HB6.out)
    have hkk : k1 ≤ 4 := by have := HSH.out.1; rw [HK1.out] at this; exact this
    go_loop [9, 10] (fun b i => ∃ k : Nat, k ≤ k1 ∧ i = .int .i64 k ∧ b = .bool (allIn l (xs.take k))) (fun _ i => k1 - (intOf i).toNat)
    case atStart => exact ⟨0, Nat.zero_le _, rfl, rfl⟩
    case round =>
      obtain ⟨k, hk, rfl, rfl⟩ := hrel
      by_cases hlt : k < k1
      · obtain ⟨b, off, y, rfl, hbl, hd, hck⟩ := ((hr1.out k hlt).below HBW.out).below HB6.out
        have HAL : Hid (allIn l (xs.take (k + 1)) = (allIn l (xs.take k) && hasB l y)) := by rw [Hid, take_of_drop hd.out]; simp [allIn]
        cases hal : allIn l (xs.take k)
        · go_wp2_with fail
          go_round
          case rel => exact ⟨k + 1, by omega, by go_num, by rw [HAL.out, hal]; rfl⟩
          case measure => simp [intOf]; omega
        · go_wp2_with fail
          refine (has_any _ l y _ HRL.out).mono ?_
          rintro e w9 ⟨rfl, rfl⟩
          go_wp2_with fail
          go_round
          case rel => exact ⟨k + 1, by omega, by go_num, by rw [HAL.out, hal]; rfl⟩
          case measure => simp [intOf]; omega
      · have HALL : Hid (allIn l (xs.take k) = allIn l xs) := by rw [Hid, List.take_of_length_le (by rw [HK1.out]; omega)]
        generalize hbb : allIn l (xs.take k) = bb at HALL ⊢
        clear hbb
        have HSO := Lib.hid (symE_long HSY.out)
        have HGI := Lib.hid (ident_good l HSO.out.2 (by have := HSO.out.1; omega))
        have HA1 : Hid (accB (identF l) xs ys = (bb && sameB xs ys)) := by
          rw [Hid, HALL.out, Bool.eq_iff_iff, accB_iff, ident_acc l HSO.out.2 (by have := HSO.out.1; omega), Bool.and_eq_true, allIn_iff, sameB_iff]
          exact ⟨fun h => ⟨h.2, h.1⟩, fun h => ⟨h.2, h.1⟩⟩
        have HA2 : Hid (accB (identF l) xs xs = bb) := by
          rw [Hid, HALL.out, Bool.eq_iff_iff, accB_iff, ident_acc l HSO.out.2 (by have := HSO.out.1; omega), allIn_iff]
          exact ⟨fun h => h.2, fun h => ⟨rfl, h⟩⟩
        obtain ⟨D1, y1, q1, D2, y2, q2, r0, r1, r2, hgl, HRU⟩ := BX6.out.open
        have HS : Hid (∀ w' : World, Below W4.heap.size W4 w' → (w'.cell? ⟨g, 0, none⟩ = some (.int .i64 (identF l).states) ∧ w'.cell? ⟨g, 1, none⟩ = some (.slice D1 y1 q1) ∧ w'.cell? ⟨g, 2, none⟩ = some (.slice D2 y2 q2)) ∧ w'.cell? ⟨w.heap.size, 0, none⟩ = some (.slice X1 k1 e1) ∧ w'.cell? ⟨w.heap.size, 1, none⟩ = some (.slice X2 k2 e2)) := by
          intro w' h
          obtain ⟨t0, t1, _⟩ := (HP.out.below (bchain HB6.out h)).facts
          exact ⟨⟨(h.cell hgl).trans r0, (h.cell hgl).trans r1, (h.cell hgl).trans r2⟩, t0, t1⟩
        clear r0 r1 r2
        have HQ1 := Lib.hid (HX1.out.below HB6.out)
        have HQ2 := Lib.hid (HX2.out.below HB6.out)
        have HQX := Lib.hid (HX.out.below HB6.out)
        have HQQ : Hid (RdT W4 (.agg #[.slice X1 k1 e1, .slice X1 k1 e1]) xs xs) := ⟨_, _, rfl, HQ1.out, HQ1.out⟩
        have HBB := Lib.hid (bchain HBW.out HB6.out)
        cases bb
        all_goals
          go_wp2_with fail
          refine wp_region_mix 21 [0, 1, 2, 3, 4, 5, 6, 7, 8, 9, 10, 11, 12, 13, 14, 15, 16, 17, 18, 19, 20] [] [(true, 0), (true, 1), (true, 2), (true, 3), (true, 4), (true, 5), (true, 6), (true, 7), (true, 8), (false, 9), (true, 10), (false, 11), (true, 12), (true, 13), (true, 14), (true, 15), (true, 16), (true, 17), (true, 18), (true, 19), (true, 20), (false, 21), (false, 22), (false, 23), (false, 24), (false, 25), (false, 26)] (fun w' => Below W4.heap.size W4 w') (by kernel_rfl) (by kernel_rfl) ?_
          rintro D hD
          have HSD : Hid (Below W4.heap.size W4 D) := by rw [hD]; exact (Below.refl _ _).drew
          clear hD
          refine ⟨HSD.out, ?_⟩
          iterate 5 (refine wpMix_q (v := ?_) rfl rfl (fun w' hS => ?_) ?_; rotate_left; (focus ((try obtain ⟨⟨s0, s1, s2⟩, s3, s4⟩ := HS.out _ (hS rfl)); clear hS; go_simp; try with_reducible rfl; done)); (try simp only [Act.put, List.setIfInBounds_toArray, List.set_cons_zero, List.set_cons_succ]))
        · skip
          iterate 4 (refine wpMix_qskip rfl rfl ?_; (try simp only [Act.put, List.setIfInBounds_toArray, List.set_cons_zero, List.set_cons_succ]))
          refine wpMix_eskip rfl rfl HSD.out ?_
          (try simp only [Act.put, List.setIfInBounds_toArray, List.set_cons_zero, List.set_cons_succ])
          (refine wpMix_q (v := ?_) rfl rfl (fun w' hS => ?_) ?_; rotate_left; (focus ((try obtain ⟨⟨s0, s1, s2⟩, s3, s4⟩ := HS.out _ (hS rfl)); clear hS; go_simp; try with_reducible rfl; done)); (try simp only [Act.put, List.setIfInBounds_toArray, List.set_cons_zero, List.set_cons_succ]))
          refine wpMix_e rfl rfl (fun K hK => ?_)
          go_simp
          refine (takes_any _ _ (identF l) xs ys _ _ (HRU.out.below HSD.out) (HQX.out.below HSD.out) HGI.out (le4 HSH.out.1) (le4 HSH.out.2)).mono ?_
          rintro e Y1 ⟨rfl, hb⟩
          refine hK.out _ _ (fun _ => bchain HSD.out hb) ?_
          clear hK K
          (try simp only [Act.put, List.setIfInBounds_toArray, List.set_cons_zero, List.set_cons_succ])
          have HSY1 := Lib.hid (bchain HSD.out hb)
          clear hb
          rw [show (accB (identF l) xs ys == false) = true by rw [HA1.out]; rfl]
          iterate 9 (refine wpMix_q (v := ?_) rfl rfl (fun w' hS => ?_) ?_; rotate_left; (focus ((try obtain ⟨⟨s0, s1, s2⟩, s3, s4⟩ := HS.out _ (hS rfl)); clear hS; go_simp; try with_reducible rfl; done)); (try simp only [Act.put, List.setIfInBounds_toArray, List.set_cons_zero, List.set_cons_succ]))
          refine wpMix_e rfl rfl (fun K hK => ?_)
          go_simp
          refine (takes_any _ _ (identF l) xs xs _ _ (HRU.out.below HSY1.out) (HQQ.out.below HSY1.out) HGI.out (le4 HSH.out.1) (le4 HSH.out.1)).mono ?_
          rintro e Y3 ⟨rfl, hb⟩
          refine hK.out _ _ (fun _ => bchain HSY1.out hb) ?_
          clear hK K
          (try simp only [Act.put, List.setIfInBounds_toArray, List.set_cons_zero, List.set_cons_succ])
          have HSY3 := Lib.hid (bchain HSY1.out hb)
          clear hb
          rw [show (accB (identF l) xs xs == false) = true by rw [HA2.out]; rfl]
          (refine wpMix_e rfl rfl (fun K hK => ?_); go_simp; refine hK.out _ _ (fun h => absurd h (by decide)) ?_; clear hK K; (try simp only [Act.put, List.setIfInBounds_toArray, List.set_cons_zero, List.set_cons_succ]))
          (refine wpMix_e rfl rfl (fun K hK => ?_); go_simp; refine hK.out _ _ (fun h => absurd h (by decide)) ?_; clear hK K; (try simp only [Act.put, List.setIfInBounds_toArray, List.set_cons_zero, List.set_cons_succ]))
          refine wpMix_e rfl rfl (fun K hK => ?_)
          go_simp
          refine (awake_any _).mono ?_
          rintro e Y9 ⟨rfl, hb⟩
          refine hK.out _ _ (fun h => absurd h (by decide)) ?_
          clear hK K
          (try simp only [Act.put, List.setIfInBounds_toArray, List.set_cons_zero, List.set_cons_succ])
          have HSY9 := Lib.hid (bchain HSY3.out hb)
          clear hb
          (refine wpMix_e rfl rfl (fun K hK => ?_); go_simp; refine hK.out _ _ (fun h => absurd h (by decide)) ?_; clear hK K; (try simp only [Act.put, List.setIfInBounds_toArray, List.set_cons_zero, List.set_cons_succ]))
          (refine wpMix_e rfl rfl (fun K hK => ?_); go_simp; refine hK.out _ _ (fun h => absurd h (by decide)) ?_; clear hK K; (try simp only [Act.put, List.setIfInBounds_toArray, List.set_cons_zero, List.set_cons_succ]))
          refine wpMix_nil ?_
          refine NoPanic.normal ?_
          go_wp2_with fail
          go_ret
          exact ⟨rfl, bchain HBB.out HSY9.out⟩
        · skip
          iterate 4 (refine wpMix_q (v := ?_) rfl rfl (fun w' hS => ?_) ?_; rotate_left; (focus ((try obtain ⟨⟨s0, s1, s2⟩, s3, s4⟩ := HS.out _ (hS rfl)); clear hS; go_simp; try with_reducible rfl; done)); (try simp only [Act.put, List.setIfInBounds_toArray, List.set_cons_zero, List.set_cons_succ]))
          refine wpMix_e rfl rfl (fun K hK => ?_)
          go_simp
          refine (rsame_b _ _ xs ys _ (HQ1.out.below HSD.out) (HQ2.out.below HSD.out)).mono ?_
          rintro e Y0 ⟨rfl, hb⟩
          refine hK.out _ _ (fun _ => bchain HSD.out hb) ?_
          clear hK K
          (try simp only [Act.put, List.setIfInBounds_toArray, List.set_cons_zero, List.set_cons_succ])
          have HSY0 := Lib.hid (bchain HSD.out hb)
          clear hb
          (refine wpMix_q (v := ?_) rfl rfl (fun w' hS => ?_) ?_; rotate_left; (focus ((try obtain ⟨⟨s0, s1, s2⟩, s3, s4⟩ := HS.out _ (hS rfl)); clear hS; go_simp; try with_reducible rfl; done)); (try simp only [Act.put, List.setIfInBounds_toArray, List.set_cons_zero, List.set_cons_succ]))
          refine wpMix_e rfl rfl (fun K hK => ?_)
          go_simp
          refine (takes_any _ _ (identF l) xs ys _ _ (HRU.out.below HSY0.out) (HQX.out.below HSY0.out) HGI.out (le4 HSH.out.1) (le4 HSH.out.2)).mono ?_
          rintro e Y1 ⟨rfl, hb⟩
          refine hK.out _ _ (fun _ => bchain HSY0.out hb) ?_
          clear hK K
          (try simp only [Act.put, List.setIfInBounds_toArray, List.set_cons_zero, List.set_cons_succ])
          have HSY1 := Lib.hid (bchain HSY0.out hb)
          clear hb
          rw [show (accB (identF l) xs ys == sameB xs ys) = true by rw [HA1.out]; simp]
          iterate 9 (refine wpMix_q (v := ?_) rfl rfl (fun w' hS => ?_) ?_; rotate_left; (focus ((try obtain ⟨⟨s0, s1, s2⟩, s3, s4⟩ := HS.out _ (hS rfl)); clear hS; go_simp; try with_reducible rfl; done)); (try simp only [Act.put, List.setIfInBounds_toArray, List.set_cons_zero, List.set_cons_succ]))
          refine wpMix_e rfl rfl (fun K hK => ?_)
          go_simp
          refine (takes_any _ _ (identF l) xs xs _ _ (HRU.out.below HSY1.out) (HQQ.out.below HSY1.out) HGI.out (le4 HSH.out.1) (le4 HSH.out.1)).mono ?_
          rintro e Y3 ⟨rfl, hb⟩
          refine hK.out _ _ (fun _ => bchain HSY1.out hb) ?_
          clear hK K
          (try simp only [Act.put, List.setIfInBounds_toArray, List.set_cons_zero, List.set_cons_succ])
          have HSY3 := Lib.hid (bchain HSY1.out hb)
          clear hb
          rw [show (accB (identF l) xs xs == true) = true by rw [HA2.out]; rfl]
          (refine wpMix_e rfl rfl (fun K hK => ?_); go_simp; refine hK.out _ _ (fun h => absurd h (by decide)) ?_; clear hK K; (try simp only [Act.put, List.setIfInBounds_toArray, List.set_cons_zero, List.set_cons_succ]))
          (refine wpMix_e rfl rfl (fun K hK => ?_); go_simp; refine hK.out _ _ (fun h => absurd h (by decide)) ?_; clear hK K; (try simp only [Act.put, List.setIfInBounds_toArray, List.set_cons_zero, List.set_cons_succ]))
          refine wpMix_e rfl rfl (fun K hK => ?_)
          go_simp
          refine (awake_any _).mono ?_
          rintro e Y9 ⟨rfl, hb⟩
          refine hK.out _ _ (fun h => absurd h (by decide)) ?_
          clear hK K
          (try simp only [Act.put, List.setIfInBounds_toArray, List.set_cons_zero, List.set_cons_succ])
          have HSY9 := Lib.hid (bchain HSY3.out hb)
          clear hb
          (refine wpMix_e rfl rfl (fun K hK => ?_); go_simp; refine hK.out _ _ (fun h => absurd h (by decide)) ?_; clear hK K; (try simp only [Act.put, List.setIfInBounds_toArray, List.set_cons_zero, List.set_cons_succ]))
          (refine wpMix_e rfl rfl (fun K hK => ?_); go_simp; refine hK.out _ _ (fun h => absurd h (by decide)) ?_; clear hK K; (try simp only [Act.put, List.setIfInBounds_toArray, List.set_cons_zero, List.set_cons_succ]))
          refine wpMix_nil ?_
          refine NoPanic.normal ?_
          go_wp2_with fail
          go_ret
          exact ⟨rfl, bchain HBB.out HSY9.out⟩
  · have he0 : wrongE 60 [l] ≠ 0 := by rw [wrongE_one]; exact hsy
    refine (ident_no _ l _ HRC.out (by have := HLL.out; omega) he0).mono ?_
    rintro e w3 ⟨rfl, hb⟩
    rw [wrongE_one]
    obtain ⟨er, her⟩ : ∃ er, symE 60 l = er := ⟨_, rfl⟩
    have HER := Lib.hid her
    have hne : (er != 0) = true := by rw [← her]; simpa using hsy
    have heq : (er == er) = true := by simp
    have HB3 := Lib.hid (bchain HB2.out hb)
    clear hb he0 hsy
    rw [her]
    clear her
    go_wp2_with fail
    generalize hX3 : World.alloc w3 _ = W3
    have BZ : Hid (FBlk W3 w3.heap.size (.int .i64 0) (.slice none 0 0) (.slice none 0 0)) := by rw [← hX3]; exact heap_alloc_new w3 _
    have HB4 : Hid (Below W.heap.size W W3) := by rw [← hX3]; exact HB3.out.alloc HB3.out.size _
    clear hX3
    generalize w3.heap.size = g at BZ ⊢
    refine (rident_any _ l _ (HV.out.below HB4.out) (by have := HLL.out; omega)).mono ?_
    rintro e w4 ⟨⟨s5, A5, n5, c5, A5', n5', c5', rfl⟩, hb⟩
    rw [HER.out]
    have HB5 := Lib.hid (bchain HB4.out hb)
    have BZ5 := Lib.hid (BZ.out.below hb)
    obtain ⟨r0, r1, r2, hgl⟩ := BZ5.out.facts3
    clear hb BZ
    go_wp2_with fail
    generalize hX3 : World.alloc w4 _ = W4
    have HB6 : Hid (Below W.heap.size W W4) := by rw [← hX3]; exact HB5.out.alloc HB5.out.size _
    refine (fsame_zero _).mono ?_
    rintro e w5 ⟨rfl, hb⟩
    have HB7 := Lib.hid (bchain HB6.out hb)
    clear hb
    go_wp2_with fail
    refine (awake_any _).mono ?_
    rintro e w6 ⟨rfl, hb⟩
    have HB8 := Lib.hid (bchain HB7.out hb)
    clear hb
    go_wp2_with fail
    go_ret
    exact ⟨rfl, bchain HBW.out HB8.out⟩
end Go.Proofs.Ytmeppkkoepmlnaa
