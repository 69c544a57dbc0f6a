/-
  The part of older texts that this seat needs (printed by shake.py): U4 U5
-/
import Derived.Test.YtdijlakeonionaaZ5
/-
  Trim of fst.
-/
namespace Go.Proofs.Ytdijlakeonionaa
open Go.ChangeShapes Go.WideShapes Go.ChangeAt Go.RowKit
theorem FBlk.free {w : World} {R : Nat} {x y z : Value} (h : FBlk w R x y z) (j : Nat) : w.frozen? ⟨R, j, none⟩ = false := by
  unfold FBlk at h
  simp [World.frozen?, h]
theorem FBlk.set0 {w : World} {R : Nat} {x y z : Value} (h : FBlk w R x y z) (u : Value) : FBlk (w.setCell ⟨R, 0, none⟩ u) R u y z := by
  unfold FBlk at h ⊢
  simp [World.setCell, Array.getElem?_modify, h]
theorem FBlk.set1 {w : World} {R : Nat} {x y z : Value} (h : FBlk w R x y z) (u : Value) : FBlk (w.setCell ⟨R, 1, none⟩ u) R x u z := by
  unfold FBlk at h ⊢
  simp [World.setCell, Array.getElem?_modify, h]
theorem FBlk.set2 {w : World} {R : Nat} {x y z : Value} (h : FBlk w R x y z) (u : Value) : FBlk (w.setCell ⟨R, 2, none⟩ u) R x y u := by
  unfold FBlk at h ⊢
  simp [World.setCell, Array.getElem?_modify, h]
def keysS (S : Nat) : List Int := (List.range S).map fun (q : Nat) => (q : Int)
theorem mem_keysS {S q : Nat} (h : q < S) : (q : Int) ∈ keysS S := List.mem_map.2 ⟨q, List.mem_range.2 h, rfl⟩
theorem own_sliceA {w : World} {base : Nat} {v : Value} {l : List PArc} (h : OwnA w base v l) : ∃ A c, v = .slice A l.length c := by
  rcases h.2 with ⟨rfl, h0⟩ | ⟨g, cap, cur, rfl, _⟩
  · exact ⟨none, 0, by rw [h0]⟩
  · exact ⟨_, _, rfl⟩
theorem Frm.fblk {n : Nat} {X : Nat → Prop} {w w1 : World} (h : Frm n X w w1) {R : Nat} {x y z : Value} (hk : FBlk w R x y z) (hn : R < n) (hX : ¬ X R) : FBlk w1 R x y z := (h.2 R hn hX).trans hk
theorem row_ne_fblk {w : World} {base size n R : Nat} {e : TypeId} {v x y z : Value} {xs : List Value} (h : w.ownsRow base e size v n xs) (hF : FBlk w R x y z) (he : e ≠ 48) : v.ownBlock ≠ some R := fun h2 => by
  obtain ⟨cs, hc⟩ := row_type h h2
  unfold FBlk at hF
  rw [hF] at hc
  injection hc with hc2
  injection hc2 with _ h3
  exact he h3.symm
set_option maxHeartbeats 4000000 in
set_option maxRecDepth 100000 in
theorem ftrim_any (v : Value) (F : PFst) (w : World) (hv : RdF w v F) (hF : FinOk F) (hFl : F.final.length ≤ 1000000) :
    Calls Try.prog 52 #[v] w fun e w' => (∃ v', e = .returned v' ∧ OwnF w.heap.size w' v' (trimF F)) ∧ Below w.heap.size w w' := by
  have HV := Lib.hid hv
  obtain ⟨va, vf, rfl, ha, hf⟩ := hv
  obtain ⟨A, n, c, rfl, _, _, hn, hr⟩ := ha.op
  obtain ⟨A', n', c', rfl, _, _, hn', hr'⟩ := hf.op
  have HF := Lib.hid hF
  have HFL := Lib.hid hFl
  obtain ⟨S, hS⟩ : ∃ S : Nat, F.states = (S : Int) := ⟨F.states.toNat, by have := hF.right.1; omega⟩
  have hS2 : S ≤ 4096 := by have := hF.st; omega
  have hnl : n ≤ 262144 := by have := hF.al; rw [hn.out] at this; exact this
  have HSN := Lib.hid hS
  have hST : F.states.toNat = S := by omega
  have HUS : Hid (usefulL F = useK F S) := by rw [Hid, usefulL, hST]
  have hmm := @run_makeMap Try.prog
  rw [hS]
  clear ha hf hF hFl hS hST
  go_enter Try.func52, Try.ntmps52
  go_wp2_with fail
  generalize hw1 : World.alloc w _ = W1
  obtain ⟨B, hB⟩ : ∃ B, w.heap.size = B := ⟨_, rfl⟩
  have HB1 : Hid (Below w.heap.size w W1) := by rw [← hw1]; exact (Below.refl _ _).alloc (Nat.le_refl _) _
  have HP1 : Hid (FBlk W1 B (.int .i64 (S : Int)) (.slice A n c) (.slice A' n' c')) := by rw [← hw1, ← hB]; exact heap_alloc_new w _
  have hs1 : W1.heap.size = B + 1 := by rw [← hw1, ← hB]; simp
  generalize hw2 : World.alloc W1 _ = W2
  obtain ⟨br, hbr⟩ : ∃ br, B + 1 = br := ⟨_, rfl⟩
  have HX2 : Hid (Below W1.heap.size W1 W2) := by rw [← hw2]; exact (Below.refl _ _).alloc (Nat.le_refl _) _
  have HR2 : Hid (FBlk W2 br (.int .i64 0) (.slice none 0 0) (.slice none 0 0)) := by rw [← hw2, ← hbr, ← hs1]; exact heap_alloc_new W1 _
  have HP2 := Lib.hid (HP1.out.below HX2.out)
  have HB2 : Hid (Below w.heap.size w W2) := bchain HB1.out HX2.out
  have HGS : Hid (w.heap.size = B ∧ B + 1 = br) := ⟨hB, hbr⟩
  rw [hB, hbr]
  clear hw1 hw2 hs1 hB hbr HB1 HP1 HX2
  have h1 := useful_any _ F W2 (HV.out.below HB2.out) HF.out HFL.out
  rw [HSN.out] at h1
  refine h1.mono ?_
  rintro e W3 ⟨⟨vu, rfl, hu⟩, hb⟩
  rw [HUS.out] at hu
  have HUO : Hid (OwnI W3 w.heap.size vu (useK F S)) := own_base hu HB2.out.size
  obtain ⟨_, Au, cu, rfl⟩ := own_slice hu
  have HB3 : Hid (Below w.heap.size w W3) := bchain HB2.out hb
  have HP3 := Lib.hid (HP2.out.below hb)
  have HR3 := Lib.hid (HR2.out.below hb)
  have HNU : Hid ((useK F S).length ≤ S) := useK_len F S
  clear hu hb h1 HB2 HP2 HR2
  go_wp2_with fail
  obtain ⟨bm, hbm⟩ : ∃ bm, W3.heap.size = bm := ⟨_, rfl⟩
  generalize hw4 : World.alloc W3 _ = W4
  have HX4 : Hid (Below W3.heap.size W3 W4) := by rw [← hw4]; exact (Below.refl _ _).alloc (Nat.le_refl _) _
  have HM4 : Hid (OwnM NI W4 bm (keysS S) (numF F [])) := by rw [← hw4, ← numF_nil]; exact OwnM.made NI W3 _ bm hbm
  have hs4 : W4.heap.size = bm + 1 := by rw [← hw4, World.size_alloc, hbm]
  generalize hw5 : World.alloc W4 _ = W5
  obtain ⟨bt, hbt⟩ : ∃ bt, bm + 1 = bt := ⟨_, rfl⟩
  have HX5 : Hid (Below W4.heap.size W4 W5) := by rw [← hw5]; exact (Below.refl _ _).alloc (Nat.le_refl _) _
  have HT5 : Hid (FBlk W5 bt (.int .i64 1) (.slice none 0 0) (.slice none 0 0)) := by rw [← hw5, ← hbt, ← hs4]; exact heap_alloc_new W4 _
  have HM5 := Lib.hid (HM4.out.below HX5.out)
  have HX35 : Hid (Below W3.heap.size W3 W5) := bchain HX4.out HX5.out
  have HP5 := Lib.hid (HP3.out.below HX35.out)
  have HR5 := Lib.hid (HR3.out.below HX35.out)
  have HB5 : Hid (Below w.heap.size w W5) := bchain HB3.out HX35.out
  have HUO5 : Hid (OwnI W5 _ _ _) := own_below HUO.out HX35.out
  have HGT : Hid (br < bm ∧ bm + 1 = bt ∧ B < bm) := ⟨by have := HR3.out.lt; omega, hbt, by have := HP3.out.lt; omega⟩
  rw [hbm, hbt]
  clear hw4 hw5 hs4 hbm hbt HX4 HX5 HX35 HM4 HP3 HR3 HUO HB3 hmm
  obtain ⟨n5, hn5⟩ : ∃ n5, W5.heap.size = n5 := ⟨_, rfl⟩
  have HN5 := Lib.hid hn5
  have HLT5 : Hid (bt < n5) := by have := HT5.out.lt; unfold Hid; omega
  clear hn5
  obtain ⟨lu, hlu⟩ : ∃ lu, useK F S = lu := ⟨_, rfl⟩
  have HLU := Lib.hid hlu
  rw [hlu] at HUO5 HNU ⊢
  clear hlu
  go_loopg [24] lu.length (fun gk v24 wr => ∃ j : Nat, j ≤ lu.length ∧ gk = lu.length - j ∧ v24 = .int .i64 j ∧ Hid (OwnM NI wr bm (keysS S) (numF F (lu.take j))) ∧ Hid (FBlk wr bt (.int .i64 (1 + (nz (lu.take j) : Int))) (.slice none 0 0) (.slice none 0 0)) ∧ Hid (Frm n5 (fun k => k = bm ∨ k = bt) W5 wr))
  case atStart => exact ⟨0, Nat.zero_le _, rfl, rfl, HM5.out, HT5.out, Frm.refl _ _ _⟩
  case round =>
    obtain ⟨j, hj, hg, rfl, HM, HT, HFR⟩ := hrel
    have HG := Lib.hid hg
    clear hg
    have HUOr : Hid (OwnI wr w.heap.size (.slice Au lu.length cu) lu) := by
      refine own_keep HUO5.out fun k cs m _ hk _ => HFR.out.2 k (by have := (Array.getElem?_eq_some_iff.1 hk).1; have := HN5.out; omega) ?_
      rintro (e | e)
      · exact HM5.out.ne hk e
      · have h := HT5.out
        unfold FBlk at h
        rw [e, h] at hk
        injection hk with hk2
        injection hk2 with _ h3
        exact absurd h3 (by decide)
    obtain ⟨_, _, _, he, _, _, HLN, HRU⟩ := HUOr.out.rd.op
    cases he
    obtain ⟨t0, t1, t2, tf0, _, _⟩ := HT.out.facts
    have htl := HT.out.lt
    by_cases hlt : j < lu.length
    · obtain ⟨ub, uo, x, rfl, hub, hdr, ue⟩ := HRU.out j hlt
      have hat := at_of_drop hdr.out
      rw [← HLU.out] at hat
      obtain ⟨q, rfl, hqS, huq, htk⟩ := useK_at hat
      rw [HLU.out] at htk
      have HTK : Hid (lu.take (j + 1) = lu.take j ++ [(q : Int)]) := take_of_drop hdr.out
      have HNZ : Hid (nz (lu.take j) = cntU F q) := by rw [Hid, htk, nz_useK]
      have hcu := cntU_le F q
      have hwq : InI (q : Int) := by unfold InI; omega
      have HWQ := Lib.hid hwq
      have HMK : Hid ((q : Int) ∈ keysS S) := mem_keysS hqS
      have HKL : Hid ((keysS S).length < maxLen) := by simp only [Hid, keysS, List.length_map, List.length_range, maxLen]; omega
      rw [HNZ.out] at t0
      clear hat huq htk hwq
      by_cases hq0 : q = 0
      · subst hq0
        go_wp2_with (first | (at_mapUpdate; refine wpList_putM (S := NI) rfl (.tmp 30) (.tmp 31) (.const (.int .i64 0)) (.inl rfl) bm (keysS S) (numF F (lu.take j)) 0 0 rfl rfl rfl HM.out HWQ.out inI0 HMK.out HKL.out ?_; intro w7 hm7 hg7) | fail)
        have hput := numF_snoc F (lu.take j) 0
        rw [show numU F (0 : Int).toNat = 0 from rfl] at hput
        rw [hput] at hm7
        have HM7 := Lib.hid hm7
        have HG7 := Lib.hid hg7
        clear hm7 hg7 hput
        go_roundg (lu.length - (j + 1))
        case measure => rw [HG.out]; omega
        case rel => exact ⟨j + 1, by omega, rfl, by go_num, by rw [HTK.out]; exact HM7.out, by
            rw [HTK.out, nz_snoc]
            have h := HT.out
            simp only [Int.natCast_zero, if_true, Nat.add_zero]
            exact (HG7.out.block bt h.lt (by have := HGT.out; simp; omega)).trans h, HFR.out.grown HG7.out (by have := HFR.out.size; have := HN5.out; omega) (fun k hk => by cases hk; exact .inl (.inl rfl))⟩
      · have hq1 : ((q : Int) == 0) = false := by simp; omega
        have HNQ : Hid (numU F q = 1 + (cntU F q : Int)) := by rw [Hid, numU, if_neg hq0]
        have hwv : InI (1 + (cntU F q : Int)) := by unfold InI; omega
        have HWV := Lib.hid hwv
        clear hwv
        go_wp2_with (first | (at_mapUpdate; refine wpList_putM (S := NI) rfl (.tmp 32) (.tmp 33) (.tmp 35) (.inl rfl) bm (keysS S) (numF F (lu.take j)) (q : Int) (1 + (cntU F q : Int)) rfl rfl rfl HM.out HWQ.out HWV.out HMK.out HKL.out ?_; intro w7 hm7 hg7; have HT7 : Hid (FBlk w7 bt (.int .i64 (1 + (nz (lu.take j) : Int))) (.slice none 0 0) (.slice none 0 0)) := (hg7.block bt HT.out.lt (by have := HGT.out; simp; omega)).trans HT.out; obtain ⟨t0, t1, t2, tf0, _, _⟩ := HT7.out.facts; have htl7 := HT7.out.lt; rw [HNZ.out] at t0) | fail)
        have hput := numF_snoc F (lu.take j) (q : Int)
        rw [Int.toNat_natCast, HNQ.out] at hput
        rw [hput] at hm7
        have HM7 := Lib.hid hm7
        have HG7 := Lib.hid hg7
        clear hm7 hg7 hput
        go_roundg (lu.length - (j + 1))
        case measure => rw [HG.out]; omega
        case rel =>
          have hnz : (1 + (nz (lu.take (j + 1)) : Int)) = 1 + (cntU F q : Int) + 1 := by
            rw [HTK.out, nz_snoc, HNZ.out, if_neg (by omega)]
            omega
          refine ⟨j + 1, by omega, rfl, by go_num, ?_, by rw [hnz]; exact HT7.out.set0 _, (HFR.out.grown HG7.out (by have := HFR.out.size; have := HN5.out; omega) (fun k hk => by cases hk; exact .inl (.inl rfl))).setCell ⟨bt, 0, none⟩ _ (.inl (.inr rfl))⟩
          rw [HTK.out]
          exact HM7.out.same (Below.heap_setCell w7 ⟨bt, 0, none⟩ _ bm (by have := HGT.out; simp only; omega))
    · have hjl : lu.take j = lu := List.take_of_length_le (by omega)
      rw [hjl] at HM HT
      have HP6 := Lib.hid (HFR.out.fblk HP5.out (by have := HGT.out; have := HLT5.out; omega) (by have := HGT.out; omega))
      have HR6 := Lib.hid (HFR.out.fblk HR5.out (by have := HGT.out; have := HLT5.out; omega) (by have := HGT.out; omega))
      have HB6 : Hid (Below w.heap.size w wr) := HB5.out.trans (HFR.out.below (by have := HB5.out.size; have := HN5.out; omega) (fun k hk e => by have := HGT.out; have := HGS.out; omega))
      obtain ⟨p0, p1, p2, _, _, _⟩ := HP6.out.facts
      have hpl := HP6.out.lt
      rw [← HLU.out] at HM HT
      rw [nz_useK] at HT
      go_wp2_with fail
      clear p0 p1 p2 hpl t0 t1 t2 tf0 htl HUOr HLN HRU HUO5 HM5 HP5 HR5 HB5 HFR HT5
      obtain ⟨wo, rfl⟩ : ∃ wo : World, wo = wr := ⟨_, rfl⟩
      obtain ⟨n6, hn6⟩ : ∃ n6, wo.heap.size = n6 := ⟨_, rfl⟩
      have HN6 := Lib.hid hn6
      have HLT6 : Hid (bt < n6) := by have := HT.out.lt; unfold Hid; omega
      have HS6 : Hid (w.heap.size ≤ n6) := by have := HB6.out.size; unfold Hid; omega
      clear hn6
      have HNF : Hid (∀ q : Nat, q < S → numF F (useK F S) (q : Int) = if useB F q then some (numU F q) else none) := fun q h => numF_at F h
      go_loopg [44] n (fun gk v44 wx => ∃ (k : Nat) (Ax : Option Addr) (m cx : Nat), k ≤ n ∧ gk = n - k ∧ v44 = .int .i64 k ∧ Hid (OwnA wx n6 (.slice Ax m cx) (trimA F (F.arcs.take k))) ∧ Hid (FBlk wx bt (.int .i64 (1 + (cntU F S : Int))) (.slice Ax m cx) (.slice none 0 0)) ∧ Hid (Frm n6 (fun k => k = bt) wo wx))
      case atStart => exact ⟨0, none, 0, 0, Nat.zero_le _, rfl, rfl, (show OwnA wo n6 (.slice none 0 0) [] from World.ownsRow_nil _ _ _ _), HT.out, Frm.refl _ _ _⟩
      case round =>
        obtain ⟨k, Ax, m, cx, hk, hg, rfl, HO, HT2, HFR⟩ := hrel
        have HG2 := Lib.hid hg
        clear hg
        obtain ⟨_, _, he⟩ := own_sliceA HO.out
        cases he
        have hbx : Below w.heap.size w wr := HB6.out.trans (HFR.out.below (by have := HB6.out.size; have := HN6.out; omega) (fun k hk e => by have := HGT.out; have := HGS.out; omega))
        by_cases hlt2 : k < n
        · obtain ⟨bb, off, x0, x1, x2, x3, rfl, hbb, hdr, e0, e1, e2, e3⟩ := (hr.out k hlt2).below hbx
          have HTK : Hid (F.arcs.take (k + 1) = F.arcs.take k ++ [⟨x0, x1, x2, x3⟩]) := take_of_drop hdr.out
          obtain ⟨y0, y1, y2, y3⟩ := HF.out.right.2.1 _ (List.mem_of_mem_drop (by rw [hdr.out]; exact List.mem_cons_self))
          simp only at y0 y1 y2 y3
          obtain ⟨q0, rfl⟩ : ∃ q : Nat, x0 = (q : Int) := ⟨x0.toNat, by omega⟩
          obtain ⟨q3, rfl⟩ : ∃ q : Nat, x3 = (q : Int) := ⟨x3.toNat, by omega⟩
          have hq0 : q0 < S := by have := HSN.out; omega
          have hq3 : q3 < S := by have := HSN.out; omega
          have HTA : Hid (trimA F (F.arcs.take (k + 1)) = trimA F (F.arcs.take k) ++ if useB F q0 && useB F q3 then [⟨numU F q0, x1, x2, numU F q3⟩] else []) := by
            rw [Hid, HTK.out, trimA_snoc]
            simp only [Int.toNat_natCast]
          have HLN : Hid ((trimA F (F.arcs.take k)).length ≤ 1000000) := Nat.le_trans (trimA_len _ _) (by rw [List.length_take]; omega)
          have HMr : Hid (OwnM NI wr bm (keysS S) (numF F (useK F S))) := HM.out.same (HFR.out.2 bm (by have := HGT.out; have := HLT6.out; omega) (by have := HGT.out; omega))
          have hbl : bb < wr.heap.size := hbb
          clear y0 y1 y2 y3 hbx
          go_upto_region 15 with (fail)
          generalize hY : World.alloc wr _ = Y
          obtain ⟨ga, hga⟩ : ∃ ga, wr.heap.size = ga := ⟨_, rfl⟩
          have HYB : Hid (Below wr.heap.size wr Y) := by rw [← hY]; exact (Below.refl _ _).alloc (Nat.le_refl _) _
          have HYA : Hid (ABlk Y ga (q0 : Int) x1 x2 (q3 : Int)) := by rw [← hY, ← hga]; exact heap_alloc_new wr _
          have HOY : Hid (OwnA Y n6 _ _) := own_below HO.out HYB.out
          have HTY := Lib.hid (HT2.out.below HYB.out)
          have HMY := Lib.hid (HMr.out.below HYB.out)
          have HFY : Hid (Frm n6 (fun k => k = bt) wo Y) := HFR.out.trans (.of_below (HYB.out.mono (by have := HFR.out.size; have := HN6.out; omega)))
          have HGA0 : Hid (n6 ≤ ga) := by have := HFR.out.size; have := HN6.out; unfold Hid; omega
          rw [hga]
          clear hY hga e0 e1 e2 e3 HMr HT2 HFR HO
          obtain ⟨a0, a1, a2, a3⟩ := HYA.out.cells
          have hal := (Array.getElem?_eq_some_iff.1 HYA.out).1
          have hl1 : (Instr.lookup 123 (.map (some bm)) (.int .i64 (q0 : Int)) true).run Try.prog Y = .ok (.tuple #[.int .i64 ((numF F (useK F S) (q0 : Int)).getD 0), .bool (numF F (useK F S) (q0 : Int)).isSome]) Y := HMY.out.look_ok (q0 : Int) (show InI (q0 : Int) by unfold InI; omega)
          have hl2 : (Instr.lookup 123 (.map (some bm)) (.int .i64 (q3 : Int)) true).run Try.prog Y = .ok (.tuple #[.int .i64 ((numF F (useK F S) (q3 : Int)).getD 0), .bool (numF F (useK F S) (q3 : Int)).isSome]) Y := HMY.out.look_ok (q3 : Int) (show InI (q3 : Int) by unfold InI; omega)
          rw [HNF.out q0 hq0] at hl1
          rw [HNF.out q3 hq3] at hl2
          obtain ⟨u0, hu0⟩ : ∃ u, useB F q0 = u := ⟨_, rfl⟩
          obtain ⟨u3, hu3⟩ : ∃ u, useB F q3 = u := ⟨_, rfl⟩
          rw [hu0, hu3] at HTA
          rw [hu0] at hl1
          rw [hu3] at hl2
          clear hu0 hu3
          cases huu : (u0 && u3)
          · have HTS : Hid (trimA F (F.arcs.take (k + 1)) = trimA F (F.arcs.take k)) := by rw [Hid, HTA.out, huu]; simp
            cases u0
            · simp only [Bool.false_eq_true, if_false, Option.getD_none, Option.isSome_none] at hl1
              cases u3
              · simp only [Bool.false_eq_true, if_false, Option.getD_none, Option.isSome_none] at hl2
                go_wp2_with fail
                go_roundg (n - (k + 1))
                case measure => rw [HG2.out]; omega
                case rel => exact ⟨k + 1, _, _, _, by omega, rfl, by go_num, by rw [HTS.out]; exact HOY.out, HTY.out, HFY.out⟩
              · simp only [if_true, Option.getD_some, Option.isSome_some] at hl2
                go_wp2_with fail
                go_roundg (n - (k + 1))
                case measure => rw [HG2.out]; omega
                case rel => exact ⟨k + 1, _, _, _, by omega, rfl, by go_num, by rw [HTS.out]; exact HOY.out, HTY.out, HFY.out⟩
            · obtain rfl : u3 = false := by simpa using huu
              simp only [if_true, Option.getD_some, Option.isSome_some] at hl1
              simp only [Bool.false_eq_true, if_false, Option.getD_none, Option.isSome_none] at hl2
              go_wp2_with fail
              go_roundg (n - (k + 1))
              case measure => rw [HG2.out]; omega
              case rel => exact ⟨k + 1, _, _, _, by omega, rfl, by go_num, by rw [HTS.out]; exact HOY.out, HTY.out, HFY.out⟩
          · simp only [Bool.and_eq_true] at huu
            obtain ⟨rfl, rfl⟩ := huu
            simp only [if_true, Option.getD_some, Option.isSome_some] at hl1 hl2
            have HTS : Hid (trimA F (F.arcs.take (k + 1)) = trimA F (F.arcs.take k) ++ [⟨numU F q0, x1, x2, numU F q3⟩]) := by rw [Hid, HTA.out]; simp
            obtain ⟨t0, t1, t2, _, tf1, _⟩ := HTY.out.facts
            have htl := HTY.out.lt
            have hbY : n6 ≤ Y.heap.size := by have := HFY.out.size; have := HN6.out; omega
            go_wp2_with (at_builtin; refine wpList_app_arc rfl (.tmp 67) (.tmp 75) rfl n6 (.slice Ax (trimA F (F.arcs.take k)).length cx) (trimA F (F.arcs.take k)) rfl HOY.out (numU F q0) x1 x2 (numU F q3) _ (Lib.hid rfl) HLN.out hbY rfl ?_; intro g8 c8 w8 ho8 hgg8 hg8; have HT8 : Hid (FBlk w8 bt (.int .i64 (1 + (cntU F S : Int))) (.slice Ax (trimA F (F.arcs.take k)).length cx) (.slice none 0 0)) := (hg8.block bt HTY.out.lt (Ne.symm (row_ne_fblk HOY.out HTY.out (by decide)))).trans HTY.out; obtain ⟨s0, s1, s2, _, sf1, _⟩ := HT8.out.facts; have hsl := HT8.out.lt; have HO8 := Lib.hid ho8; have HG8 := Lib.hid hg8; clear ho8 hg8 hgg8)
            clear t0 t1 t2 tf1 htl s0 s1 s2 sf1 hsl a0 a1 a2 a3 hal hl1 hl2
            go_roundg (n - (k + 1))
            case measure => rw [HG2.out]; omega
            case rel => exact ⟨k + 1, _, _, _, by omega, rfl, by go_num, by rw [HTS.out]; exact own_setCell HO8.out (row_ne_fblk HO8.out HT8.out (by decide)) _ _, HT8.out.set1 _, (HFY.out.grown HG8.out hbY (fun i hi => .inr (World.ownsRow.lt HOY.out i hi).1)).setCell ⟨bt, 1, none⟩ _ (.inl rfl)⟩
        · have hkn : F.arcs.take k = F.arcs := List.take_of_length_le (by rw [hn.out]; omega)
          rw [hkn] at HO HT2
          have HS67 : Hid (n6 ≤ wr.heap.size) := by have := HFR.out.size; have := HN6.out; unfold Hid; omega
          have HP7 := Lib.hid (HFR.out.fblk HP6.out (by have := HGT.out; have := HLT6.out; omega) (by have := HGT.out; omega))
          have HR7 := Lib.hid (HFR.out.fblk HR6.out (by have := HGT.out; have := HLT6.out; omega) (by have := HGT.out; omega))
          have HB7 := Lib.hid hbx
          have HM7 : Hid (OwnM NI wr bm (keysS S) (numF F (useK F S))) := HM.out.same (HFR.out.2 bm (by have := HGT.out; have := HLT6.out; omega) (by have := HGT.out; omega))
          obtain ⟨p0, p1, p2, _, _, _⟩ := HP7.out.facts
          have hpl := HP7.out.lt
          go_wp2_with fail
          clear p0 p1 p2 hpl HFR HM HP6 HR6 HB6 HT hbx hkn
          obtain ⟨wo2, rfl⟩ : ∃ wo : World, wo = wr := ⟨_, rfl⟩
          obtain ⟨n7, hn7⟩ : ∃ n7, wo2.heap.size = n7 := ⟨_, rfl⟩
          have HN7 := Lib.hid hn7
          have HLT7 : Hid (bt < n7) := by have := HT2.out.lt; unfold Hid; omega
          clear hn7
          go_loopg [82] n' (fun gk v82 wx => ∃ (k : Nat) (Ay : Option Addr) (m cy : Nat), k ≤ n' ∧ gk = n' - k ∧ v82 = .int .i64 k ∧ Hid (OwnI wx n7 (.slice Ay m cy) (trimE F (F.final.take k))) ∧ Hid (FBlk wx bt (.int .i64 (1 + (cntU F S : Int))) (.slice Ax (trimA F F.arcs).length cx) (.slice Ay m cy)) ∧ Hid (Frm n7 (fun k => k = bt) wo2 wx))
          case atStart => exact ⟨0, none, 0, 0, Nat.zero_le _, rfl, rfl, (show OwnI wo2 n7 (.slice none 0 0) [] from World.ownsRow_nil _ _ _ _), HT2.out, Frm.refl _ _ _⟩
          case round =>
            obtain ⟨i, Ay, m, cy, hi, hg, rfl, HE, HT3, HFR⟩ := hrel
            have HG3 := Lib.hid hg
            clear hg
            obtain ⟨_, _, _, he⟩ := own_slice HE.out
            cases he
            have hbx : Below w.heap.size w wr := HB7.out.trans (HFR.out.below (by have := HB7.out.size; have := HN7.out; omega) (fun k hk e => by have := HGT.out; have := HGS.out; omega))
            by_cases hlt3 : i < n'
            · obtain ⟨b, off, x, rfl, hbl, hdr, e0⟩ := (hr'.out i hlt3).below hbx
              have HTK : Hid (F.final.take (i + 1) = F.final.take i ++ [x]) := take_of_drop hdr.out
              obtain ⟨hx0, hxS⟩ := HF.out.right.2.2 x (List.mem_of_mem_drop (by rw [hdr.out]; exact List.mem_cons_self))
              obtain ⟨q, rfl⟩ : ∃ q : Nat, x = (q : Int) := ⟨x.toNat, by omega⟩
              have hqS : q < S := by have := HSN.out; omega
              have HTE : Hid (trimE F (F.final.take (i + 1)) = trimE F (F.final.take i) ++ if useB F q then [numU F q] else []) := by
                rw [Hid, HTK.out, trimE_snoc]
                simp only [Int.toNat_natCast]
              have HLN : Hid ((trimE F (F.final.take i)).length ≤ 1000000) := Nat.le_trans (trimE_len _ _) (by have := HFL.out; rw [List.length_take]; omega)
              have HMr : Hid (OwnM NI wr bm (keysS S) (numF F (useK F S))) := HM7.out.same (HFR.out.2 bm (by have := HGT.out; have := HLT7.out; omega) (by have := HGT.out; omega))
              have hl1 : (Instr.lookup 123 (.map (some bm)) (.int .i64 (q : Int)) true).run Try.prog wr = .ok (.tuple #[.int .i64 ((numF F (useK F S) (q : Int)).getD 0), .bool (numF F (useK F S) (q : Int)).isSome]) wr := HMr.out.look_ok (q : Int) (show InI (q : Int) by unfold InI; omega)
              rw [HNF.out q hqS] at hl1
              obtain ⟨t0, t1, t2, _, _, tf2⟩ := HT3.out.facts
              have htl := HT3.out.lt
              clear hx0 hxS hbx
              cases hu : useB F q
              · rw [hu] at hl1
                simp only [Bool.false_eq_true, if_false, Option.getD_none, Option.isSome_none] at hl1
                have HTS : Hid (trimE F (F.final.take (i + 1)) = trimE F (F.final.take i)) := by rw [Hid, HTE.out, hu]; simp
                clear hu
                go_wp2_with fail
                go_roundg (n' - (i + 1))
                case measure => rw [HG3.out]; omega
                case rel => exact ⟨i + 1, _, _, _, by omega, rfl, by go_num, by rw [HTS.out]; exact HE.out, HT3.out, HFR.out⟩
              · rw [hu] at hl1
                simp only [if_true, Option.getD_some, Option.isSome_some] at hl1
                have HTS : Hid (trimE F (F.final.take (i + 1)) = trimE F (F.final.take i) ++ [numU F q]) := by rw [Hid, HTE.out, hu]; simp
                clear hu
                have hbY : n7 ≤ wr.heap.size := by have := HFR.out.size; have := HN7.out; omega
                have hln : (trimE F (F.final.take i)).length ≤ 1000000 := HLN.out
                go_wp2_with (at_builtin; refine wpList_app_int rfl (.tmp 94) (.tmp 96) rfl n7 (.slice Ay (trimE F (F.final.take i)).length cy) (trimE F (F.final.take i)) rfl HE.out (numU F q) _ (Lib.hid rfl) hln hbY rfl ?_; intro g8 c8 w8 ho8 hgg8 hg8; have HT8 : Hid (FBlk w8 bt (.int .i64 (1 + (cntU F S : Int))) (.slice Ax (trimA F F.arcs).length cx) (.slice Ay (trimE F (F.final.take i)).length cy)) := (hg8.block bt HT3.out.lt (Ne.symm (row_ne_fblk HE.out HT3.out (by decide)))).trans HT3.out; obtain ⟨s0, s1, s2, _, _, sf2⟩ := HT8.out.facts; have hsl := HT8.out.lt; have HO8 := Lib.hid ho8; have HG8 := Lib.hid hg8; clear ho8 hg8 hgg8)
                clear t0 t1 t2 tf2 htl s0 s1 s2 sf2 hsl hl1
                go_roundg (n' - (i + 1))
                case measure => rw [HG3.out]; omega
                case rel => exact ⟨i + 1, _, _, _, by omega, rfl, by go_num, by rw [HTS.out]; exact own_setCell HO8.out (row_ne_fblk HO8.out HT8.out (by decide)) _ _, HT8.out.set2 _, (HFR.out.grown HG8.out hbY (fun i hi => .inr (World.ownsRow.lt HE.out i hi).1)).setCell ⟨bt, 2, none⟩ _ (.inl rfl)⟩
            · have hin : F.final.take i = F.final := List.take_of_length_le (by rw [hn'.out]; omega)
              rw [hin] at HE HT3
              have HR8 := Lib.hid (HFR.out.fblk HR7.out (by have := HGT.out; have := HLT7.out; omega) (by have := HGT.out; omega))
              have HO8 : Hid (OwnA wr n6 (.slice Ax (trimA F F.arcs).length cx) (trimA F F.arcs)) := own_keep HO.out fun k cs m _ hk _ => HFR.out.2 k (by have := (Array.getElem?_eq_some_iff.1 hk).1; have := HN7.out; omega) (fun e => by
                have h := HT2.out
                unfold FBlk at h
                rw [e, h] at hk
                injection hk with hk2
                injection hk2 with _ h3
                exact absurd h3 (by decide))
              have HB8 := Lib.hid hbx
              obtain ⟨t0, t1, t2, _, _, _⟩ := HT3.out.facts
              have htl := HT3.out.lt
              obtain ⟨r0, r1, r2, rf0, rf1, rf2⟩ := HR8.out.facts
              have hrl := HR8.out.lt
              have HSZ : Hid (w.heap.size ≤ n6 ∧ n6 ≤ n7) := ⟨HS6.out, by have := HS67.out; have := HN7.out; omega⟩
              clear hbx hin
              go_wp2_with fail
              refine bodyPost_ret (v := .agg #[.int .i64 (1 + (cntU F S : Int)), .slice Ax (trimA F F.arcs).length cx, .slice Ay (trimE F F.final).length cy]) ?_ rfl ?_
              · simp [results, Try.results52, go_sem, r0, r1, r2]
              have hne1 := row_ne_fblk HO8.out HR8.out (by decide)
              have hne2 := row_ne_fblk HE.out HR8.out (by decide)
              refine ⟨⟨_, rfl, _, _, by simp only [trimF]; rw [show F.states.toNat = S by have := HSN.out; omega], own_setCell (own_setCell (own_setCell (own_base HO8.out HSZ.out.1) hne1 _ _) hne1 _ _) hne1 _ _, own_setCell (own_setCell (own_setCell (own_base HE.out (Nat.le_trans HSZ.out.1 HSZ.out.2)) hne2 _ _) hne2 _ _) hne2 _ _⟩, ?_⟩
              exact ((HB8.out.setCell (by have := HGS.out; simp only; omega) _).setCell (by have := HGS.out; simp only; omega) _).setCell (by have := HGS.out; simp only; omega) _
end Go.Proofs.Ytdijlakeonionaa

/-
  Trim and Empty of the reference 20; Empty of fst.
-/
namespace Go.Proofs.Ytdijlakeonionaa
open Go.ChangeShapes Go.WideShapes Go.ChangeAt Go.RowKit
/-- the names that were given below k -/
structure NmOk (F : PFst) (S k : Nat) (D : List Int) : Prop where
  len : D.length = S
  nm : ∀ r, r < k → useB F r = true → D.getD r 0 = numU F r
theorem NmOk.start (F : PFst) (S : Nat) : NmOk F S 1 (List.replicate S 0) := by
  refine ⟨by simp, fun r hr _ => ?_⟩
  have : r = 0 := by omega
  subst this
  simp only [List.getD_eq_getElem?_getD, List.getElem?_replicate, numU, if_true]
  split <;> rfl
theorem NmOk.skip {F : PFst} {S k : Nat} {D : List Int} (h : NmOk F S k D) (hu : useB F k = false) : NmOk F S (k + 1) D :=
  ⟨h.len, fun r hr hr2 => by
    by_cases e : r = k
    · subst e; rw [hu] at hr2; cases hr2
    · exact h.nm r (by omega) hr2⟩
theorem NmOk.set {F : PFst} {S k : Nat} {D : List Int} (h : NmOk F S k D) (hk : k < S) : NmOk F S (k + 1) (D.set k (numU F k)) :=
  ⟨by rw [List.length_set]; exact h.len, fun r hr hr2 => by
    rw [getD_setI]
    by_cases e : k = r
    · subst e; rw [if_pos ⟨rfl, by rw [h.len]; exact hk⟩]
    · rw [if_neg (fun h => e h.1)]; exact h.nm r (by omega) hr2⟩
end Go.Proofs.Ytdijlakeonionaa

