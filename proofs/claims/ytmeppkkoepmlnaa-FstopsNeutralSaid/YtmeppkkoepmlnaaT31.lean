/-
  slices.Clone of ints; Invert of fstops.
-/
import Derived.Test.YtmeppkkoepmlnaaT27
namespace Go.Proofs.Ytmeppkkoepmlnaa
open Go.ChangeShapes Go.WideShapes Go.ChangeAt Go.RowKit
theorem bld_stored {w : World} {R base : Nat} {x y z vf : Value} {S : Int} {l : List Int} (hR : FBlk w R x y z) (h : OwnI w base vf l) (hb : base ≤ R) :
    Bld 29 (((w.setCell ⟨R, 0, none⟩ (.int .i64 S)).setCell ⟨R, 1, none⟩ (.slice none 0 0)).setCell ⟨R, 2, none⟩ vf) base R (.slice none 0 0) vf ⟨S, [], l⟩ := by
  have hI : vf.ownBlock ≠ some R := fun he => by
    obtain ⟨cs, hc⟩ := row_type h he
    exact ne_of_type hR hc (by decide) rfl
  refine ⟨?_, World.ownsRow_nil _ _ _ _, own_setCell (own_setCell (own_setCell h hI _ _) hI _ _) hI _ _, by decide, by decide, hb⟩
  unfold FBlk at hR
  simp [World.setCell, Array.getElem?_modify, hR]
set_option maxHeartbeats 400000 in
theorem clone_any (v : Value) (xs : List Int) (w : World) (hv : RdI w v xs) (hl : xs.length ≤ 1000000) :
    Calls Try.prog 51 #[v] w fun e w' => (∃ v', e = .returned v' ∧ OwnI w' w.heap.size v' xs) ∧ Below w.heap.size w w' := by
  have HV := Lib.hid hv
  have HL := Lib.hid hl
  obtain ⟨A, n, c, rfl, _, _, HN, hr⟩ := hv.op
  clear hv hl
  cases A with
  | none =>
    have hn : n = 0 := by
      rcases Nat.eq_zero_or_pos n with h | h
      · exact h
      · obtain ⟨_, _, _, he, _⟩ := hr.out 0 h; cases he
    have hxs : xs = [] := List.length_eq_zero_iff.1 (by rw [HN.out]; exact hn)
    have HXS := Lib.hid hxs
    clear hxs hn
    have q : ∀ W : World, (binOp .eql 22 (.slice none n c) (.slice none 0 0)).run Try.prog W = .ok (.bool true) W := fun W => Lib.run_eql_slice_nil W _ _ none n c 0 0 Try.underlying22
    go_enter Try.func51, Try.ntmps51
    go_wp2_with fail
    go_ret
    refine ⟨⟨_, rfl, ?_⟩, Below.refl _ _⟩
    rw [HXS.out]
    exact World.ownsRow_nil _ _ _ _
  | some ad =>
    have q : ∀ W : World, (binOp .eql 22 (.slice (some ad) n c) (.slice none 0 0)).run Try.prog W = .ok (.bool false) W := fun W => Lib.run_eql_slice_nil W _ _ (some ad) n c 0 0 Try.underlying22
    go_enter Try.func51, Try.ntmps51
    go_wp2_with (at_builtin; refine wpList_app_ints rfl (.tmp 5) (.tmp 6) rfl w.heap.size (.slice (some ⟨w.heap.size, 0, none⟩) 0 0) [] rfl (own_newI w w.heap.size _ rfl (Nat.le_refl _)) (.slice (some ad) n c) xs rfl (HV.out.alloc _) (by have := HL.out; simp; omega) (by simp) ?_; intro vc w2 ho hg _; have HO := Lib.hid ho; have HG := Lib.hid hg; clear ho hg)
    go_ret
    refine ⟨⟨_, rfl, by simpa using HO.out⟩, ((Below.refl _ _).alloc (Nat.le_refl _) _).grown HG.out (by simp) (fun k hk => by simp [Value.ownBlock] at hk; omega)⟩
set_option maxHeartbeats 2000000 in
theorem invert_any (v : Value) (a : PFst) (w : World) (hv : RdF w v a) (hs : Sane a) :
    Calls Try.prog 31 #[v] w fun e w' => (∃ vF, e = .returned vF ∧ OwnF w.heap.size w' vF (invF a)) ∧ Below w.heap.size w w' := by
  have HS0 := Lib.hid hs
  obtain ⟨va, vf, rfl, ha, hf⟩ := hv
  obtain ⟨A, n, c, rfl, h1, h2, HN, hr⟩ := ha.op
  obtain ⟨A', n', c', rfl, h1', h2', HN', hr'⟩ := hf.op
  have HA := Lib.hid ha
  have HF := Lib.hid hf
  clear ha hf hs
  go_enter Try.func31, Try.ntmps31
  go_upto_region 1 with (fail)
  generalize hW : World.alloc (World.alloc w _) _ = W
  have HP : Hid (FBlk W w.heap.size (.int .i64 a.states) (.slice A n c) (.slice A' n' c')) := by rw [← hW]; exact (Below.heap_alloc _ _ _ (by simp)).trans (heap_alloc_new w _)
  have HR : Hid (FBlk W (w.heap.size + 1) (.int .i64 0) (.slice none 0 0) (.slice none 0 0)) := by
    rw [Hid, FBlk, ← hW]
    have := heap_alloc_new (w.alloc (.cells #[.int .i64 a.states, .slice A n c, .slice A' n' c'] 29)) (.cells #[.int .i64 0, .slice none 0 0, .slice none 0 0] 29)
    simpa using this
  have HBW : Hid (Below w.heap.size w W) := by rw [← hW]; repeat (first | assumption | exact Below.refl _ _ | refine Below.alloc ?_ (by first | omega | (simp; done) | (simp; omega)) _ | refine Below.drew ?_ | refine below_drewN ?_ _ | refine Below.setCell ?_ (by first | omega | (simp; done) | (simp; omega)) _)
  have hWz : W.heap.size = w.heap.size + 2 := by rw [← hW]; simp
  have HWz := Lib.hid hWz
  clear hW hWz
  go_cut [3] (fun s3 wx => ∃ (g : Nat) (vf' : Value), s3 = .pointer (some ⟨g, 0, none⟩) ∧ Hid (Bld 29 wx W.heap.size g (.slice none 0 0) vf' ⟨a.states, [], a.final⟩) ∧ Hid (Below W.heap.size W wx))
  case first =>
    refine wp_region_steps 8 7 [0, 1, 2, 3, 4, 5, 6] [] (fun w' => Below W.heap.size W w') (by kernel_rfl) (by kernel_rfl) ?_
    rintro D hD
    have HSD : Hid (Below W.heap.size W D) := by rw [hD]; exact (Below.refl _ _).drew
    clear hD
    have HS : Hid (∀ w' : World, Below W.heap.size W w' → w'.cell? ⟨w.heap.size, 0, none⟩ = some (.int .i64 a.states) ∧ w'.cell? ⟨w.heap.size, 1, none⟩ = some (.slice A n c) ∧ w'.cell? ⟨w.heap.size, 2, none⟩ = some (.slice A' n' c')) := by
      intro w' h
      obtain ⟨f0, f1, f2, _, _, _⟩ := (HP.out.below h).facts
      exact ⟨f0, f1, f2⟩
    (refine wpE_take 0 (v := ?_) (by kernel_rfl) rfl rfl (by exact HSD.out) (fun w' hS => ?_) ?_; rotate_left; (focus ((try obtain ⟨s0, s1, s2⟩ := HS.out _ (hS rfl)); clear hS; go_simp; try with_reducible rfl; done)); (try simp only [Act.put, List.setIfInBounds_toArray, List.set_cons_zero, List.set_cons_succ]))
    (refine wpE_take 1 (v := ?_) (by kernel_rfl) rfl rfl (by exact HSD.out) (fun w' hS => ?_) ?_; rotate_left; (focus ((try obtain ⟨s0, s1, s2⟩ := HS.out _ (hS rfl)); clear hS; go_simp; try with_reducible rfl; done)); (try simp only [Act.put, List.setIfInBounds_toArray, List.set_cons_zero, List.set_cons_succ]))
    (refine wpE_take 2 (v := ?_) (by kernel_rfl) rfl rfl (by exact HSD.out) (fun w' hS => ?_) ?_; rotate_left; (focus ((try obtain ⟨s0, s1, s2⟩ := HS.out _ (hS rfl)); clear hS; go_simp; try with_reducible rfl; done)); (try simp only [Act.put, List.setIfInBounds_toArray, List.set_cons_zero, List.set_cons_succ]))
    (refine wpE_take 3 (v := ?_) (by kernel_rfl) rfl rfl (by exact HSD.out) (fun w' hS => ?_) ?_; rotate_left; (focus ((try obtain ⟨s0, s1, s2⟩ := HS.out _ (hS rfl)); clear hS; go_simp; try with_reducible rfl; done)); (try simp only [Act.put, List.setIfInBounds_toArray, List.set_cons_zero, List.set_cons_succ]))
    refine wpE_br [4, 6] (by kernel_rfl) ?_
    refine AllE.cons rfl rfl (fun K hK => ?_) (AllE.cons rfl rfl (fun K hK => ?_) AllE.nil)
    · skip
      go_simp
      refine (clone_any _ a.final _ (HF.out.below (bchain HBW.out HSD.out)) (by have := HS0.out.small.2.2.2; omega)).mono ?_
      rintro e Y1 ⟨⟨vc, rfl, hrc⟩, hb⟩
      obtain ⟨_, _, _, rfl, _, _, _, _⟩ := hrc.rd.op
      refine hK.out _ _ (bchain HSD.out hb) ?_
      clear hK K
      (try simp only [Act.put, List.setIfInBounds_toArray, List.set_cons_zero, List.set_cons_succ])
      have HSY1 := Lib.hid (bchain HSD.out hb)
      have HXY1 := Lib.hid hb
      have OY1 : Hid (OwnI Y1 W.heap.size _ a.final) := own_base hrc HSD.out.size
      clear hrc hb
      (refine wpE_take 5 (v := ?_) (by kernel_rfl) rfl rfl (by exact HSY1.out) (fun w' hS => ?_) ?_; rotate_left; (focus ((try obtain s0 := HS.out _ (hS rfl)); clear hS; go_simp; try with_reducible rfl; done)); (try simp only [Act.put, List.setIfInBounds_toArray, List.set_cons_zero, List.set_cons_succ]))
      refine wpE_br [6] (by kernel_rfl) ?_
      refine AllE.cons rfl rfl (fun K hK => ?_) AllE.nil
      go_simp
      refine hK.out _ _ (HSY1.out.alloc HSY1.out.size _) ?_
      clear hK K
      (try simp only [Act.put, List.setIfInBounds_toArray, List.set_cons_zero, List.set_cons_succ])
      generalize hX : World.alloc Y1 _ = Y2
      have HSY2 : Hid (Below W.heap.size W Y2) := by rw [← hX]; exact HSY1.out.alloc HSY1.out.size _
      have HXY2 : Hid (Below Y1.heap.size Y1 Y2) := by rw [← hX]; exact (Below.refl _ _).alloc (Nat.le_refl _) _
      have ZY2 : Hid (FBlk Y2 Y1.heap.size (.int .i64 0) (.slice none 0 0) (.slice none 0 0)) := by rw [← hX]; exact heap_alloc_new _ _
      clear hX
      have OY2 : Hid (OwnI Y2 W.heap.size _ a.final) := own_below OY1.out HXY2.out
      have hge : W.heap.size ≤ Y1.heap.size := HSY1.out.size
      refine wpE_rest 7 (by kernel_rfl) ?_
      simp only [List.drop_succ_cons, List.drop_zero]
      obtain ⟨r0, r1, r2, f0, f1, f2⟩ := (ZY2).out.facts
      go_wp2_with fail
      refine NoPanic.normal ?_
      go_wp2_with fail
      go_meet
      case rel => exact ⟨_, _, rfl, bld_stored (ZY2).out (OY2).out hge, ((HSY2.out.setCell (by exact hge) _).setCell (by exact hge) _).setCell (by exact hge) _⟩
    · skip
      go_simp
      refine hK.out _ _ (HSD.out.alloc HSD.out.size _) ?_
      clear hK K
      (try simp only [Act.put, List.setIfInBounds_toArray, List.set_cons_zero, List.set_cons_succ])
      generalize hX : World.alloc D _ = Y1
      have HSY1 : Hid (Below W.heap.size W Y1) := by rw [← hX]; exact HSD.out.alloc HSD.out.size _
      have HXY1 : Hid (Below D.heap.size D Y1) := by rw [← hX]; exact (Below.refl _ _).alloc (Nat.le_refl _) _
      have ZY1 : Hid (FBlk Y1 D.heap.size (.int .i64 0) (.slice none 0 0) (.slice none 0 0)) := by rw [← hX]; exact heap_alloc_new _ _
      clear hX
      refine wpE_br [4] (by kernel_rfl) ?_
      refine AllE.cons rfl rfl (fun K hK => ?_) AllE.nil
      go_simp
      refine (clone_any _ a.final _ (HF.out.below (bchain HBW.out HSY1.out)) (by have := HS0.out.small.2.2.2; omega)).mono ?_
      rintro e Y2 ⟨⟨vc, rfl, hrc⟩, hb⟩
      obtain ⟨_, _, _, rfl, _, _, _, _⟩ := hrc.rd.op
      refine hK.out _ _ (bchain HSY1.out hb) ?_
      clear hK K
      (try simp only [Act.put, List.setIfInBounds_toArray, List.set_cons_zero, List.set_cons_succ])
      have HSY2 := Lib.hid (bchain HSY1.out hb)
      have HXY2 := Lib.hid hb
      have OY2 : Hid (OwnI Y2 W.heap.size _ a.final) := own_base hrc HSY1.out.size
      clear hrc hb
      (refine wpE_take 5 (v := ?_) (by kernel_rfl) rfl rfl (by exact HSY2.out) (fun w' hS => ?_) ?_; rotate_left; (focus ((try obtain s0 := HS.out _ (hS rfl)); clear hS; go_simp; try with_reducible rfl; done)); (try simp only [Act.put, List.setIfInBounds_toArray, List.set_cons_zero, List.set_cons_succ]))
      have ZY2 := Lib.hid (ZY1.out.below HXY2.out)
      have hge : W.heap.size ≤ D.heap.size := HSD.out.size
      refine wpE_rest 7 (by kernel_rfl) ?_
      simp only [List.drop_succ_cons, List.drop_zero]
      obtain ⟨r0, r1, r2, f0, f1, f2⟩ := (ZY2).out.facts
      go_wp2_with fail
      refine NoPanic.normal ?_
      go_wp2_with fail
      go_meet
      case rel => exact ⟨_, _, rfl, bld_stored (ZY2).out (OY2).out hge, ((HSY2.out.setCell (by exact hge) _).setCell (by exact hge) _).setCell (by exact hge) _⟩
  case rest =>
    obtain ⟨g, vf', rfl, HBG, HBC⟩ := hcut
    have hgw : w.heap.size + 1 < g := by have := HBG.out.le; rw [HWz.out] at this; omega
    obtain ⟨p0, p1, p2, hpl⟩ : wc.cell? ⟨w.heap.size, 0, none⟩ = _ ∧ wc.cell? ⟨w.heap.size, 1, none⟩ = _ ∧ wc.cell? ⟨w.heap.size, 2, none⟩ = _ ∧ w.heap.size < wc.heap.size := ⟨(HP.out.below HBC.out).facts.1, (HP.out.below HBC.out).facts.2.1, (HP.out.below HBC.out).facts.2.2.1, (HP.out.below HBC.out).lt⟩
    have HR2 := Lib.hid (HR.out.below HBC.out)
    have HB2 := Lib.hid (bchain HBW.out HBC.out)
    obtain ⟨base, hbase⟩ : ∃ base, base = W.heap.size := ⟨_, rfl⟩
    have hbw : w.heap.size < base := by rw [hbase, HWz.out]; omega
    rw [← hbase] at HBG
    have HBASE := Lib.hid hbase
    clear hbase
    go_wp2_with fail
    go_loopw [15] (fun i wr => ∃ k : Nat, k ≤ n ∧ i = .int .i64 k ∧ Hid (∃ va', Bld 29 wr base g va' vf' ⟨a.states, (a.arcs.take k).map invArc, a.final⟩) ∧ Hid (Fr base g wc wr)) (fun i _ => n - (intOf i).toNat)
    case atStart => exact ⟨0, Nat.zero_le _, rfl, ⟨_, HBG.out⟩, Fr.refl _ _ _⟩
    case round =>
      obtain ⟨k, hk, rfl, HBE, HFR⟩ := hrel
      obtain ⟨va', hbb⟩ := HBE.out
      have HB := Lib.hid hbb
      clear hbb HBE
      by_cases hlt : k < n
      · obtain ⟨b, off, x0, x1, x2, x3, rfl, hbl, hd, e0, e1, e2, e3⟩ := (hr.out k hlt).below (Fr.below HB2.out (by omega) HFR.out)
        obtain ⟨m, hm⟩ : ∃ m, ((a.arcs.take k).map invArc).length = m := ⟨_, rfl⟩
        have hml : m ≤ 1000000 := by have := HS0.out.small.2.2.1; simp at hm; omega
        have HM := Lib.hid hm
        have c1 := HB.out.c1
        have hBl := HB.out.lt
        have hle := HB.out.le
        have HBA : Hid (∀ o, Bld 29 (wr.alloc o) base g va' vf' ⟨a.states, (a.arcs.take k).map invArc, a.final⟩) := fun o => HB.out.alloc o
        have HFA : Hid (∀ o, Fr base g wc (wr.alloc o)) := fun o => HFR.out.alloc (by have := HBG.out.lt; have := HBG.out.le; omega) o
        clear hm
        go_wp2_with (at_builtin; refine wpList_app_arc rfl (.tmp 20) (.tmp 30) rfl base va' ((a.arcs.take k).map invArc) rfl (HBA.out _).oa x0 x2 x1 x3 m HM hml (by simp; omega) (by simp [Act.eval]) ?_; intro g' cap w3 ho hg hgr; obtain ⟨k1, k2⟩ := (HBA.out _).mid hgr; have HO := Lib.hid ho; clear ho)
        go_roundw
        case rel =>
          have hp := (HBA.out _).pushed hgr HO.out
          have h3 := hp.1
          have e1 : (a.arcs.take k).map invArc ++ [⟨x0, x2, x1, x3⟩] = (a.arcs.take (k + 1)).map invArc := by rw [take_of_drop hd.out]; simp [invArc]
          simp only [e1] at h3
          exact ⟨k + 1, by omega, by go_num, ⟨_, h3⟩, (HFA.out _).trans hp.2⟩
        case measure => simp [intOf]; omega
      · have e1 : a.arcs.take k = a.arcs := List.take_of_length_le (by rw [HN.out]; omega)
        have HBF : Hid (Bld 29 wr base g va' vf' (invF a)) := by have := HB.out; rw [e1] at this; exact this
        have hRw := HR2.out.fr HFR.out (by omega)
        obtain ⟨A3, n3, c3, rfl, q1, q2, _, _⟩ := HB.out.oa.rd.op
        obtain ⟨A4, n4, c4, rfl, _, _, _, _⟩ := HB.out.oi.rd.op
        obtain ⟨r0, r1, r2, f0, f1, f2⟩ := hRw.facts
        have d0 := HB.out.c0
        have d1 := HB.out.c1
        have d2 := HB.out.c2
        have HRW := Lib.hid hRw
        clear hRw e1
        go_wp2_with fail
        refine bodyPost_ret (v := .agg #[.int .i64 a.states, .slice A3 n3 c3, .slice A4 n4 c4]) ?_ rfl ?_
        · simp [results, Try.results31, go_sem, r0, r1, r2]
        refine ⟨⟨_, rfl, ?_⟩, ?_⟩
        · exact OwnF.past HBF.out HRW.out _ _ _ (by omega)
        · exact (((Fr.below HB2.out (by omega) HFR.out).setCell (by first | omega | (simp; done) | (simp; omega)) _).setCell (by first | omega | (simp; done) | (simp; omega)) _).setCell (by first | omega | (simp; done) | (simp; omega)) _
end Go.Proofs.Ytmeppkkoepmlnaa
