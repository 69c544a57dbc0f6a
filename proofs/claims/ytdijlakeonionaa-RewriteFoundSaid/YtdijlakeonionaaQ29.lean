/-
  slices.DeleteFunc at places, with the closure that search hands to it.
-/
import Derived.Test.YtdijlakeonionaaQ28
namespace Go.Proofs.Ytdijlakeonionaa
open Go.ChangeShapes Go.WideShapes Go.ChangeAt Go.RowKit
theorem KnM.apart {I : List PPh} {R : PRule} {wl : List Int} {bm : Nat} {w w' : World} (h : KnM I R wl bm w) {b2 size2 n2 : Nat} {e2 : TypeId} {v : Value} {ys : List Value} (hv : w.ownsRow b2 e2 size2 v n2 ys) (hg : w.grownBy w' v.ownBlock) : KnM I R wl bm w' := by
  obtain ⟨kn, h1, h2⟩ := h
  exact ⟨kn, map_apart h1 hv hg, h2⟩
theorem KnM.ne_row {I : List PPh} {R : PRule} {wl : List Int} {bm : Nat} {w : World} (h : KnM I R wl bm w) {b2 size2 n2 : Nat} {e2 : TypeId} {v : Value} {ys : List Value} (hv : w.ownsRow b2 e2 size2 v n2 ys) : v.ownBlock ≠ some bm := fun e => by
  obtain ⟨cs, hcs⟩ := row_type hv e
  exact h.ne hcs rfl
theorem pl_form {w : World} {base : Nat} {v : Value} {l : List Pl} (h : OwnPl w base v l) (hl : 0 < l.length) : ∃ g cap, v = .slice (some ⟨g, 0, none⟩) l.length cap ∧ l.length ≤ cap ∧ base ≤ g ∧ g < w.heap.size ∧ ∀ j, w.frozen? ⟨g, j, none⟩ = false := by
  obtain ⟨_, ⟨_, h1⟩ | ⟨g, cap, cur, rfl, hb, hg, h1, _⟩⟩ := h
  · omega
  · exact ⟨g, cap, rfl, h1, hb, (Array.getElem?_eq_some_iff.1 hg).1, fun j => by simp [World.frozen?, hg]⟩
theorem pl_cells {w : World} {base g n cap : Nat} {l : List Pl} (h : OwnPl w base (.slice (some ⟨g, 0, none⟩) n cap) l) {k : Nat} (hk : k < n) : ∃ p, Hid (l.drop k = p :: l.drop (k + 1)) ∧ (w.cell? ⟨g, k * 8, none⟩ = some (.int .i64 p.s.cnt) ∧ w.cell? ⟨g, k * 8 + 1, none⟩ = some (.int .u8 p.s.near) ∧ w.cell? ⟨g, k * 8 + 2, none⟩ = some (.int .u8 p.s.far) ∧
    w.cell? ⟨g, k * 8 + 3, none⟩ = some (.int .i8 p.s.o0) ∧ w.cell? ⟨g, k * 8 + 4, none⟩ = some (.int .i8 p.s.o1) ∧ w.cell? ⟨g, k * 8 + 5, none⟩ = some (.int .i8 p.s.o2) ∧ w.cell? ⟨g, k * 8 + 6, none⟩ = some (.int .i64 (p.at_ : Int)) ∧ w.cell? ⟨g, k * 8 + 7, none⟩ = some (.int .i64 (p.left : Int))) := by
  obtain ⟨b, off, p, he, _, hd, hc⟩ := h.at_ hk
  cases he
  rw [Nat.zero_add] at hc
  exact ⟨p, hd, hc⟩
theorem drop_take1' {α : Type} {l : List α} {k : Nat} {x : α} {r : List α} (h : l.drop k = x :: r) : l.take (k + 1) = l.take k ++ [x] := by
  have hk : k < l.length := by
    rcases Nat.lt_or_ge k l.length with h1 | h1
    · exact h1
    · rw [List.drop_of_length_le h1] at h; cases h
  rw [List.drop_eq_getElem_cons hk] at h
  rw [List.take_succ_eq_append_getElem hk, (List.cons.inj h).1]
section
variable {w₀ : World} {I : List PPh} {R : PRule} {wl : List Int} {m : Mch} {beg fin : Bool} {Aw : Option Addr} {nw cw B bm : Nat}
set_option maxHeartbeats 2000000 in
set_option maxRecDepth 100000 in
theorem del_any (HE : Hid (FE w₀ I R wl m beg fin Aw nw cw B bm)) (p : Pl) (bs : Nat) (vf : Value) (w : World) (hpo : PlOk p) (hpa : p.at_ ≤ nw) (h0 : Below w₀.heap.size w₀ w) (hf : FndBlk w B m beg fin Aw nw cw bm vf) (hbx : Boxed w bs 72 (.pointer (some ⟨B, 0, none⟩))) (hkn : KnM I R wl bm w) :
    Calls Try.prog 72 #[plV p, .pointer (some ⟨bs, 0, none⟩)] w fun e w' => e = .returned (.bool (!canP I R wl p)) ∧ CJ I R wl bm w w' := by
  have HB0 := Lib.hid h0
  have HF := Lib.hid hf
  have HBX := Lib.hid hbx
  have HPO := Lib.hid hpo
  have HKN := Lib.hid hkn
  clear h0 hf hbx hpo hkn
  simp only [plV, plA]
  go_enter Try.func72, Try.ntmps72
  go_upto_region 1 with (fail)
  generalize hW : World.alloc w _ = W
  have HBW : Hid (Below w.heap.size w W) := by rw [← hW]; exact al_below _ _
  have HP : Hid (PBlk W w.heap.size p) := by rw [← hW]; exact heap_alloc_new w _
  clear hW
  have HFW := Lib.hid (HF.out.below HBW.out)
  obtain ⟨u0, u1, u2, u3, u4, u5, u6, u7⟩ := HP.out.cells
  have hul := HP.out.lt
  have hbw : Boxed W bs 72 (.pointer (some ⟨B, 0, none⟩)) := (HBW.out.block bs HBX.out.lt).trans HBX.out
  have x0 := hbw.cell
  have x1 := hbw.lt
  clear hbw
  go_wp2_with fail
  clear u0 u1 u2 u3 u4 u5 u6 u7 hul x0 x1
  have hcan := can_any HE p.left p vf W rfl HPO.out hpa (HB0.out.trans (HBW.out.mono HB0.out.size)) HFW.out (HKN.out.below HBW.out)
  simp only [plV, plA] at hcan
  refine hcan.mono ?_
  clear hcan
  rintro e w1 ⟨rfl, hj⟩
  have HJ : Hid (CJ I R wl bm w w1) := CJ.of_below HBW.out hj
  obtain ⟨cn, hcn⟩ : ∃ cn, canP I R wl p = cn := ⟨_, rfl⟩
  have HCN := Lib.hid hcn
  rw [hcn]
  clear hj hcn
  cases cn
  · go_wp2_with fail
    go_ret
    exact ⟨by rw [HCN.out]; rfl, HJ.out⟩
  · go_wp2_with fail
    go_ret
    exact ⟨by rw [HCN.out]; rfl, HJ.out⟩
theorem set_take {α : Type} {lc : List α} {i : Nat} {q : α} (hi : i < lc.length) : (lc.set i q).take (i + 1) = lc.take i ++ [q] := by
  rw [List.set_eq_take_append_cons_drop, if_pos hi, List.take_append, List.length_take, Nat.min_eq_left (Nat.le_of_lt hi), List.take_take, Nat.min_eq_right (by omega), show i + 1 - i = 1 by omega]
  rfl
theorem filter_take {α : Type} {K : α → Bool} {l : List α} {j : Nat} {q : α} {r : List α} (h : l.drop j = q :: r) : (l.take (j + 1)).filter K = (l.take j).filter K ++ if K q then [q] else [] := by
  rw [drop_take1' h, List.filter_append]
  cases hk : K q <;> simp [hk]
def DelX (bm : Nat) (v : Value) (k : Nat) : Prop := k = bm ∨ v.ownBlock = some k
set_option maxHeartbeats 8000000 in
set_option maxRecDepth 100000 in
theorem delF_any (HE : Hid (FE w₀ I R wl m beg fin Aw nw cw B bm)) (v : Value) (l : List Pl) (base bs : Nat) (vf : Value) (w : World) (hl : OwnPl w base v l) (hb0 : w₀.heap.size ≤ base) (hlo : ∀ p, p ∈ l → PlOk p ∧ p.at_ ≤ nw) (hll : l.length ≤ 1000000000) (h0 : Below w₀.heap.size w₀ w) (hf : FndBlk w B m beg fin Aw nw cw bm vf) (hbx : Boxed w bs 72 (.pointer (some ⟨B, 0, none⟩))) (hkn : KnM I R wl bm w) :
    Calls Try.prog 71 #[v, .func (.func 72) #[] #[.pointer (some ⟨bs, 0, none⟩)]] w fun e w' => (∃ v', e = .returned v' ∧ OwnPl w' base v' (l.filter (canP I R wl))) ∧ KnM I R wl bm w' ∧ Frm w.heap.size (DelX bm v) w w' := by
  obtain ⟨A, n, c, rfl⟩ := own_sliceN hl
  have HL := Lib.hid hl
  have HN : Hid (l.length = n) := (own_n hl).symm
  have HLO := Lib.hid hlo
  have HB0 := Lib.hid h0
  have HF := Lib.hid hf
  have HBX := Lib.hid hbx
  have HKN := Lib.hid hkn
  have hnn : n ≤ 1000000000 := by rw [← HN.out]; exact hll
  clear hl hlo h0 hf hbx hkn hll
  go_enter Try.func71, Try.ntmps71
  go_wp2_with fail
  refine (idxC_any 72 (.pointer (some ⟨bs, 0, none⟩)) (fun q => !canP I R wl q) _ l base w (CJ I R wl bm w) (CJ.refl HKN.out) (fun w' h => h.own HKN.out HL.out) (fun q W => by go_simp)
    (fun q hq w' h => (del_any HE q bs vf w' (HLO.out q hq).1 (HLO.out q hq).2 (h.base HB0.out HE.out.bb.2) (h.blk HKN.out HF.out) (h.blk HKN.out HBX.out) h.1).mono fun e w'' hh => ⟨hh.1, h.trans hh.2⟩)).mono ?_
  rintro e w1 ⟨rfl, hj⟩
  have HJ1 := Lib.hid hj
  have HFR1 : Hid (Frm w.heap.size (DelX bm (.slice A n c)) w w1) := (Frm.refl _ _ _).grown hj.2 (Nat.le_refl _) (fun j hj => by cases hj; exact .inl (.inl rfl))
  clear hj
  rcases idxP_spec (fun q => !canP I R wl q) l 0 with ⟨h1, h2⟩ | ⟨i, h1, h2, h3, y, h4, h5⟩
  · rw [h1]
    have HFL : Hid (l.filter (canP I R wl) = l) := filter_all h2
    have HO1 : Hid (OwnPl w1 base (.slice A n c) l) := HJ1.out.own HKN.out HL.out
    clear h1 h2
    go_wp2_with fail
    go_ret
    exact ⟨⟨_, rfl, by rw [HFL.out]; exact HO1.out⟩, HJ1.out.1, HFR1.out⟩
  · rw [h1, Nat.zero_add]
    have hin : i < n := by rw [← HN.out]; exact h2
    obtain ⟨g, cap, he, hcap, hbg, hgs, _⟩ := pl_form HL.out (by omega)
    have hA : A = some ⟨g, 0, none⟩ := by injection he
    have hcc : n ≤ c := by
      have : c = cap := by injection he
      rw [this, ← HN.out]; exact hcap
    subst hA
    have HGS : Hid (w₀.heap.size ≤ g) := Nat.le_trans hb0 hbg
    have HST : Hid ((l.take (i + 1)).filter (canP I R wl) = l.take i) := by
      have hd : l.drop i = y :: l.drop (i + 1) := by
        rw [List.drop_eq_getElem_cons h2]
        rw [List.getElem?_eq_getElem h2] at h4
        rw [Option.some.inj h4]
      have hy : canP I R wl y = false := by simpa using h5
      rw [Hid, filter_take hd, hy, filter_all h3]; simp
    have HO1 : Hid (OwnPl w1 base (.slice (some ⟨g, 0, none⟩) n c) l) := HJ1.out.own HKN.out HL.out
    have HF1 : Hid (FndBlk w1 B m beg fin Aw nw cw bm vf) := HJ1.out.blk HKN.out HF.out
    have HBX1 : Hid (Boxed w1 bs 72 (.pointer (some ⟨B, 0, none⟩))) := HJ1.out.blk HKN.out HBX.out
    have HB1 : Hid (Below w₀.heap.size w₀ w1) := HJ1.out.base HB0.out HE.out.bb.2
    have HKN1 := Lib.hid HJ1.out.1
    have hi0 : (0 : Int) ≤ (i : Int) := by omega
    have hii : ((i : Int) == -1) = false := by simp
    clear h1 h2 h3 h4 h5 he hcap hbg hgs HJ1 HL HF HBX HKN HB0
    go_wp2_with fail
    clear hii
    go_loopw [5, 6] (fun v5 v6 wr => ∃ (i j : Nat) (lc : List Pl), i < j ∧ j ≤ n ∧ v5 = .int .i64 (i : Int) ∧ v6 = .int .i64 (j : Int) ∧ Hid (OwnPl wr base (.slice (some ⟨g, 0, none⟩) n c) lc) ∧ Hid (lc.take i = (l.take j).filter (canP I R wl)) ∧ Hid (lc.drop j = l.drop j) ∧ Hid (KnM I R wl bm wr) ∧ Hid (Frm w.heap.size (DelX bm (.slice (some ⟨g, 0, none⟩) n c)) w wr) ∧ Hid (FndBlk wr B m beg fin Aw nw cw bm vf) ∧ Hid (Boxed wr bs 72 (.pointer (some ⟨B, 0, none⟩))) ∧ Hid (Below w₀.heap.size w₀ wr)) (fun _ v6 _ => n + 1 - (intOf v6).toNat)
    case atStart => exact ⟨i, i + 1, l, by omega, by omega, rfl, by go_num, HO1.out, HST.out.symm, rfl, HKN1.out, HFR1.out, HF1.out, HBX1.out, HB1.out⟩
    case round =>
      clear HO1 HST HKN1 HFR1 HF1 HBX1 HB1 hin hi0
      obtain ⟨i, j, lc, hij, hjn, rfl, rfl, HO, HT, HD, HK, HFR, HF, HBX, HB⟩ := hrel
      have HLC : Hid (lc.length = n) := (own_n HO.out).symm
      have hj0 : (0 : Int) ≤ (j : Int) := by omega
      have hi0 : (0 : Int) ≤ (i : Int) := by omega
      by_cases hlt : j < n
      · have d1 : decide ((j : Int) < (n : Int)) = true := by simp; exact hlt
        obtain ⟨q, hqd, e0, e1, e2, e3, e4, e5, e6, e7⟩ := pl_cells HO.out hlt
        have HQD := Lib.hid hqd.out
        rw [HD.out] at HQD
        have hjl : j < l.length := by rw [HN.out]; exact hlt
        have HQL : Hid (l.drop j = q :: l.drop (j + 1)) := by
          have h := HQD.out
          rw [List.drop_eq_getElem_cons hjl] at h
          rw [Hid, List.drop_eq_getElem_cons hjl, (List.cons.inj h).1]
        have HQI : Hid (q ∈ l) := List.mem_of_mem_drop (by rw [HQL.out]; exact List.mem_cons_self)
        have HDD : Hid (lc.drop (j + 1) = l.drop (j + 1)) := by
          have h := HQD.out
          rw [HQL.out] at h
          exact (List.cons.inj h).2.symm
        have HFT := Lib.hid (filter_take (K := canP I R wl) HQL.out)
        have hgl : g < wr.heap.size := by
          obtain ⟨b, off, p', he, hb', _⟩ := HO.out.at_ hlt
          cases he; exact hb'
        clear hqd HQD hjl
        go_upto_region 8 with (fail)
        clear e0 e1 e2 e3 e4 e5 e6 e7 d1 hgl
        obtain ⟨bx, hbx⟩ : ∃ bx, wr.heap.size = bx := ⟨_, rfl⟩
        generalize hX : World.alloc wr _ = X
        have hbX : Below wr.heap.size wr X := by rw [← hX]; exact al_below _ _
        have HPX : Hid (PBlk X bx q) := by rw [← hX, ← hbx]; exact heap_alloc_new wr _
        have HOX : Hid (OwnPl X base (.slice (some ⟨g, 0, none⟩) n c) lc) := own_below HO.out hbX
        have HKX := Lib.hid (HK.out.below hbX)
        have HFX := Lib.hid (HF.out.below hbX)
        have HBXX : Hid (Boxed X bs 72 (.pointer (some ⟨B, 0, none⟩))) := (hbX.block bs HBX.out.lt).trans HBX.out
        have HBB : Hid (Below w₀.heap.size w₀ X) := HB.out.trans (hbX.mono HB.out.size)
        have HFRX : Hid (Frm w.heap.size (DelX bm (.slice (some ⟨g, 0, none⟩) n c)) w X) := HFR.out.trans (.of_below (hbX.mono HFR.out.size))
        rw [hbx]
        clear hX hbx hbX HO HK HF HBX HB HFR
        obtain ⟨u0, u1, u2, u3, u4, u5, u6, u7⟩ := HPX.out.cells
        have hul := HPX.out.lt
        go_wp2_with fail
        clear u0 u1 u2 u3 u4 u5 u6 u7 hul
        have hdel := del_any HE q bs vf X (HLO.out q HQI.out).1 (HLO.out q HQI.out).2 HBB.out HFX.out HBXX.out HKX.out
        simp only [plV, plA] at hdel
        refine hdel.mono ?_
        clear hdel
        rintro e w3 ⟨rfl, hj3⟩
        have HJ3 := Lib.hid hj3
        have HP3 : Hid (PBlk w3 bx q) := HJ3.out.blk HKX.out HPX.out
        have HO3 : Hid (OwnPl w3 base (.slice (some ⟨g, 0, none⟩) n c) lc) := HJ3.out.own HKX.out HOX.out
        have HF3 : Hid (FndBlk w3 B m beg fin Aw nw cw bm vf) := HJ3.out.blk HKX.out HFX.out
        have HBX3 : Hid (Boxed w3 bs 72 (.pointer (some ⟨B, 0, none⟩))) := HJ3.out.blk HKX.out HBXX.out
        have HB3 : Hid (Below w₀.heap.size w₀ w3) := HJ3.out.base HBB.out HE.out.bb.2
        have HFR3 : Hid (Frm w.heap.size (DelX bm (.slice (some ⟨g, 0, none⟩) n c)) w w3) := HFRX.out.grown hj3.2 HFRX.out.size (fun j hj => by cases hj; exact .inl (.inl rfl))
        clear hj3 HPX HOX HFX HBXX HBB HFRX HKX
        cases hcq : canP I R wl q
        · have HT2 : Hid (lc.take i = (l.take (j + 1)).filter (canP I R wl)) := by rw [Hid, HFT.out, hcq, HT.out]; exact (List.append_nil _).symm
          clear hcq
          go_wp2_with fail
          go_roundw
          case rel => exact ⟨i, j + 1, lc, by omega, by omega, rfl, by go_num, HO3.out, HT2.out, HDD.out, HJ3.out.1, HFR3.out, HF3.out, HBX3.out, HB3.out⟩
          case measure => simp [intOf]; omega
        · have HT2 : Hid ((lc.set i q).take (i + 1) = (l.take (j + 1)).filter (canP I R wl)) := by
            rw [Hid, HFT.out, hcq, set_take (by rw [HLC.out]; omega), HT.out]; simp
          have HD2 : Hid ((lc.set i q).drop (j + 1) = l.drop (j + 1)) := by
            rw [Hid, List.drop_set_of_lt (by omega)]; exact HDD.out
          clear hcq
          have hin : i < n := by omega
          obtain ⟨q0, _, f0, f1, f2, f3, f4, f5, f6, f7⟩ := pl_cells HO3.out hin
          have hgz : ∀ j, w3.frozen? ⟨g, j, none⟩ = false := by
            obtain ⟨g', cap', he, _, _, _, hz⟩ := pl_form HO3.out (by rw [HLC.out]; omega)
            injection he with h1 _ _
            cases h1; exact hz
          have hgl : g < w3.heap.size := by
            obtain ⟨b, off, p', he, hb', _⟩ := HO3.out.at_ hin
            cases he; exact hb'
          obtain ⟨u0, u1, u2, u3, u4, u5, u6, u7⟩ := HP3.out.cells
          have hul := HP3.out.lt
          go_wp2_with fail
          clear f0 f1 f2 f3 f4 f5 f6 f7 hgz hgl u0 u1 u2 u3 u4 u5 u6 u7 hul
          have hst : w3.grownBy (w3.setCells g (i * 8) (plC q)) (some g) := setCells_grown g _ _ _
          have HO4 : Hid (OwnPl (w3.setCells g (i * 8) (plC q)) base (.slice (some ⟨g, 0, none⟩) n c) (lc.set i q)) := pl_put HO3.out hin q
          have HF4 : Hid (FndBlk (w3.setCells g (i * 8) (plC q)) B m beg fin Aw nw cw bm vf) := blk_apart HF3.out HO3.out (by decide) hst
          have HBX4 : Hid (Boxed (w3.setCells g (i * 8) (plC q)) bs 72 (.pointer (some ⟨B, 0, none⟩))) := blk_apart HBX3.out HO3.out (by decide) hst
          have HB4 : Hid (Below w₀.heap.size w₀ (w3.setCells g (i * 8) (plC q))) := HB3.out.grown hst HB3.out.size fun j hj => by cases hj; exact HGS.out
          have HFR4 : Hid (Frm w.heap.size (DelX bm (.slice (some ⟨g, 0, none⟩) n c)) w (w3.setCells g (i * 8) (plC q))) := HFR3.out.grown hst HFR3.out.size (fun j hj => by cases hj; exact .inl (.inr rfl))
          have HK4 : Hid (KnM I R wl bm (w3.setCells g (i * 8) (plC q))) := HJ3.out.1.apart HO3.out hst
          go_roundw
          case rel => exact ⟨i + 1, j + 1, lc.set i q, by omega, by omega, by go_num, by go_num, HO4.out, HT2.out, HD2.out, HK4.out, HFR4.out, HF4.out, HBX4.out, HB4.out⟩
          case measure => simp [intOf]; omega
      · have d1 : decide ((j : Int) < (n : Int)) = false := by simp; omega
        have hin : i ≤ n := by omega
        obtain ⟨vs, hvs, hcl⟩ := run_clear_pl HO.out hin
        have hs1 := slice_lo (some ⟨g, 0, none⟩) n c i hin
        obtain ⟨A1, hA1⟩ : ∃ A1, (if c = i then (some ⟨g, 0, none⟩ : Option Addr) else (some ⟨g, 0, none⟩ : Option Addr).map (·.add (i * 8))) = A1 := ⟨_, rfl⟩
        obtain ⟨n1, hn1⟩ : ∃ n1, n - i = n1 := ⟨_, rfl⟩
        obtain ⟨c1, hc1⟩ : ∃ c1, c - i = c1 := ⟨_, rfl⟩
        rw [hA1, hn1, hc1] at hcl
        rw [hA1, hn1, hc1] at hs1
        have HVS := Lib.hid hvs
        obtain ⟨W4, hW4⟩ : ∃ W4, wr.setCells g (i * 8) vs = W4 := ⟨_, rfl⟩
        have hst : wr.grownBy W4 (some g) := by rw [← hW4]; exact setCells_grown g _ _ _
        have HO4 : Hid (OwnPl W4 base (.slice (some ⟨g, 0, none⟩) i c) (lc.take i)) := by rw [← hW4]; exact pl_cut HO.out hin vs HVS.out
        have HK4 : Hid (KnM I R wl bm W4) := HK.out.apart HO.out hst
        have HFR4 : Hid (Frm w.heap.size (DelX bm (.slice (some ⟨g, 0, none⟩) n c)) w W4) := HFR.out.grown hst HFR.out.size (fun j hj => by cases hj; exact .inl (.inr rfl))
        have HFL : Hid (lc.take i = l.filter (canP I R wl)) := by rw [Hid, HT.out, List.take_of_length_le (by rw [HN.out]; omega)]
        rw [hW4] at hcl
        have hs2 := slice_hi g n c i (by omega)
        clear hA1 hn1 hc1 hvs hst hW4 HO HT HD HK HFR HF HBX HB HLC
        go_wp2_with fail
        go_ret
        exact ⟨⟨_, rfl, by rw [← HFL.out]; exact HO4.out⟩, HK4.out, HFR4.out⟩
end
end Go.Proofs.Ytdijlakeonionaa
