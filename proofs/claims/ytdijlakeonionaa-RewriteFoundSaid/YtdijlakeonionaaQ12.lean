/-
  Lists of rules in memory; Run, Last of both sides; the reference's Same of lists of lists, List, Few.
-/
import Derived.Test.YtdijlakeonionaaQ8
namespace Go.Proofs.Ytdijlakeonionaa
open Go.ChangeShapes Go.WideShapes Go.ChangeAt Go.RowKit
def RAt (w : World) (A : Option Addr) (Rs : List PRule) (k : Nat) : Prop :=
  ∃ b off vf vt vl vr R, A = some ⟨b, off, none⟩ ∧ b < w.heap.size ∧ Hid (Rs.drop k = R :: Rs.drop (k + 1)) ∧
    (w.cell? ⟨b, off + k * 6, none⟩ = some vf ∧ w.cell? ⟨b, off + k * 6 + 1, none⟩ = some vt ∧ w.cell? ⟨b, off + k * 6 + 2, none⟩ = some vl ∧ w.cell? ⟨b, off + k * 6 + 3, none⟩ = some vr ∧ w.cell? ⟨b, off + k * 6 + 4, none⟩ = some (.bool R.beg) ∧ w.cell? ⟨b, off + k * 6 + 5, none⟩ = some (.bool R.fin)) ∧
    Hid (RdR w (.agg #[vf, vt, vl, vr, .bool R.beg, .bool R.fin]) R)
def RdRs (w : World) (v : Value) (Rs : List PRule) : Prop := ∃ (A : Option Addr) (n c : Nat), v = .slice A n c ∧ n ≤ c ∧ c ≤ 9223372036854775807 ∧ Hid (Rs.length = n) ∧ Hid (∀ k, k < n → RAt w A Rs k)
theorem RAt.below {w w' : World} {A : Option Addr} {Rs : List PRule} {k : Nat} (h : RAt w A Rs k) (hb : Below w.heap.size w w') : RAt w' A Rs k := by
  obtain ⟨b, off, vf, vt, vl, vr, R, rfl, h1, h2, ⟨e0, e1, e2, e3, e4, e5⟩, h3⟩ := h
  exact ⟨b, off, vf, vt, vl, vr, R, rfl, by have := hb.size; omega, h2, ⟨(hb.cell h1).trans e0, (hb.cell h1).trans e1, (hb.cell h1).trans e2, (hb.cell h1).trans e3, (hb.cell h1).trans e4, (hb.cell h1).trans e5⟩, h3.out.below hb⟩
theorem RdRs.below {w w' : World} {v : Value} {Rs : List PRule} (h : RdRs w v Rs) (hb : Below w.heap.size w w') : RdRs w' v Rs := by
  obtain ⟨A, n, c, rfl, h1, h2, h3, h4⟩ := h
  exact ⟨A, n, c, rfl, h1, h2, h3, fun k hk => (h4.out k hk).below hb⟩
/-- what the first k rules make of a list -/
def lastK (I : List PPh) (Rs : List PRule) (l : List Int) (k : Nat) : List Int := (Rs.take k).foldl (fun x R => applyF I R x) l
def lastF (I : List PPh) (Rs : List PRule) (l : List Int) : List Int := lastK I Rs l Rs.length
def runK (I : List PPh) (Rs : List PRule) (l : List Int) (k : Nat) : List (List Int) := (List.range k).map fun j => lastK I Rs l (j + 1)
def runF (I : List PPh) (Rs : List PRule) (l : List Int) : List (List Int) := runK I Rs l Rs.length
theorem lastK_succ (I : List PPh) {Rs : List PRule} (l : List Int) {k : Nat} {R : PRule} (h : Rs.drop k = R :: Rs.drop (k + 1)) : lastK I Rs l (k + 1) = applyF I R (lastK I Rs l k) := by
  have hk : k < Rs.length := by
    rcases Nat.lt_or_ge k Rs.length with h' | h'
    · exact h'
    · rw [List.drop_of_length_le h'] at h; cases h
  rw [List.drop_eq_getElem_cons hk] at h
  rw [lastK, List.take_succ_eq_append_getElem hk, (List.cons.inj h).1, List.foldl_append]
  rfl
theorem runK_succ (I : List PPh) (Rs : List PRule) (l : List Int) (k : Nat) : runK I Rs l (k + 1) = runK I Rs l k ++ [lastK I Rs l (k + 1)] := by
  rw [runK, List.range_succ, List.map_append]; rfl
theorem applyF_len (I : List PPh) (R : PRule) (l : List Int) : (applyF I R l).length ≤ l.length := applyK_len I R l l.length
theorem sym_nz (x y : Int) (h : y ∈ sym x) : y ≠ 0 := by
  unfold sym at h
  split at h
  · simp at h
  · rename_i hx; simp at h; rw [h]; exact hx
theorem applyK_nz (I : List PPh) (R : PRule) (l : List Int) : ∀ k : Nat, ∀ x ∈ applyK I R l k, x ≠ 0
  | 0 => by simp [applyK]
  | k + 1 => by
    rw [applyK_succ]
    intro x hx
    rcases List.mem_append.1 hx with h | h
    · exact applyK_nz I R l k x h
    · exact sym_nz _ _ h
theorem lastK_len (I : List PPh) (Rs : List PRule) (l : List Int) : ∀ k : Nat, (lastK I Rs l k).length ≤ l.length
  | 0 => by simp [lastK]
  | k + 1 => by
    rcases Nat.lt_or_ge k Rs.length with h | h
    · rw [lastK_succ I l (List.drop_eq_getElem_cons h)]
      exact Nat.le_trans (applyF_len _ _ _) (lastK_len I Rs l k)
    · have := lastK_len I Rs l k
      rw [lastK, List.take_of_length_le h] at this
      rwa [lastK, List.take_of_length_le (by omega)]
theorem lastK_nz (I : List PPh) (Rs : List PRule) (l : List Int) (hl : ∀ x ∈ l, x ≠ 0) : ∀ k : Nat, ∀ x ∈ lastK I Rs l k, x ≠ 0
  | 0 => by simpa [lastK] using hl
  | k + 1 => by
    rcases Nat.lt_or_ge k Rs.length with h | h
    · rw [lastK_succ I l (List.drop_eq_getElem_cons h)]
      exact applyK_nz _ _ _ _
    · have := lastK_nz I Rs l hl k
      rw [lastK, List.take_of_length_le h] at this
      rwa [lastK, List.take_of_length_le (by omega)]
structure RsOk (Rs : List PRule) : Prop where
  ok : ∀ R ∈ Rs, ROk R
  nd : ∀ R ∈ Rs, R.fr.Nodup
  len : Rs.length ≤ 1000000
theorem RsOk.at {Rs : List PRule} (_ : RsOk Rs) {k : Nat} {R : PRule} {r : List PRule} (hd : Rs.drop k = R :: r) : R ∈ Rs := List.mem_of_mem_drop (by rw [hd]; exact List.mem_cons_self)
theorem rdI_slice {w : World} {v : Value} {l : List Int} (h : RdI w v l) : ∃ A n c, v = .slice A n c := by
  obtain ⟨A, n, c, rfl, _⟩ := h.op
  exact ⟨A, n, c, rfl⟩
theorem ownL_form {w : World} {B : Nat} {v : Value} {Ls : List (List Int)} (h : OwnL w B v Ls) : ∃ A c, v = .slice A Ls.length c := by
  obtain ⟨us, h1, _⟩ := h
  rcases h1.2 with ⟨rfl, h0⟩ | ⟨g, cap, cur, rfl, _⟩
  · exact ⟨none, 0, by rw [h0]⟩
  · exact ⟨_, _, rfl⟩
theorem rdR_form {w : World} {vf vt vl vr : Value} {x y : Bool} {R : PRule} (h : RdR w (.agg #[vf, vt, vl, vr, .bool x, .bool y]) R) :
    ∃ (A1 : Option Addr) (n1 c1 : Nat) (A2 : Option Addr) (n2 c2 : Nat) (A3 : Option Addr) (n3 c3 : Nat) (A4 : Option Addr) (n4 c4 : Nat), vf = .slice A1 n1 c1 ∧ vt = .slice A2 n2 c2 ∧ vl = .slice A3 n3 c3 ∧ vr = .slice A4 n4 c4 := by
  obtain ⟨a, b, c, d, he, hf, ht, hl, hg⟩ := h
  injection he with he
  simp only [Array.mk.injEq, List.cons.injEq] at he
  obtain ⟨rfl, rfl, rfl, rfl, _⟩ := he
  obtain ⟨A1, n1, c1, rfl, _⟩ := hf.op
  obtain ⟨A2, n2, c2, rfl, _⟩ := ht.op
  obtain ⟨A3, n3, c3, rfl, _⟩ := hl.op
  obtain ⟨A4, n4, c4, rfl, _⟩ := hg.op
  exact ⟨_, _, _, _, _, _, _, _, _, _, _, _, rfl, rfl, rfl, rfl⟩
theorem ownL_base {w : World} {base base' : Nat} {v : Value} {Ls : List (List Int)} (h : OwnL w base v Ls) (hb : base' ≤ base) : OwnL w base' v Ls := by
  obtain ⟨us, h1, h2, h3⟩ := h
  exact ⟨us, own_base h1 hb, h2, fun i u l hu hl => own_base (h3 i u l hu hl) hb⟩
theorem ownL_far {w w' : World} {base : Nat} {v : Value} {Ls : List (List Int)} (h : OwnL w base v Ls) {b0 : Nat} {w0 : World} (hb : Below b0 w0 w) (hle : b0 ≤ base) (hs : base ≤ w.heap.size) (hg : w.grownBy w' v.ownBlock) : Below b0 w0 w' := by
  obtain ⟨us, h1⟩ := h.row
  exact hb.grown hg (Nat.le_trans hle hs) fun j hj => Nat.le_trans hle (World.ownsRow.lt h1 j hj).1
set_option maxHeartbeats 4000000 in
set_option maxRecDepth 100000 in
theorem prun_any (v vr vw : Value) (I : List PPh) (Rs : List PRule) (l : List Int) (w : World) (hv : RdV w v I) (hr : RdRs w vr Rs) (hw : RdI w vw l) (hro : RsOk Rs) (hln : l.length ≤ 1000000) (hnz : ∀ x ∈ l, x ≠ 0) :
    Calls Try.prog 32 #[v, vr, vw] w fun e w' => (∃ v', e = .returned v' ∧ OwnL w' w.heap.size v' (runF I Rs l)) ∧ Below w.heap.size w w' := by
  obtain ⟨u, rfl, hp⟩ := id hv
  obtain ⟨A0, n0, c0, rfl, _, _, _, _⟩ := hp.op
  obtain ⟨A, n, c, rfl, hnc, _, HN, HR⟩ := hr
  obtain ⟨Aw, nw, cw, rfl⟩ := rdI_slice hw
  have HV := Lib.hid hv
  have HW := Lib.hid hw
  have HRO := Lib.hid hro
  have HLN := Lib.hid hln
  have HNZ := Lib.hid hnz
  have HNL : Hid (n ≤ 1000000) := by rw [Hid, ← HN.out]; exact hro.len
  clear hw hro hnz hp hv hln
  go_enter Try.func32, Try.ntmps32
  go_wp2_with fail
  generalize hW : World.alloc w _ = W
  have HBW : Hid (Below w.heap.size w W) := by rw [← hW]; exact al_below _ _
  have HP : Hid (VBlk W w.heap.size (.slice A0 n0 c0)) := by rw [← hW]; exact heap_alloc_new w _
  clear hW
  go_loopw [2, 7, 12] (fun v2 v7 vi wr => ∃ k : Nat, k ≤ n ∧ vi = .int .i64 k ∧ Hid (RdI wr v2 (lastK I Rs l k)) ∧ Hid (OwnL wr W.heap.size v7 (runK I Rs l k)) ∧ Hid (Below W.heap.size W wr)) (fun _ _ vi _ => n - (intOf vi).toNat)
  case atStart => exact ⟨0, Nat.zero_le _, rfl, HW.out.below HBW.out, OwnL.nil _ _, Below.refl _ _⟩
  case round =>
    obtain ⟨k, hk, rfl, HL, HO, HBR⟩ := hrel
    obtain ⟨A2, n2, c2, rfl⟩ := rdI_slice HL.out
    have hrl : (runK I Rs l k).length = k := by simp [runK]
    obtain ⟨A7, c7, h7⟩ := ownL_form HO.out
    rw [hrl] at h7
    subst h7
    have HRL := Lib.hid hrl
    clear hrl
    have HBX := Lib.hid (bchain HBW.out HBR.out)
    by_cases hlt : k < n
    · obtain ⟨b, off, vf, vt, vl, vg, R, rfl, hb, HD, ⟨e0, e1, e2, e3, e4, e5⟩, HRR⟩ := (HR.out k hlt).below HBX.out
      have y0 := (HP.out.below HBR.out).cell
      have y1 := (HP.out.below HBR.out).lt
      have hk0 : (0 : Int) ≤ (k : Int) := by omega
      obtain ⟨A1, n1, c1, A3, n3, c3, A4, n4, c4, A5, n5, c5, rfl, rfl, rfl, rfl⟩ := rdR_form HRR.out
      go_wp2_with fail
      generalize hX : World.alloc wr _ = X
      have hbX : Below wr.heap.size wr X := by rw [← hX]; exact al_below _ _
      clear hX y0 y1 e0 e1 e2 e3 e4 e5
      refine (papply_any _ _ _ I R (lastK I Rs l k) _ (HV.out.below (bchain HBX.out hbX)) (HRR.out.below hbX) (HL.out.below hbX) (HRO.out.ok R (HRO.out.at HD.out)) (Nat.le_trans (lastK_len _ _ _ _) HLN.out) (lastK_nz _ _ _ HNZ.out _) ).mono ?_
      rintro e w1 ⟨⟨v1, rfl, ho1⟩, hb1⟩
      have hbx := bchain hbX hb1
      have HB1 := Lib.hid (bchain HBR.out hbx)
      have HO1 : Hid (OwnL w1 W.heap.size (.slice A7 k c7) (runK I Rs l k)) := HO.out.below hbx
      have hsz := HB1.out.size
      obtain ⟨_, A1, c1, rfl⟩ := own_slice ho1
      have HZ1 : Hid (OwnI w1 W.heap.size (.slice A1 (applyF I R (lastK I Rs l k)).length c1) (applyF I R (lastK I Rs l k))) := own_base ho1 (Nat.le_trans HBR.out.size hbX.size)
      have HS : Hid (runK I Rs l (k + 1) = runK I Rs l k ++ [applyF I R (lastK I Rs l k)]) := by rw [Hid, runK_succ, lastK_succ I l HD.out]
      have HS2 : Hid (lastK I Rs l (k + 1) = applyF I R (lastK I Rs l k)) := by rw [Hid, lastK_succ I l HD.out]
      have hkl : k ≤ 1000000 := by have := HNL.out; omega
      clear ho1 hbx
      go_wp2_with (at_builtin; refine wpList_app_word rfl (.tmp 20) (.tmp 22) rfl W.heap.size (.slice A7 k c7) (runK I Rs l k) rfl HO1.out (.slice A1 (applyF I R (lastK I Rs l k)).length c1) (applyF I R (lastK I Rs l k)) HZ1.out k HRL hkl hsz rfl ?_; intro g7 cg7 w7 ho7 hg7; have HO7 := Lib.hid ho7; have HG7 := Lib.hid hg7; clear ho7 hg7)
      have HB7 : Hid (Below W.heap.size W w7) := ownL_far HO1.out HB1.out (Nat.le_refl _) hsz HG7.out
      have HZ7 : Hid (RdI w7 (.slice A1 (applyF I R (lastK I Rs l k)).length c1) (lastK I Rs l (k + 1))) := by
        rw [Hid, HS2.out]
        obtain ⟨us, h1⟩ := HO1.out.row
        exact (ownI_grownL HZ1.out h1 (by decide) HG7.out).rd
      go_roundw
      case rel => exact ⟨k + 1, by omega, by go_num, HZ7.out, by rw [Hid, HS.out]; exact HO7.out, HB7.out⟩
      case measure => simp [intOf]; omega
    · obtain rfl : n = k := by omega
      have HOF : Hid (OwnL wr w.heap.size (.slice A7 n c7) (runF I Rs l)) := by rw [Hid, runF, HN.out]; exact ownL_base HO.out HBW.out.size
      go_wp2_with fail
      go_ret
      exact ⟨⟨_, rfl, HOF.out⟩, HBX.out⟩
set_option maxHeartbeats 4000000 in
set_option maxRecDepth 100000 in
theorem rrun_any (v vr vw : Value) (I : List PPh) (Rs : List PRule) (l : List Int) (w : World) (hv : RdV w v I) (hr : RdRs w vr Rs) (hw : RdI w vw l) (hro : RsOk Rs) (hln : l.length ≤ 1000000) (hnz : ∀ x ∈ l, x ≠ 0) :
    Calls Try.prog 33 #[v, vr, vw] w fun e w' => (∃ v', e = .returned v' ∧ OwnL w' w.heap.size v' (runF I Rs l)) ∧ Below w.heap.size w w' := by
  obtain ⟨u, rfl, hp⟩ := id hv
  obtain ⟨A0, n0, c0, rfl, _, _, _, _⟩ := hp.op
  obtain ⟨A, n, c, rfl, hnc, _, HN, HR⟩ := hr
  obtain ⟨Aw, nw, cw, rfl⟩ := rdI_slice hw
  have HV := Lib.hid hv
  have HW := Lib.hid hw
  have HRO := Lib.hid hro
  have HLN := Lib.hid hln
  have HNZ := Lib.hid hnz
  have HNL : Hid (n ≤ 1000000) := by rw [Hid, ← HN.out]; exact hro.len
  clear hw hro hnz hp hv hln
  go_enter Try.func33, Try.ntmps33
  go_wp2_with fail
  generalize hW : World.alloc w _ = W
  have HBW : Hid (Below w.heap.size w W) := by rw [← hW]; exact al_below _ _
  have HP : Hid (VBlk W w.heap.size (.slice A0 n0 c0)) := by rw [← hW]; exact heap_alloc_new w _
  clear hW
  go_loopw [2, 7, 11] (fun v2 v7 vi wr => ∃ k : Nat, k ≤ n ∧ vi = .int .i64 k ∧ Hid (RdI wr v2 (lastK I Rs l k)) ∧ Hid (OwnL wr W.heap.size v7 (runK I Rs l k)) ∧ Hid (Below W.heap.size W wr)) (fun _ _ vi _ => n - (intOf vi).toNat)
  case atStart => exact ⟨0, Nat.zero_le _, rfl, HW.out.below HBW.out, OwnL.nil _ _, Below.refl _ _⟩
  case round =>
    obtain ⟨k, hk, rfl, HL, HO, HBR⟩ := hrel
    obtain ⟨A2, n2, c2, rfl⟩ := rdI_slice HL.out
    have hrl : (runK I Rs l k).length = k := by simp [runK]
    obtain ⟨A7, c7, h7⟩ := ownL_form HO.out
    rw [hrl] at h7
    subst h7
    have HRL := Lib.hid hrl
    clear hrl
    have HBX := Lib.hid (bchain HBW.out HBR.out)
    by_cases hlt : k < n
    · obtain ⟨b, off, vf, vt, vl, vg, R, rfl, hb, HD, ⟨e0, e1, e2, e3, e4, e5⟩, HRR⟩ := (HR.out k hlt).below HBX.out
      have y0 := (HP.out.below HBR.out).cell
      have y1 := (HP.out.below HBR.out).lt
      have hk0 : (0 : Int) ≤ (k : Int) := by omega
      go_upto_region 5 with (fail)
      refine wp_region_ord 6 [0, 1, 2, 3, 4, 5] [] [0, 1, 2, 3, 4, 5] [6, 7] (fun w' => Below wr.heap.size wr w') (by kernel_rfl) (by kernel_rfl) ?_
      rintro Z hZ
      have HSZ : Hid (Below wr.heap.size wr Z) := by rw [hZ]; exact (Below.refl _ _).drew
      clear hZ
      refine ⟨HSZ.out, ?_⟩
      have HS : Hid (∀ w' : World, Below wr.heap.size wr w' → w'.cell? ⟨w.heap.size, 0, none⟩ = some (.slice A0 n0 c0) ∧ w'.cell? ⟨b, off + k * 6, none⟩ = some vf ∧ w'.cell? ⟨b, off + k * 6 + 1, none⟩ = some vt ∧ w'.cell? ⟨b, off + k * 6 + 2, none⟩ = some vl ∧ w'.cell? ⟨b, off + k * 6 + 3, none⟩ = some vg ∧ w'.cell? ⟨b, off + k * 6 + 4, none⟩ = some (.bool R.beg) ∧ w'.cell? ⟨b, off + k * 6 + 5, none⟩ = some (.bool R.fin)) := by
        intro w' h
        exact ⟨(h.cell (p := ⟨w.heap.size, 0, none⟩) y1).trans y0, (h.cell (p := ⟨b, off + k * 6, none⟩) hb).trans e0, (h.cell (p := ⟨b, off + k * 6 + 1, none⟩) hb).trans e1, (h.cell (p := ⟨b, off + k * 6 + 2, none⟩) hb).trans e2, (h.cell (p := ⟨b, off + k * 6 + 3, none⟩) hb).trans e3, (h.cell (p := ⟨b, off + k * 6 + 4, none⟩) hb).trans e4, (h.cell (p := ⟨b, off + k * 6 + 5, none⟩) hb).trans e5⟩
      iterate 6 (refine wpHead_cons (v := ?_) rfl rfl (fun w' hS => ?_) ?_; rotate_left; (focus ((try obtain ⟨s0, s1, s2, s3, s4, s5, s6⟩ := HS.out _ (hS rfl)); clear hS; go_simp; try with_reducible rfl; done)); (try simp only [Act.put, List.setIfInBounds_toArray, List.set_cons_zero, List.set_cons_succ]))
      refine wpHead_nil ?_
      refine wpTail_cons rfl rfl (fun K hK => ?_)
      go_simp
      clear y0 y1 e0 e1 e2 e3 e4 e5
      refine (rapply_any _ _ _ I R (lastK I Rs l k) _ (HV.out.below (bchain HBX.out HSZ.out)) (HRR.out.below HSZ.out) (HL.out.below HSZ.out) (HRO.out.ok R (HRO.out.at HD.out)) (Nat.le_trans (lastK_len _ _ _ _) HLN.out) (lastK_nz _ _ _ HNZ.out _) (HRO.out.nd R (HRO.out.at HD.out))).mono ?_
      rintro e w1 ⟨⟨v1, rfl, ho1⟩, hb1⟩
      have hbx := bchain HSZ.out hb1
      refine hK.out _ _ (fun _ => hbx) ?_
      clear hK K HS
      (try simp only [Act.put, List.setIfInBounds_toArray, List.set_cons_zero, List.set_cons_succ])
      refine wpTail_rest 7 rfl ?_
      simp only [List.drop_succ_cons, List.drop_zero]
      go_wp2_with fail
      refine NoPanic.normal ?_
      have HB1 := Lib.hid (bchain HBR.out hbx)
      have HO1 : Hid (OwnL w1 W.heap.size (.slice A7 k c7) (runK I Rs l k)) := HO.out.below hbx
      have hsz := HB1.out.size
      obtain ⟨_, A1, c1, rfl⟩ := own_slice ho1
      have HZ1 : Hid (OwnI w1 W.heap.size (.slice A1 (applyF I R (lastK I Rs l k)).length c1) (applyF I R (lastK I Rs l k))) := own_base ho1 (Nat.le_trans HBR.out.size HSZ.out.size)
      have HS : Hid (runK I Rs l (k + 1) = runK I Rs l k ++ [applyF I R (lastK I Rs l k)]) := by rw [Hid, runK_succ, lastK_succ I l HD.out]
      have HS2 : Hid (lastK I Rs l (k + 1) = applyF I R (lastK I Rs l k)) := by rw [Hid, lastK_succ I l HD.out]
      have hkl : k ≤ 1000000 := by have := HNL.out; omega
      clear ho1 hbx
      go_wp2_with (at_builtin; refine wpList_app_word rfl (.tmp 21) (.tmp 23) rfl W.heap.size (.slice A7 k c7) (runK I Rs l k) rfl HO1.out (.slice A1 (applyF I R (lastK I Rs l k)).length c1) (applyF I R (lastK I Rs l k)) HZ1.out k HRL hkl hsz rfl ?_; intro g7 cg7 w7 ho7 hg7; have HO7 := Lib.hid ho7; have HG7 := Lib.hid hg7; clear ho7 hg7)
      have HB7 : Hid (Below W.heap.size W w7) := ownL_far HO1.out HB1.out (Nat.le_refl _) hsz HG7.out
      have HZ7 : Hid (RdI w7 (.slice A1 (applyF I R (lastK I Rs l k)).length c1) (lastK I Rs l (k + 1))) := by
        rw [Hid, HS2.out]
        obtain ⟨us, h1⟩ := HO1.out.row
        exact (ownI_grownL HZ1.out h1 (by decide) HG7.out).rd
      go_roundw
      case rel => exact ⟨k + 1, by omega, by go_num, HZ7.out, by rw [Hid, HS.out]; exact HO7.out, HB7.out⟩
      case measure => simp [intOf]; omega
    · obtain rfl : n = k := by omega
      have HOF : Hid (OwnL wr w.heap.size (.slice A7 n c7) (runF I Rs l)) := by rw [Hid, runF, HN.out]; exact ownL_base HO.out HBW.out.size
      go_wp2_with fail
      go_ret
      exact ⟨⟨_, rfl, HOF.out⟩, HBX.out⟩
end Go.Proofs.Ytdijlakeonionaa
