/-
  The part of older texts that this seat needs (printed by shake.py): QP1 Q6 Q7 Q8
-/
import Derived.Test.YtiopgbbggeimaaaGreatY8
/-
  The machine of a rule in plain words: from a state it accepts a list with what the rule makes of it, and with nothing else.
-/
namespace Go.Proofs.YtiopgbbggeimaaaGreat
def toF : List Int → List Int → Int → Int
  | f :: fr, t :: tto, x => if f = x then t else toF fr tto x
  | _, _, x => x
/-- what stands at an index of a list behind the rule: nothing, or one segment -/
def outB (I : List PPh) (R : PRule) (l : List Int) (i : Nat) : Int := if siteB I R l i then toF R.fr R.tto (l.getD i 0) else l.getD i 0
def applyK (I : List PPh) (R : PRule) (l : List Int) (k : Nat) : List Int := (List.range k).flatMap fun i => sym (outB I R l i)
def applyF (I : List PPh) (R : PRule) (l : List Int) : List Int := applyK I R l l.length
theorem applyK_succ (I : List PPh) (R : PRule) (l : List Int) (k : Nat) : applyK I R l (k + 1) = applyK I R l k ++ sym (outB I R l k) := by simp [applyK, List.range_succ]
/-- the state of the machine -/
structure St where
  cnt : Int
  near : Int
  far : Int
  o0 : Int
  o1 : Int
  o2 : Int
  deriving DecidableEq
def St.zero : St := ⟨0, 0, 0, 0, 0, 0⟩
def St.set (s : St) (k : Nat) (g : Int) : St :=
  match k with
  | 0 => { s with o0 := g }
  | 1 => { s with o1 := g }
  | _ => { s with o2 := g }
/-- is a segment in the class with an index -/
def inK (I : List PPh) (l : List PCls) (k : Nat) (x : Int) : Bool := match l[k]? with | some c => inB I x c | none => false
def bitZ (b : Bool) (n : Int) : Int := if b then n else 0
def openB (R : PRule) (s : St) : Bool :=
  decide ((R.lft.length : Int) ≤ s.cnt) && (!(R.beg && decide ((R.lft.length : Int) < s.cnt)) &&
    ((match R.lft.length with | 0 => true | 1 => s.near % 2 == 1 | _ => s.near / 2 % 2 == 1) && (match R.lft.length with | 0 => true | 1 => true | _ => s.far % 2 == 1)))
def cntF (R : PRule) (s : St) : Int := if R.beg then min (s.cnt + 1) ((R.lft.length : Int) + 1) else min (s.cnt + 1) (R.lft.length : Int)
def baseM (I : List PPh) (R : PRule) (s : St) (x : Int) : St :=
  ⟨cntF R s, if (R.lft.length : Int) < cntF R s then 0 else bitZ (inK I R.lft 0 x) 1 + bitZ (inK I R.lft 1 x) 2,
    if R.lft.length < 2 ∨ (R.lft.length : Int) < cntF R s then 0 else s.near % 2, 0, 0, 0⟩
def oweM (R : PRule) (s : St) (k : Nat) (g : Int) : Option St := if k == R.rgt.length && !R.fin then (if 0 < g then some s else none) else some (s.set k g)
def readStep (I : List PPh) (R : PRule) (x : Int) (k : Nat) (g : Int) (n : St) : Option St :=
  if g = 0 then some n else if inK I R.rgt k x then oweM R n (k + 1) g else if 0 < g then none else some n
def readM (I : List PPh) (R : PRule) (s : St) (x : Int) : Option St :=
  ((readStep I R x 0 s.o0 (baseM I R s x)).bind (readStep I R x 1 s.o1)).bind (readStep I R x 2 s.o2)
def endK (R : PRule) (k : Nat) (g : Int) : Bool := g == 0 || (decide (0 < g) == (k == R.rgt.length))
def endM (R : PRule) (s : St) : Bool := endK R 0 s.o0 && (endK R 1 s.o1 && endK R 2 s.o2)
def oweL (R : PRule) (s : St) (g : Int) (o : Int) : List (Int × St) := match oweM R s 0 g with | some t => [(o, t)] | none => []
def nextM (I : List PPh) (R : PRule) (s : St) (x : Int) : List (Int × St) :=
  match readM I R s x with
  | none => []
  | some b => if hasBQ R.fr x && openB R s then oweL R b 1 (toF R.fr R.tto x) ++ oweL R b (-1) x else [(x, b)]
def accM (I : List PPh) (R : PRule) : St → List Int → List Int → Prop
  | s, [], out => endM R s = true ∧ out = []
  | s, x :: v, out => ∃ p, p ∈ nextM I R s x ∧ ∃ out', out = sym p.1 ++ out' ∧ accM I R p.2 v out'
/-- what a state says of the list that was read -/
structure LInv (I : List PPh) (R : PRule) (s : St) (pre : List Int) : Prop where
  cnt : s.cnt = if R.beg then min (pre.length : Int) ((R.lft.length : Int) + 1) else min (pre.length : Int) (R.lft.length : Int)
  near : s.near = if (R.lft.length : Int) < s.cnt then 0 else match pre.getLast? with | some x => bitZ (inK I R.lft 0 x) 1 + bitZ (inK I R.lft 1 x) 2 | none => 0
  far : s.far = if R.lft.length < 2 ∨ (R.lft.length : Int) < s.cnt then 0 else match pre.dropLast.getLast? with | some x => bitZ (inK I R.lft 0 x) 1 | none => 0
theorem LInv.zero (I : List PPh) (R : PRule) : LInv I R St.zero [] := by
  refine ⟨?_, ?_, ?_⟩ <;> simp [St.zero] <;> omega
theorem bit_mod (a b : Bool) : (bitZ a 1 + bitZ b 2) % 2 = bitZ a 1 := by cases a <;> cases b <;> rfl
theorem LInv.step {I : List PPh} {R : PRule} {s : St} {pre : List Int} (h : LInv I R s pre) (x : Int) : LInv I R (baseM I R s x) (pre ++ [x]) := by
  have hc : cntF R s = if R.beg then min ((pre ++ [x]).length : Int) ((R.lft.length : Int) + 1) else min ((pre ++ [x]).length : Int) (R.lft.length : Int) := by
    rw [cntF, h.cnt]
    cases R.beg <;> simp only [List.length_append, List.length_singleton, Bool.false_eq_true, if_false, if_true] <;> omega
  refine ⟨hc, ?_, ?_⟩
  · simp [baseM]
  · simp only [baseM, List.dropLast_concat]
    by_cases h1 : R.lft.length < 2 ∨ (R.lft.length : Int) < cntF R s
    · rw [if_pos h1, if_pos h1]
    · rw [if_neg h1, if_neg h1, h.near]
      have h2 : ¬ (R.lft.length : Int) < s.cnt := by
        intro h3
        apply h1
        right
        rw [cntF]
        have := h.cnt
        cases hb : R.beg <;> rw [hb] at this <;> simp only [Bool.false_eq_true, if_false, if_true] at this ⊢ <;> omega
      rw [if_neg h2]
      cases pre.getLast? with
      | none => rfl
      | some y => simp only [bit_mod]
structure OInv (R : PRule) (s : St) : Prop where
  p0 : s.o0 = 0 ∨ (0 < R.rgt.length ∨ R.fin = true)
  p1 : s.o1 = 0 ∨ (1 < R.rgt.length ∨ R.rgt.length = 1 ∧ R.fin = true)
  p2 : s.o2 = 0 ∨ (2 < R.rgt.length ∨ R.rgt.length = 2 ∧ R.fin = true)
theorem OInv.zero (R : PRule) : OInv R St.zero := ⟨.inl rfl, .inl rfl, .inl rfl⟩
end Go.Proofs.YtiopgbbggeimaaaGreat

/-
  site of the reference.
-/
namespace Go.Proofs.YtiopgbbggeimaaaGreat
open Go.ChangeShapes Go.WideShapes Go.ChangeAt Go.RowKit
def SiteG (g sb : Bool) (z : Int) (t n : Nat) (f : Bool) : Prop := (g = true ∧ sb = false) ∨ (g = false ∧ 0 ≤ z ∧ t ≤ n ∧ f = sb)
theorem SiteG.no {z : Int} {t n : Nat} {f : Bool} : SiteG true false z t n f := .inl ⟨rfl, rfl⟩
end Go.Proofs.YtiopgbbggeimaaaGreat

/-
  Sites and Apply of both sides.
-/
namespace Go.Proofs.YtiopgbbggeimaaaGreat
open Go.ChangeShapes Go.WideShapes Go.ChangeAt Go.RowKit
theorem getD_at {l : List Int} {k : Nat} {x : Int} (h : l.drop k = x :: l.drop (k + 1)) : l.getD k 0 = x := by
  rw [List.getD_eq_getElem?_getD, show l[k]? = some x from by rw [← List.head?_drop, h]; rfl]; rfl
theorem sym_len (x : Int) : (sym x).length ≤ 1 := by unfold sym; split <;> simp
theorem applyK_len (I : List PPh) (R : PRule) (l : List Int) : ∀ k : Nat, (applyK I R l k).length ≤ k
  | 0 => by simp [applyK]
  | k + 1 => by
    rw [applyK_succ, List.length_append]
    have := applyK_len I R l k
    have := sym_len (outB I R l k)
    omega
/-- what a rule needs, to be read: short sides, as many To as From -/
structure ROk (R : PRule) : Prop where
  l1 : R.lft.length ≤ 1000000
  l2 : R.rgt.length ≤ 1000000
  tl : R.tto.length = R.fr.length
end Go.Proofs.YtiopgbbggeimaaaGreat

/-
  Apply of both sides.
-/
namespace Go.Proofs.YtiopgbbggeimaaaGreat
open Go.ChangeShapes Go.WideShapes Go.ChangeAt Go.RowKit
/-- the first place of a number in a list, and what stands there in the other list -/
theorem idxFrom_to (x : Int) : ∀ (fr tto : List Int) (i : Nat), tto.length = fr.length → hasBQ fr x = true → ∃ k : Nat, Lib.idxFrom fr x i = ((i + k : Nat) : Int) ∧ k < fr.length ∧ tto.getD k 0 = toF fr tto x ∧ fr.getD k 0 = x
  | [], _, _, _, h => by simp [hasBQ] at h
  | f :: fr, [], _, hl, _ => by simp at hl
  | f :: fr, t :: tto, i, hl, h => by
    by_cases hf : f = x
    · exact ⟨0, by simp [Lib.idxFrom, hf], by simp, by simp [toF, hf], by simpa using hf⟩
    · have h2 : hasBQ fr x = true := by
        rw [hasB_cons] at h
        have : (x == f) = false := by simp; exact fun e => hf e.symm
        rwa [this, Bool.false_or] at h
      obtain ⟨k, h3, h4, h5, h6⟩ := idxFrom_to x fr tto (i + 1) (by simpa using hl) h2
      refine ⟨k + 1, ?_, by simpa using h4, by simpa [toF, hf] using h5, by simpa using h6⟩
      simp only [Lib.idxFrom, if_neg hf]
      rw [h3]
      congr 1
      omega
theorem idx_to {fr tto : List Int} {x : Int} (hl : tto.length = fr.length) (h : hasBQ fr x = true) : ∃ k : Nat, Lib.idxOf fr x = (k : Int) ∧ k < fr.length ∧ tto.getD k 0 = toF fr tto x ∧ fr.getD k 0 = x := by
  obtain ⟨k, h1, h2, h3⟩ := idxFrom_to x fr tto 0 hl h
  exact ⟨k, by rw [Lib.idxOf, h1]; simp, h2, h3⟩
theorem site_has {I : List PPh} {R : PRule} {l : List Int} {i : Nat} (h : siteB I R l i = true) : hasBQ R.fr (l.getD i 0) = true := by
  rw [siteB] at h
  exact (Bool.and_eq_true_iff.1 h).1
set_option maxHeartbeats 4000000 in
set_option maxRecDepth 100000 in
theorem papply_any (v vr vw : Value) (I : List PPh) (R : PRule) (l : List Int) (w : World) (hv : RdVQ w v I) (hr : RdR w vr R) (hw : RdI w vw l) (hro : ROk R) (hln : l.length ≤ 1000000) (hnz : ∀ x ∈ l, x ≠ 0) :
    Calls Tryz.prog 47 #[v, vr, vw] w fun e w' => (∃ v', e = .returned v' ∧ OwnI w' w.heap.size v' (applyF I R l)) ∧ Below w.heap.size w w' := by
  obtain ⟨u, rfl, hp⟩ := id hv
  obtain ⟨A0, n0, c0, rfl, _, _, _, _⟩ := hp.op
  obtain ⟨vf, vt, vl, vg, rfl, hf, ht, hl, hg⟩ := id hr
  obtain ⟨A1, n1, c1, rfl, _, _, HN1, HR1⟩ := hf.op
  obtain ⟨A2, n2, c2, rfl, _, _, HN2, HR2⟩ := ht.op
  obtain ⟨A3, n3, c3, rfl, _, _, HN3, _⟩ := hl.op
  obtain ⟨A4, n4, c4, rfl, _, _, HN4, _⟩ := hg.op
  have HV := Lib.hid hv
  have HRR := Lib.hid hr
  have HF := Lib.hid hf
  have HT := Lib.hid ht
  clear hp hf ht hl hg hv hr
  obtain ⟨beg, hbeg⟩ : ∃ x, R.beg = x := ⟨_, rfl⟩
  obtain ⟨fin, hfin⟩ : ∃ x, R.fin = x := ⟨_, rfl⟩
  rw [hbeg, hfin] at HRR ⊢
  clear hbeg hfin
  obtain ⟨A, n, c, rfl, hnc, _, HN, HR⟩ := hw.op
  have HW := Lib.hid hw
  have HRO := Lib.hid hro
  have HLN := Lib.hid hln
  have HNZ := Lib.hid hnz
  rw [HN.out] at hln
  clear hw hro hnz
  go_enter Tryz.func47, Tryz.ntmps47
  go_wp2_with fail
  generalize hW : World.alloc (World.alloc w _) _ = W
  have HBW : Hid (Below w.heap.size w W) := by rw [← hW]; exact bchain (al_below _ _) (al_below _ _)
  have HP : Hid (VBlk W w.heap.size (.slice A0 n0 c0)) := by rw [← hW]; exact VBlk.below (heap_alloc_new w _) (al_below _ _)
  have HQ : Hid (RBlk W (w.heap.size + 1) (.slice A1 n1 c1) (.slice A2 n2 c2) (.slice A3 n3 c3) (.slice A4 n4 c4) beg fin) := by
    have h := heap_alloc_new (w.alloc (.cells #[.slice A0 n0 c0] 24)) (.cells #[.slice A1 n1 c1, .slice A2 n2 c2, .slice A3 n3 c3, .slice A4 n4 c4, .bool beg, .bool fin] 61)
    rw [World.size_alloc] at h
    rw [← hW]; exact h
  clear hW
  go_loopw [7, 12] (fun v7 v12 wr => ∃ k : Nat, k ≤ n ∧ v12 = .int .i64 k ∧ Hid (OwnI wr W.heap.size v7 (applyK I R l k)) ∧ Hid (Below W.heap.size W wr)) (fun _ v12 _ => n - (intOf v12).toNat)
  case atStart => exact ⟨0, Nat.zero_le _, rfl, World.ownsRow_nil _ _ _ _, Below.refl _ _⟩
  case round =>
    obtain ⟨k, hk, rfl, HO, HBR⟩ := hrel
    obtain ⟨_, Ao, co, rfl⟩ := own_slice HO.out
    have HBX := Lib.hid (bchain HBW.out HBR.out)
    by_cases hlt : k < n
    · skip
      obtain ⟨b, off, x, rfl, hb, hd, hc0⟩ := (HR.out k hlt).below HBX.out
      have HX : Hid (l.getD k 0 = x) := getD_at hd.out
      have HX0 : Hid (x ≠ 0) := HNZ.out x (List.mem_of_mem_drop (by rw [hd.out]; exact List.mem_cons_self))
      obtain ⟨z0, z1, z2, z3, z4, z5⟩ := (HQ.out.below HBR.out).cells
      have y0 := (HP.out.below HBR.out).cell
      have z8 := (HQ.out.below HBR.out).lt
      have z9 := (HP.out.below HBR.out).lt
      have hk0 : (0 : Int) ≤ (k : Int) := by omega
      go_wp2_with fail
      have HC0 := Lib.hid hc0
      have HBB := Lib.hid hb
      clear y0 z0 z1 z2 z3 z4 z5 z8 z9 hc0 hb
      refine (psite_any _ _ _ I R l k _ (HV.out.below HBX.out) (HRR.out.below HBX.out) (HW.out.below HBX.out) (by rw [HN.out]; exact hlt) HRO.out.l1 HRO.out.l2 HLN.out).mono ?_
      rintro e w1 ⟨rfl, hb1⟩
      have HB1 := Lib.hid (bchain HBR.out hb1)
      have HO1 : Hid (OwnI w1 W.heap.size (.slice Ao (applyK I R l k).length co) (applyK I R l k)) := own_below HO.out hb1
      have hl1 : (applyK I R l k).length ≤ 1000000 := by have := applyK_len I R l k; omega
      have hsz := HB1.out.size
      cases hs : siteB I R l k
      · have HS : Hid (applyK I R l (k + 1) = applyK I R l k ++ [x]) := by rw [Hid, applyK_succ, outB, hs, HX.out, if_neg (by decide : ¬ (false = true)), sym, if_neg HX0.out]
        clear hs hb1
        go_wp2_with (at_builtin; refine wpList_app_int rfl (.tmp 32) (.tmp 34) rfl W.heap.size (.slice Ao (applyK I R l k).length co) (applyK I R l k) rfl HO1.out x (applyK I R l k).length (Lib.hid rfl) hl1 hsz rfl ?_; intro g7 c7 w7 ho7 hgg7 hg7; have HO7 := Lib.hid ho7; have HB7 := Lib.hid (below_grown HB1.out (Nat.le_refl _) HO1.out hg7); clear ho7 hgg7 hg7)
        go_roundw
        case rel => exact ⟨k + 1, by omega, by go_num, by rw [Hid, HS.out]; exact HO7.out, HB7.out⟩
        case measure => simp [intOf]; omega
      · have hsh := site_has hs
        rw [HX.out] at hsh
        obtain ⟨kk, hi1, hi2, hi3, _⟩ := idx_to HRO.out.tl hsh
        obtain ⟨b2, o2, t, rfl, hb2, hd2, hc2⟩ := (HR2.out kk (by rw [← HN2.out, HRO.out.tl]; exact hi2)).below (bchain HBX.out hb1)
        have HTT : Hid (toF R.fr R.tto x = t) := by rw [Hid, ← hi3]; exact getD_at hd2.out
        have HIX := Lib.hid hi1
        have HS0 : Hid (applyK I R l (k + 1) = applyK I R l k ++ sym t) := by rw [Hid, applyK_succ, outB, hs, HX.out, HTT.out, if_pos rfl]
        have hkk0 : (0 : Int) ≤ (kk : Int) := by omega
        have hkk1 : kk < n2 := by rw [← HN2.out, HRO.out.tl]; exact hi2
        have HCC : Hid (w1.cell? ⟨b2, o2 + kk, none⟩ = some (.int .i64 t)) := hc2
        have HBC : Hid (b2 < w1.heap.size) := hb2
        clear hs hsh hi1 hi2 hi3 hb2 hc2 hb1
        go_upto_region 6 with (fail)
        refine wp_region_ord 6 [0, 1, 2, 3, 4, 5] [] [0, 1, 2, 3, 4] [5, 6, 7, 8] (fun w' => Below w1.heap.size w1 w') (by kernel_rfl) (by kernel_rfl) ?_
        rintro Z hZ
        have HSZ : Hid (Below w1.heap.size w1 Z) := by rw [hZ]; exact (Below.refl _ _).drew
        clear hZ
        refine ⟨HSZ.out, ?_⟩
        have HS : Hid (∀ w' : World, Below w1.heap.size w1 w' → w'.cell? ⟨w.heap.size + 1, 0, none⟩ = some (.slice A1 n1 c1) ∧ w'.cell? ⟨w.heap.size + 1, 1, none⟩ = some (.slice (some ⟨b2, o2, none⟩) n2 c2)) := by
          intro w' h
          obtain ⟨r0, r1, _, _, _, _⟩ := (HQ.out.below (bchain HB1.out h)).cells
          exact ⟨r0, r1⟩
        iterate 5 (refine wpHead_cons (v := ?_) rfl rfl (fun w' hS => ?_) ?_; rotate_left; (focus ((try obtain ⟨s0, s1⟩ := HS.out _ (hS rfl)); clear hS; go_simp; try with_reducible rfl; done)); (try simp only [Act.put, List.setIfInBounds_toArray, List.set_cons_zero, List.set_cons_succ]))
        refine wpHead_nil ?_
        refine wpTail_cons rfl rfl (fun K hK => ?_)
        go_simp
        refine (index_any _ R.fr x _ (HF.out.below (bchain HBW.out (bchain HB1.out HSZ.out)))).mono ?_
        rintro e w2 ⟨rfl, rfl⟩
        rw [HIX.out]
        refine hK.out _ _ (fun _ => HSZ.out) ?_
        clear hK K HS
        (try simp only [Act.put, List.setIfInBounds_toArray, List.set_cons_zero, List.set_cons_succ])
        have hc3 := (HSZ.out.cell (p := ⟨b2, o2 + kk, none⟩) HBC.out).trans HCC.out
        refine wpTail_rest 6 rfl ?_
        simp only [List.drop_succ_cons, List.drop_zero]
        go_wp2_with fail
        refine NoPanic.normal ?_
        clear hc3 hkk0 hkk1
        have HB2 := Lib.hid (bchain HB1.out HSZ.out)
        have HO2 : Hid (OwnI w2 W.heap.size (.slice Ao (applyK I R l k).length co) (applyK I R l k)) := own_below HO1.out HSZ.out
        clear HB1 HO1 hsz
        have HB1 := Lib.hid HB2.out
        have HO1 := Lib.hid HO2.out
        have hsz := HB1.out.size
        by_cases ht0 : t = 0
        · have ht1 : (t == 0) = true := by simp [ht0]
          have HS : Hid (applyK I R l (k + 1) = applyK I R l k) := by rw [Hid, HS0.out, sym, if_pos ht0, List.append_nil]
          clear ht0 HS0
          go_wp2_with fail
          go_roundw
          case rel => exact ⟨k + 1, by omega, by go_num, by rw [Hid, HS.out]; exact HO1.out, HB1.out⟩
          case measure => simp [intOf]; omega
        · have ht1 : (t == 0) = false := by simp [ht0]
          have HS : Hid (applyK I R l (k + 1) = applyK I R l k ++ [t]) := by rw [Hid, HS0.out, sym, if_neg ht0]
          clear ht0 HS0
          go_wp2_with (at_builtin; refine wpList_app_int rfl (.tmp 32) (.tmp 34) rfl W.heap.size (.slice Ao (applyK I R l k).length co) (applyK I R l k) rfl HO1.out t (applyK I R l k).length (Lib.hid rfl) hl1 hsz rfl ?_; intro g7 c7 w7 ho7 hgg7 hg7; have HO7 := Lib.hid ho7; have HB7 := Lib.hid (below_grown HB1.out (Nat.le_refl _) HO1.out hg7); clear ho7 hgg7 hg7)
          go_roundw
          case rel => exact ⟨k + 1, by omega, by go_num, by rw [Hid, HS.out]; exact HO7.out, HB7.out⟩
          case measure => simp [intOf]; omega
    · obtain rfl : n = k := by omega
      have HOF : Hid (OwnI wr w.heap.size (.slice Ao (applyK I R l n).length co) (applyF I R l)) := by rw [Hid, applyF, HN.out]; exact own_base HO.out HBW.out.size
      go_wp2_with fail
      go_ret
      exact ⟨⟨_, rfl, HOF.out⟩, HBX.out⟩
end Go.Proofs.YtiopgbbggeimaaaGreat

