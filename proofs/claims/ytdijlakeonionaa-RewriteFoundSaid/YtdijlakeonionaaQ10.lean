/-
  read of the machine.
-/
import Derived.Test.YtdijlakeonionaaQ9
namespace Go.Proofs.Ytdijlakeonionaa
open Go.ChangeShapes Go.WideShapes Go.ChangeAt Go.RowKit
theorem bitZ_01 (b : Bool) : 0 ≤ bitZ b 1 ∧ bitZ b 1 ≤ 1 := by cases b <;> decide
theorem bitZ_02 (b : Bool) : 0 ≤ bitZ b 2 ∧ bitZ b 2 ≤ 2 := by cases b <;> decide
theorem base_ok {I : List PPh} {R : PRule} {s : St} {x : Int} (h : StOk s) (hl : R.lft.length ≤ 2) : StOk (baseM I R s x) := by
  obtain ⟨a1, a2, a3, a4, a5, a6, a7, a8, a9, a10, a11, a12⟩ := h
  have b1 := bitZ_01 (inK I R.lft 0 x)
  have b2 := bitZ_02 (inK I R.lft 1 x)
  refine ⟨?_, ?_, ?_, ?_, ?_, ?_, ?_, ?_, ?_, ?_, ?_, ?_⟩ <;> simp only [baseM]
  · unfold cntF; split <;> omega
  · unfold cntF; split <;> omega
  · split <;> omega
  · split <;> omega
  · split <;> omega
  · split <;> omega
  all_goals omega
theorem owe_ok {R : PRule} {s t : St} {k : Nat} {g : Int} (h : StOk s) (h0 : -1 ≤ g) (h1 : g ≤ 1) (ho : oweM R s k g = some t) : StOk t := by
  rw [oweM] at ho
  split at ho
  · split at ho
    · cases ho; exact h
    · cases ho
  · cases ho; exact h.set_ k h0 h1
theorem step_ok {I : List PPh} {R : PRule} {x g : Int} {k : Nat} {s t : St} (h : StOk s) (h0 : -1 ≤ g) (h1 : g ≤ 1) (ho : readStep I R x k g s = some t) : StOk t := by
  rw [readStep] at ho
  split at ho
  · cases ho; exact h
  · split at ho
    · exact owe_ok h h0 h1 ho
    · split at ho
      · cases ho
      · cases ho; exact h
theorem read_ok {I : List PPh} {R : PRule} {s t : St} {x : Int} (h : StOk s) (hl : R.lft.length ≤ 2) (ho : readM I R s x = some t) : StOk t := by
  rw [readM] at ho
  cases h1 : readStep I R x 0 s.o0 (baseM I R s x) with
  | none => rw [h1] at ho; cases ho
  | some a =>
    rw [h1, Option.bind_some] at ho
    have ha := step_ok (base_ok h hl) h.a0 h.a1 h1
    cases h2 : readStep I R x 1 s.o1 a with
    | none => rw [h2] at ho; cases ho
    | some b =>
      rw [h2, Option.bind_some] at ho
      have hb := step_ok ha h.b0 h.b1 h2
      exact step_ok hb h.d0 h.d1 ho
def nearK (I : List PPh) (l : List PCls) (x : Int) (k : Nat) : Int := bitZ (decide (0 < k) && inK I l 0 x) 1 + bitZ (decide (1 < k) && inK I l 1 x) 2
theorem inK_over (I : List PPh) (l : List PCls) (x : Int) (k : Nat) (h : l.length ≤ k) : inK I l k x = false := by
  rw [inK, List.getElem?_eq_none h]
theorem nearK_all (I : List PPh) (l : List PCls) (x : Int) (n : Nat) (h : l.length = n) : nearK I l x n = bitZ (inK I l 0 x) 1 + bitZ (inK I l 1 x) 2 := by
  rw [nearK]
  rcases (show n = 0 ∨ n = 1 ∨ 2 ≤ n by omega) with h0 | h0 | h0
  · rw [inK_over I l x 0 (by omega), inK_over I l x 1 (by omega)]; simp
  · rw [inK_over I l x 1 (by omega)]; subst h0; simp
  · have e0 : decide (0 < n) = true := by simp; omega
    have e1 : decide (1 < n) = true := by simp; omega
    rw [e0, e1]; simp
theorem nearK_zero (I : List PPh) (l : List PCls) (x : Int) : nearK I l x 0 = 0 := rfl
theorem nearK_one (I : List PPh) (l : List PCls) (x : Int) : nearK I l x 1 = bitZ (inK I l 0 x) 1 := by simp [nearK, bitZ]
theorem nearK_two (I : List PPh) (l : List PCls) (x : Int) : nearK I l x 2 = bitZ (inK I l 0 x) 1 + bitZ (inK I l 1 x) 2 := by simp [nearK]
def readFrom (I : List PPh) (R : PRule) (s : St) (x : Int) (nx : St) : Nat → Option St
  | 0 => ((readStep I R x 0 s.o0 nx).bind (readStep I R x 1 s.o1)).bind (readStep I R x 2 s.o2)
  | 1 => (readStep I R x 1 s.o1 nx).bind (readStep I R x 2 s.o2)
  | 2 => readStep I R x 2 s.o2 nx
  | _ => some nx
theorem rf0 (I : List PPh) (R : PRule) (s : St) (x : Int) (nx : St) : readFrom I R s x nx 0 = (readStep I R x 0 s.o0 nx).bind fun n => readFrom I R s x n 1 := by
  simp only [readFrom]; cases readStep I R x 0 s.o0 nx <;> rfl
theorem rf1 (I : List PPh) (R : PRule) (s : St) (x : Int) (nx : St) : readFrom I R s x nx 1 = (readStep I R x 1 s.o1 nx).bind fun n => readFrom I R s x n 2 := rfl
theorem rf2 (I : List PPh) (R : PRule) (s : St) (x : Int) (nx : St) : readFrom I R s x nx 2 = (readStep I R x 2 s.o2 nx).bind fun n => readFrom I R s x n 3 := by
  simp only [readFrom]; cases readStep I R x 2 s.o2 nx <;> rfl
theorem SBlk.store6 {w : World} {b : Nat} {s : St} (h : SBlk w b s) (t : St) :
    SBlk ((((((w.setCell ⟨b, 0, none⟩ (.int .i64 t.cnt)).setCell ⟨b, 1, none⟩ (.int .u8 t.near)).setCell ⟨b, 2, none⟩ (.int .u8 t.far)).setCell ⟨b, 3, none⟩ (.int .i8 t.o0)).setCell ⟨b, 4, none⟩ (.int .i8 t.o1)).setCell ⟨b, 5, none⟩ (.int .i8 t.o2)) b t := by
  unfold SBlk at h ⊢
  simp [World.setCell, Array.getElem?_modify, h, stA]
theorem SBlk.far6 {w : World} {B b : Nat} {s : St} (h : SBlk w B s) (hb : B ≠ b) (u0 u1 u2 u3 u4 u5 : Value) :
    SBlk ((((((w.setCell ⟨b, 0, none⟩ u0).setCell ⟨b, 1, none⟩ u1).setCell ⟨b, 2, none⟩ u2).setCell ⟨b, 3, none⟩ u3).setCell ⟨b, 4, none⟩ u4).setCell ⟨b, 5, none⟩ u5) B s := by
  unfold SBlk at h ⊢
  rw [← h]
  iterate 6 (refine (Below.heap_setCell _ _ _ B hb).trans ?_)
  rfl
theorem SBlk.set0 {w : World} {b : Nat} {s : St} (h : SBlk w b s) (c : Int) : SBlk (w.setCell ⟨b, 0, none⟩ (.int .i64 c)) b { s with cnt := c } := by
  unfold SBlk at h ⊢
  simp [World.setCell, Array.getElem?_modify, h, stA]
theorem SBlk.set1 {w : World} {b : Nat} {s : St} (h : SBlk w b s) (c : Int) : SBlk (w.setCell ⟨b, 1, none⟩ (.int .u8 c)) b { s with near := c } := by
  unfold SBlk at h ⊢
  simp [World.setCell, Array.getElem?_modify, h, stA]
theorem SBlk.set2 {w : World} {b : Nat} {s : St} (h : SBlk w b s) (c : Int) : SBlk (w.setCell ⟨b, 2, none⟩ (.int .u8 c)) b { s with far := c } := by
  unfold SBlk at h ⊢
  simp [World.setCell, Array.getElem?_modify, h, stA]
theorem and_one (n : Int) (h0 : 0 ≤ n) (h1 : n ≤ 3) : bits .and .u8 n 1 = n % 2 := by
  rcases (show n = 0 ∨ n = 1 ∨ n = 2 ∨ n = 3 by omega) with h | h | h | h <;> subst h <;> decide
theorem below_six {B b : Nat} {w w1 : World} (h : Below B w w1) (hb : B ≤ b) (u0 u1 u2 u3 u4 u5 : Value) :
    Below B w ((((((w1.setCell ⟨b, 0, none⟩ u0).setCell ⟨b, 1, none⟩ u1).setCell ⟨b, 2, none⟩ u2).setCell ⟨b, 3, none⟩ u3).setCell ⟨b, 4, none⟩ u4).setCell ⟨b, 5, none⟩ u5) :=
  (((((h.setCell hb _).setCell hb _).setCell hb _).setCell hb _).setCell hb _).setCell hb _
set_option maxHeartbeats 8000000 in
set_option maxRecDepth 100000 in
theorem read_any (m : Mch) (I : List PPh) (R : PRule) (s : St) (x : Int) (w : World) (hm : MmOk w m I R) (hs : StOk s) (hl : R.lft.length ≤ 2) (hr : R.rgt.length ≤ 2) :
    Calls Try.prog 74 #[mchV m R.beg R.fin, stV s, .int .i64 x] w fun e w' => OweQ (readM I R s x) e ∧ Below w.heap.size w w' := by
  have HN := Lib.hid hm.len.2.2.2
  have HM := Lib.hid hm
  have HR0 : Hid (readM I R s x = readFrom I R s x (baseM I R s x) 0) := rfl
  obtain ⟨rv, hrv⟩ : ∃ rv, readM I R s x = rv := ⟨_, rfl⟩
  rw [hrv] at HR0 ⊢
  obtain ⟨beg, hbeg⟩ : ∃ x, R.beg = x := ⟨_, rfl⟩
  obtain ⟨fin, hfin⟩ : ∃ x, R.fin = x := ⟨_, rfl⟩
  have HBEG := Lib.hid hbeg
  have HFIN := Lib.hid hfin
  rw [hbeg, hfin]
  have HSO := Lib.hid hs
  have HLL : Hid (m.l.n ≤ 2) := by rw [Hid, ← HN.out.1]; exact hl
  have HRL : Hid (m.r.n ≤ 2) := by rw [Hid, ← HN.out.2]; exact hr
  clear hbeg hfin hm hrv hl hr hs
  obtain ⟨c, nr, fr, o0, o1, o2⟩ := s
  obtain ⟨hc0, hc1, hn0, hn1, _, _, _, _, _, _, _, _⟩ := HSO.out
  simp only at hc0 hc1 hn0 hn1
  have HAND := Lib.hid (and_one nr hn0 hn1)
  clear hn0 hn1
  simp only [mchV, mchC, stV, stA]
  have hand := HAND.out
  have hnl := HLL.out
  go_enter Try.func74, Try.ntmps74
  go_upto_if 28 with (fail)
  clear hand
  generalize hW0 : World.alloc (World.alloc (World.alloc w _) _) _ = W
  have HBW : Hid (Below w.heap.size w W) := by rw [← hW0]; repeat (first | assumption | exact Below.refl _ _ | refine Below.alloc ?_ (by first | omega | (simp; done) | (simp; omega)) _ | refine Below.drew ?_ | refine below_drewN ?_ _ | refine Below.setCell ?_ (by first | omega | (simp; done) | (simp; omega)) _)
  have HP : Hid (MBlk W w.heap.size m beg fin) := by rw [← hW0]; exact MBlk.below (MBlk.below (heap_alloc_new w _) (al_below _ _)) (al_below _ _)
  have HSS : Hid (SBlk W (w.heap.size + 1) ⟨c, nr, fr, o0, o1, o2⟩) := by
    have h := heap_alloc_new (w.alloc (.cells (mchC m beg fin) 76)) (.cells (stA ⟨c, nr, fr, o0, o1, o2⟩) 85)
    rw [World.size_alloc] at h
    rw [← hW0]; exact SBlk.below h (al_below _ _)
  have HZ : Hid (SBlk W (w.heap.size + 1 + 1) St.zero) := by
    have h := heap_alloc_new ((w.alloc (.cells (mchC m beg fin) 76)).alloc (.cells (stA ⟨c, nr, fr, o0, o1, o2⟩) 85)) (.cells (stA St.zero) 85)
    rw [World.size_alloc, World.size_alloc] at h
    rw [← hW0]; exact h
  have hsz : W.heap.size = w.heap.size + 1 + 1 + 1 := by rw [← hW0]; simp
  obtain ⟨b, hb⟩ : ∃ b, W.heap.size = b := ⟨_, rfl⟩
  rw [← hsz, hb]
  have HB3 : Hid (w.heap.size + 1 + 1 < b) := by unfold Hid; omega
  generalize hW1 : World.alloc W _ = W1
  have HN1 : Hid (SBlk W1 b ⟨min (c + 1) (m.l.n : Int), 0, nr % 2, 0, 0, 0⟩) := by rw [← hW1, ← hb]; exact heap_alloc_new W _
  have HB1 : Hid (Below b W W1) := by rw [← hW1, ← hb]; exact al_below _ _
  clear hW0 hW1 hsz hb
  have HMB : Hid (∀ w', Below b W w' → MBlk w' w.heap.size m beg fin ∧ SBlk w' (w.heap.size + 1) ⟨c, nr, fr, o0, o1, o2⟩ ∧ SBlk w' (w.heap.size + 1 + 1) St.zero ∧ Below w.heap.size w w') := by
    intro w' h
    have h3 := HB3.out
    exact ⟨(h.block _ (by omega)).trans HP.out, (h.block _ (by omega)).trans HSS.out, (h.block _ h3).trans HZ.out, HBW.out.trans (h.mono (by omega))⟩
  clear HP HSS HZ HBW
  obtain ⟨cc, hcc⟩ : ∃ cc, cntF R ⟨c, nr, fr, o0, o1, o2⟩ = cc := ⟨_, rfl⟩
  have HCC := Lib.hid hcc
  clear hcc
  go_cut [] (fun wx => Hid (SBlk wx b ⟨cc, 0, nr % 2, 0, 0, 0⟩) ∧ Hid (Below b W wx))
  case first =>
    cases beg
    · have hcc2 : cc = min (c + 1) (m.l.n : Int) := by rw [← HCC.out, cntF, HBEG.out, HN.out.1]; rfl
      go_wp2_with fail
      go_meet
      exact ⟨by rw [Hid, hcc2]; exact HN1.out, HB1.out⟩
    · have HC2 : Hid (cc = min (c + 1) ((m.l.n : Int) + 1)) := by rw [Hid, ← HCC.out, cntF, HBEG.out, HN.out.1]; rfl
      obtain ⟨q1, q2, q3, q4⟩ := HMB.out W1 HB1.out
      obtain ⟨_, _, _, z3, _⟩ := q1.cells
      obtain ⟨y0, _⟩ := q2.cells
      have zl := q1.lt
      have yl := q2.lt
      have xf := HN1.out.free 0
      have xl := HN1.out.lt
      obtain ⟨x0, _⟩ := HN1.out.cells
      clear q1 q2 q3 q4
      go_wp2_with fail
      go_meet
      refine ⟨?_, HB1.out.setCell (Nat.le_refl _) _⟩
      rw [Hid, HC2.out, show min (c + 1) ((m.l.n : Int) + 1) = min c (m.l.n : Int) + 1 by omega]
      exact HN1.out.set0 _
  case rest =>
    obtain ⟨hnx, hbx⟩ := hcut
    obtain ⟨q1, q2, q3, q4⟩ := HMB.out wc hbx.out
    obtain ⟨_, _, _, z3, _⟩ := q1.cells
    have zl := q1.lt
    clear q1 q2 q3 q4
    go_wp2_with fail
    clear z3 zl
    go_loopw [43] (fun v43 wr => ∃ k : Nat, k ≤ m.l.n ∧ v43 = .int .i64 k ∧ Hid (SBlk wr b ⟨cc, nearK I R.lft x k, nr % 2, 0, 0, 0⟩) ∧ Hid (Below b W wr)) (fun v43 _ => m.l.n - (intOf v43).toNat)
    case atStart => exact ⟨0, Nat.zero_le _, rfl, hnx, hbx⟩
    case round =>
      obtain ⟨k, hk, rfl, HNX, HBX⟩ := hrel
      by_cases hlt : k < m.l.n
      · obtain ⟨q1, _, _, q4⟩ := HMB.out wr HBX.out
        have HQ4 := Lib.hid q4
        have HQ1 := Lib.hid q1
        obtain ⟨_, _, _, z3, _, _, _, z7, z8, _, _⟩ := q1.cells
        have zl := q1.lt
        clear q1 q4
        have hkl : k < R.lft.length := by rw [HN.out.1]; exact hlt
        have HCL : Hid (R.lft[k]? = some R.lft[k]) := List.getElem?_eq_getElem hkl
        have HIN : Hid (inK I R.lft k x = inB I x R.lft[k]) := by rw [Hid, inK, HCL.out]
        generalize R.lft[k] = cl at HCL HIN
        have hk0 : (0 : Int) ≤ (k : Int) := by omega
        clear hkl
        go_wp2_with fail
        refine (cin_any _ _ I R.lft k x cl _ (HM.out.i.below HQ4.out) (HM.out.l.below HQ4.out) HCL.out).mono ?_
        rintro e w1 ⟨rfl, hb1⟩
        clear z3 z7 z8 zl
        have HB1 : Hid (Below b W w1) := HBX.out.trans (hb1.mono (by have := HNX.out.lt; omega))
        have HN1 : Hid (SBlk w1 b ⟨cc, nearK I R.lft x k, nr % 2, 0, 0, 0⟩) := HNX.out.below hb1
        have hin0 := HIN.out
        clear hb1 HNX HBX HCL HQ4 HIN HQ1
        cases hin : inB I x cl
        · rw [hin] at hin0
          have HNK : Hid (nearK I R.lft x (k + 1) = nearK I R.lft x k) := by
            rcases (show k = 0 ∨ k = 1 by have := HLL.out; omega) with h | h <;> subst h <;> simp [nearK, hin0, Hid, bitZ]
          clear hin hin0
          go_wp2_with fail
          go_roundw
          case rel => exact ⟨k + 1, by omega, by go_num, by rw [HNK.out]; exact HN1.out, HB1.out⟩
          case measure => simp [intOf]; omega
        · rw [hin] at hin0
          clear hin
          rcases (show k = 0 ∨ k = 1 by have := HLL.out; omega) with h | h
          · subst h
            have HNK : Hid (nearK I R.lft x (0 + 1) = 1) := by simp [nearK, hin0, Hid, bitZ]
            clear hin0
            go_upto_region 8 with (fail)
            refine wp_region_ord 4 [0, 1, 2, 3] [] [0, 1, 2, 3] [4, 5, 6] (fun w' => Below w1.heap.size w1 w') (by kernel_rfl) (by kernel_rfl) ?_
            rintro Z hZ
            have HSZ : Hid (Below w1.heap.size w1 Z) := by rw [hZ]; exact (Below.refl _ _).drew
            clear hZ
            refine ⟨HSZ.out, ?_⟩
            have HS : Hid (∀ w' : World, Below w1.heap.size w1 w' → w'.cell? ⟨b, 1, none⟩ = some (.int .u8 0)) := by
              intro w' h
              exact (HN1.out.below h).cells.2.1
            iterate 4 (refine wpHead_cons (v := ?_) rfl rfl (fun w' hS => ?_) ?_; rotate_left; (focus ((try obtain s0 := HS.out _ (hS rfl)); clear hS; go_simp; try with_reducible rfl; done)); (try simp only [Act.put, List.setIfInBounds_toArray, List.set_cons_zero, List.set_cons_succ]))
            refine wpHead_nil ?_
            refine wpTail_rest 4 rfl ?_
            simp only [List.drop_succ_cons, List.drop_zero]
            have xf := (HN1.out.below HSZ.out).free 1
            have xl := (HN1.out.below HSZ.out).lt
            obtain ⟨_, x1, _⟩ := (HN1.out.below HSZ.out).cells
            go_wp2_with fail
            refine NoPanic.normal ?_
            go_wp2_with fail
            go_roundw
            case rel => exact ⟨1, by omega, by go_num, by rw [HNK.out, show (1 : Int) = bits .or .u8 0 1 by decide]; exact (HN1.out.below HSZ.out).set1 _, (HB1.out.trans (HSZ.out.mono (Nat.le_of_lt HN1.out.lt))).setCell (Nat.le_refl _) _⟩
            case measure => simp [intOf]; omega
          · subst h
            cases hin1 : inK I R.lft 0 x
            · have HNK : Hid (nearK I R.lft x (1 + 1) = 2) := by simp [nearK, hin0, hin1, Hid, bitZ]
              have HNO : Hid (nearK I R.lft x 1 = 0) := by simp [nearK, hin1, Hid, bitZ]
              rw [HNO.out] at HN1
              clear hin0 hin1
              go_upto_region 8 with (fail)
              refine wp_region_ord 4 [0, 1, 2, 3] [] [0, 1, 2, 3] [4, 5, 6] (fun w' => Below w1.heap.size w1 w') (by kernel_rfl) (by kernel_rfl) ?_
              rintro Z hZ
              have HSZ : Hid (Below w1.heap.size w1 Z) := by rw [hZ]; exact (Below.refl _ _).drew
              clear hZ
              refine ⟨HSZ.out, ?_⟩
              have HS : Hid (∀ w' : World, Below w1.heap.size w1 w' → w'.cell? ⟨b, 1, none⟩ = some (.int .u8 0)) := by
                intro w' h
                exact (HN1.out.below h).cells.2.1
              iterate 4 (refine wpHead_cons (v := ?_) rfl rfl (fun w' hS => ?_) ?_; rotate_left; (focus ((try obtain s0 := HS.out _ (hS rfl)); clear hS; go_simp; try with_reducible rfl; done)); (try simp only [Act.put, List.setIfInBounds_toArray, List.set_cons_zero, List.set_cons_succ]))
              refine wpHead_nil ?_
              refine wpTail_rest 4 rfl ?_
              simp only [List.drop_succ_cons, List.drop_zero]
              have xf := (HN1.out.below HSZ.out).free 1
              have xl := (HN1.out.below HSZ.out).lt
              obtain ⟨_, x1, _⟩ := (HN1.out.below HSZ.out).cells
              go_wp2_with fail
              refine NoPanic.normal ?_
              go_wp2_with fail
              go_roundw
              case rel => exact ⟨2, by omega, by go_num, by rw [HNK.out, show (2 : Int) = bits .or .u8 0 2 by decide]; exact (HN1.out.below HSZ.out).set1 _, (HB1.out.trans (HSZ.out.mono (Nat.le_of_lt HN1.out.lt))).setCell (Nat.le_refl _) _⟩
              case measure => simp [intOf]; omega
            · have HNK : Hid (nearK I R.lft x (1 + 1) = 3) := by simp [nearK, hin0, hin1, Hid, bitZ]
              have HNO : Hid (nearK I R.lft x 1 = 1) := by simp [nearK, hin1, Hid, bitZ]
              rw [HNO.out] at HN1
              clear hin0 hin1
              go_upto_region 8 with (fail)
              refine wp_region_ord 4 [0, 1, 2, 3] [] [0, 1, 2, 3] [4, 5, 6] (fun w' => Below w1.heap.size w1 w') (by kernel_rfl) (by kernel_rfl) ?_
              rintro Z hZ
              have HSZ : Hid (Below w1.heap.size w1 Z) := by rw [hZ]; exact (Below.refl _ _).drew
              clear hZ
              refine ⟨HSZ.out, ?_⟩
              have HS : Hid (∀ w' : World, Below w1.heap.size w1 w' → w'.cell? ⟨b, 1, none⟩ = some (.int .u8 1)) := by
                intro w' h
                exact (HN1.out.below h).cells.2.1
              iterate 4 (refine wpHead_cons (v := ?_) rfl rfl (fun w' hS => ?_) ?_; rotate_left; (focus ((try obtain s0 := HS.out _ (hS rfl)); clear hS; go_simp; try with_reducible rfl; done)); (try simp only [Act.put, List.setIfInBounds_toArray, List.set_cons_zero, List.set_cons_succ]))
              refine wpHead_nil ?_
              refine wpTail_rest 4 rfl ?_
              simp only [List.drop_succ_cons, List.drop_zero]
              have xf := (HN1.out.below HSZ.out).free 1
              have xl := (HN1.out.below HSZ.out).lt
              obtain ⟨_, x1, _⟩ := (HN1.out.below HSZ.out).cells
              go_wp2_with fail
              refine NoPanic.normal ?_
              go_wp2_with fail
              go_roundw
              case rel => exact ⟨2, by omega, by go_num, by rw [HNK.out, show (3 : Int) = bits .or .u8 1 2 by decide]; exact (HN1.out.below HSZ.out).set1 _, (HB1.out.trans (HSZ.out.mono (Nat.le_of_lt HN1.out.lt))).setCell (Nat.le_refl _) _⟩
              case measure => simp [intOf]; omega
      · obtain rfl : m.l.n = k := by omega
        have HNB := Lib.hid (nearK_all I R.lft x m.l.n HN.out.1)
        rw [HNB.out] at HNX
        clear HNB hnx hbx
        obtain ⟨nb, hnb⟩ : ∃ nb, bitZ (inK I R.lft 0 x) 1 + bitZ (inK I R.lft 1 x) 2 = nb := ⟨_, rfl⟩
        have HNB := Lib.hid hnb
        rw [hnb] at HNX
        clear hnb hk hlt
        obtain ⟨wo, rfl⟩ : ∃ wo : World, wo = wr := ⟨_, rfl⟩
        obtain ⟨q1, _, _, _⟩ := HMB.out wo HBX.out
        obtain ⟨_, _, _, z3, _⟩ := q1.cells
        have zl := q1.lt
        obtain ⟨x0, _⟩ := HNX.out.cells
        have xl := HNX.out.lt
        have xf := HNX.out.free
        clear q1
        have HBA : Hid ((baseM I R ⟨c, nr, fr, o0, o1, o2⟩ x) = ⟨cc, if (m.l.n : Int) < cc then 0 else nb, if m.l.n < 2 ∨ (m.l.n : Int) < cc then 0 else nr % 2, 0, 0, 0⟩) := by
          rw [Hid, baseM, HCC.out, HN.out.1, HNB.out]
        have HMN : Hid (m.l.n < 2 ∨ m.l.n = 2) := by have := HLL.out; unfold Hid; omega
        obtain ⟨qq, hqq⟩ : ∃ qq, decide (m.l.n < 2 ∨ (m.l.n : Int) < cc) = qq := ⟨_, rfl⟩
        have HQQ := Lib.hid hqq
        clear hqq
        go_upto_region 10 with (fail)
        go_cut [71] (fun s71 wx => s71 = .bool qq ∧ wo = wx)
        case first =>
          by_cases hp : m.l.n < 2
          · have d1 : decide ((m.l.n : Int) < 2) = true := by simp; omega
            have HE : Hid (qq = true) := by rw [Hid, ← HQQ.out]; simp [hp]
            clear hp
            go_wp2_with fail
            go_meet
            exact ⟨by rw [HE.out], rfl⟩
          · have d1 : decide ((m.l.n : Int) < 2) = false := by simp; omega
            have HE : Hid (qq = decide ((m.l.n : Int) < cc)) := by rw [Hid, ← HQQ.out]; simp [hp]
            clear hp
            go_wp2_with fail
            go_meet
            exact ⟨by rw [HE.out], rfl⟩
        case rest =>
        obtain ⟨rfl, rfl⟩ := hcut
        clear z3 zl x0 xl xf
        go_upto_if 71 with (fail)
        go_cut [] (fun wx => Hid (SBlk wx b ⟨cc, nb, if m.l.n < 2 ∨ (m.l.n : Int) < cc then 0 else nr % 2, 0, 0, 0⟩) ∧ Hid (Below b W wx))
        case first =>
          have xl := HNX.out.lt
          have xf := HNX.out.free
          cases qq
          · have HE : Hid ((if m.l.n < 2 ∨ (m.l.n : Int) < cc then 0 else nr % 2) = nr % 2) := if_neg (of_decide_eq_false HQQ.out)
            go_wp2_with fail
            go_meet
            exact ⟨by rw [Hid, HE.out]; exact HNX.out, HBX.out⟩
          · have HE : Hid ((if m.l.n < 2 ∨ (m.l.n : Int) < cc then 0 else nr % 2) = 0) := if_pos (of_decide_eq_true HQQ.out)
            go_wp2_with fail
            go_meet
            exact ⟨by rw [Hid, HE.out]; exact HNX.out.set2 _, HBX.out.setCell (Nat.le_refl _) _⟩
        case rest =>
          obtain ⟨hnx, hbx⟩ := hcut
          obtain ⟨w2, rfl⟩ : ∃ w2 : World, w2 = wc := ⟨_, rfl⟩
          clear HNX HBX
          obtain ⟨ff, hff⟩ : ∃ ff, (if m.l.n < 2 ∨ (m.l.n : Int) < cc then 0 else nr % 2) = ff := ⟨_, rfl⟩
          rw [hff] at hnx HBA
          clear hff
          obtain ⟨q1, _, _, _⟩ := HMB.out w2 hbx.out
          obtain ⟨_, _, _, z3, _⟩ := q1.cells
          have zl := q1.lt
          obtain ⟨x0, _⟩ := hnx.out.cells
          have xl := hnx.out.lt
          clear q1
          obtain ⟨qc, hqc⟩ : ∃ qc, decide ((m.l.n : Int) < cc) = qc := ⟨_, rfl⟩
          have HQC := Lib.hid hqc
          clear hqc
          go_upto_region 12 with (fail)
          go_cut [79] (fun s79 wx => s79 = .bool qc ∧ w2 = wx)
          case first =>
            go_wp2_with fail
            go_meet
            exact ⟨by rw [HQC.out], rfl⟩
          case rest =>
          obtain ⟨rfl, rfl⟩ := hcut
          clear z3 zl x0 xl
          go_upto_if 79 with (fail)
          go_cut [] (fun wx => Hid (SBlk wx b ⟨cc, if (m.l.n : Int) < cc then 0 else nb, ff, 0, 0, 0⟩) ∧ Hid (Below b W wx))
          case first =>
            have xl := hnx.out.lt
            have xf := hnx.out.free
            cases qc
            · have HE : Hid ((if (m.l.n : Int) < cc then 0 else nb) = nb) := if_neg (of_decide_eq_false HQC.out)
              go_wp2_with fail
              go_meet
              exact ⟨by rw [Hid, HE.out]; exact hnx.out, hbx.out⟩
            · have HE : Hid ((if (m.l.n : Int) < cc then 0 else nb) = 0) := if_pos (of_decide_eq_true HQC.out)
              go_wp2_with fail
              go_meet
              exact ⟨by rw [Hid, HE.out]; exact hnx.out.set1 _, hbx.out.setCell (Nat.le_refl _) _⟩
          case rest =>
            obtain ⟨hnx, hbx⟩ := hcut
            obtain ⟨w3, rfl⟩ : ∃ w3 : World, w3 = wc := ⟨_, rfl⟩
            rw [← HBA.out] at hnx
            obtain ⟨_, q1, _, _⟩ := HMB.out w3 hbx.out
            obtain ⟨_, _, _, y3, y4, y5⟩ := q1.cells
            have yl := q1.lt
            clear q1
            go_wp2_with fail
            clear y3 y4 y5 yl
            have i0 : ∀ w, (Instr.index 83 (.agg #[.int .i8 o0, .int .i8 o1, .int .i8 o2]) (.int .i64 0)).run Try.prog w = .ok (.int .i8 o0) w := fun _ => by kernel_rfl
            have i1 : ∀ w, (Instr.index 83 (.agg #[.int .i8 o0, .int .i8 o1, .int .i8 o2]) (.int .i64 1)).run Try.prog w = .ok (.int .i8 o1) w := fun _ => by kernel_rfl
            have i2 : ∀ w, (Instr.index 83 (.agg #[.int .i8 o0, .int .i8 o1, .int .i8 o2]) (.int .i64 2)).run Try.prog w = .ok (.int .i8 o2) w := fun _ => by kernel_rfl
            go_loopw [83] (fun v83 wr => ∃ (k : Nat) (nx : St), k ≤ 3 ∧ v83 = .int .i64 k ∧ Hid (rv = readFrom I R ⟨c, nr, fr, o0, o1, o2⟩ x nx k) ∧ Hid (SBlk wr b nx) ∧ Hid (Below b W wr)) (fun v83 _ => 3 - (intOf v83).toNat)
            case atStart => exact ⟨0, _, by omega, rfl, HR0.out, hnx.out, hbx.out⟩
            case round =>
              obtain ⟨k, nx, hk, rfl, HRV, HNX, HBX⟩ := hrel
              rcases (show k = 0 ∨ k = 1 ∨ k = 2 ∨ k = 3 by omega) with hk0 | hk0 | hk0 | hk0
              · subst hk0
                by_cases hg0 : o0 = 0
                · have d1 : (o0 == 0) = true := by simp [hg0]
                  have HRV2 : Hid (rv = readFrom I R ⟨c, nr, fr, o0, o1, o2⟩ x nx 1) := by rw [Hid, HRV.out, rf0, readStep, if_pos hg0]; rfl
                  clear hg0
                  go_wp2_with fail
                  go_roundw
                  case rel => exact ⟨1, nx, by omega, by go_num, HRV2.out, HNX.out, HBX.out⟩
                  case measure => simp [intOf]
                · have d1 : (o0 == 0) = false := by simp [hg0]
                  obtain ⟨q1, _, q3, q4⟩ := HMB.out wr HBX.out
                  have HQ1 := Lib.hid q1
                  have HQ3 := Lib.hid q3
                  have HQ4 := Lib.hid q4
                  obtain ⟨_, _, _, _, z4, _, _, _, _, z9, z10⟩ := q1.cells
                  have zl := q1.lt
                  clear q1 q3 q4
                  by_cases hkr : 0 < m.r.n
                  · have d2 : decide ((0 : Int) < (m.r.n : Int)) = true := by simp; omega
                    have d2n : decide (0 < m.r.n) = true := by simpa using hkr
                    have hkl : 0 < R.rgt.length := by rw [HN.out.2]; exact hkr
                    have HCL : Hid (R.rgt[0]? = some R.rgt[0]) := List.getElem?_eq_getElem hkl
                    have HIN : Hid (inK I R.rgt 0 x = inB I x R.rgt[0]) := by rw [Hid, inK, HCL.out]
                    generalize R.rgt[0] = cl at HCL HIN
                    have HK2 : Hid (0 + 1 ≤ 2) := by have := HRL.out; unfold Hid; omega
                    clear hkl hkr
                    go_wp2_with fail
                    refine (cin_any _ _ I R.rgt 0 x cl _ (HM.out.i.below HQ4.out) (HM.out.r.below HQ4.out) HCL.out).mono ?_
                    rintro e w4 ⟨rfl, hb1⟩
                    clear z4 z9 z10 zl
                    have HB4 : Hid (Below b W w4) := HBX.out.trans (hb1.mono (Nat.le_of_lt HNX.out.lt))
                    have HN4 : Hid (SBlk w4 b nx) := HNX.out.below hb1
                    have hin0 := HIN.out
                    clear hb1 HNX HBX HCL HQ4 HIN HQ1 HQ3
                    cases hin : inB I x cl
                    · rw [hin] at hin0
                      have HIN := Lib.hid hin0
                      clear hin hin0
                      have HST : Hid (readStep I R x 0 o0 nx = if 0 < o0 then none else some nx) := by rw [Hid, readStep, if_neg hg0, HIN.out, if_neg (by decide)]
                      clear hg0
                      by_cases hp : 0 < o0
                      · have d3 : decide (0 < o0) = true := by simpa using hp
                        have HRS : Hid (rv = none) := by rw [Hid, HRV.out, rf0, HST.out, if_pos hp]; rfl
                        obtain ⟨_, _, q3, q4⟩ := HMB.out w4 (HB4).out
                        have HQ4 := Lib.hid q4
                        obtain ⟨r0, r1, r2, r3, r4, r5⟩ := q3.cells
                        have rf := q3.free
                        have rl := q3.lt
                        clear q3 q4 hp
                        go_wp2_with fail
                        refine bodyPost_ret (v := .tuple #[.agg #[.int .i64 0, .int .u8 0, .int .u8 0, .int .i8 0, .int .i8 0, .int .i8 0], .bool false]) ?_ rfl ?_
                        · simp [results, Try.results74, go_sem, r0, r1, r2, r3, r4, r5]
                        exact ⟨OweQ.no St.zero HRS.out rfl, below_six HQ4.out (by omega) _ _ _ _ _ _⟩
                      · have d3 : decide (0 < o0) = false := by simpa using hp
                        have HRV2 : Hid (rv = readFrom I R ⟨c, nr, fr, o0, o1, o2⟩ x nx 1) := by rw [Hid, HRV.out, rf0, HST.out, if_neg hp]; rfl
                        clear hp
                        go_wp2_with fail
                        go_roundw
                        case rel => exact ⟨1, nx, by omega, by go_num, HRV2.out, (HN4).out, (HB4).out⟩
                        case measure => simp [intOf]
                    · rw [hin] at hin0
                      have HIN := Lib.hid hin0
                      clear hin hin0
                      obtain ⟨q1, _, q3, q4⟩ := HMB.out w4 HB4.out
                      have HQ4 := Lib.hid q4
                      obtain ⟨z0, z1, z2, z3, z4, z5, z6, z7, z8, z9, z10⟩ := q1.cells
                      have zl := q1.lt
                      obtain ⟨x0, x1, x2, x3, x4, x5⟩ := HN4.out.cells
                      have xl := HN4.out.lt
                      clear q1 q3 q4
                      go_wp2_with fail
                      clear z0 z1 z2 z3 z4 z5 z6 z7 z8 z9 z10 zl x0 x1 x2 x3 x4 x5 xl
                      have howe := owe_any m I R nx (0 + 1) o0 w4 (HM.out.below HQ4.out) HK2.out
                      rw [HBEG.out, HFIN.out] at howe
                      refine howe.mono ?_
                      clear howe HQ4
                      rintro e w5 ⟨hq, hb5⟩
                      have HB5 : Hid (Below b W w5) := HB4.out.trans (hb5.mono (Nat.le_of_lt HN4.out.lt))
                      have HN5 : Hid (SBlk w5 b nx) := HN4.out.below hb5
                      have xf := HN5.out.free
                      have xl := HN5.out.lt
                      obtain ⟨x0, x1, x2, x3, x4, x5⟩ := HN5.out.cells
                      clear hb5
                      have HST : Hid (readStep I R x 0 o0 nx = oweM R nx (0 + 1) o0) := by rw [Hid, readStep, if_neg hg0, HIN.out, if_pos rfl]
                      clear hg0
                      rcases hq with ⟨t, ht, rfl⟩ | ⟨ht, t, rfl⟩
                      · have HRV2 : Hid (rv = readFrom I R ⟨c, nr, fr, o0, o1, o2⟩ x t 1) := by rw [Hid, HRV.out, rf0, HST.out, ht]; rfl
                        clear ht
                        simp only [stV, stA]
                        go_wp2_with fail
                        go_roundw
                        case rel => exact ⟨1, t, by omega, by go_num, HRV2.out, HN5.out.store6 t, below_six HB5.out (Nat.le_refl _) _ _ _ _ _ _⟩
                        case measure => simp [intOf]
                      · have HRS : Hid (rv = none) := by rw [Hid, HRV.out, rf0, HST.out, ht]; rfl
                        clear ht
                        simp only [stV, stA]
                        obtain ⟨_, _, q3, q4⟩ := HMB.out w5 HB5.out
                        have HQ4 : Hid (Below w.heap.size w ((((((w5.setCell ⟨b, 0, none⟩ (.int .i64 t.cnt)).setCell ⟨b, 1, none⟩ (.int .u8 t.near)).setCell ⟨b, 2, none⟩ (.int .u8 t.far)).setCell ⟨b, 3, none⟩ (.int .i8 t.o0)).setCell ⟨b, 4, none⟩ (.int .i8 t.o1)).setCell ⟨b, 5, none⟩ (.int .i8 t.o2))) := below_six q4 (by have := HB3.out; omega) _ _ _ _ _ _
                        have HR5 : Hid (SBlk ((((((w5.setCell ⟨b, 0, none⟩ (.int .i64 t.cnt)).setCell ⟨b, 1, none⟩ (.int .u8 t.near)).setCell ⟨b, 2, none⟩ (.int .u8 t.far)).setCell ⟨b, 3, none⟩ (.int .i8 t.o0)).setCell ⟨b, 4, none⟩ (.int .i8 t.o1)).setCell ⟨b, 5, none⟩ (.int .i8 t.o2)) (w.heap.size + 1 + 1) St.zero) := SBlk.far6 q3 (by have := HB3.out; omega) _ _ _ _ _ _
                        clear q3 q4
                        go_upto_region 25 with (fail)
                        generalize World.setCell _ _ (Value.int .i8 t.o2) = w6 at HQ4 HR5 ⊢
                        clear x0 x1 x2 x3 x4 x5 xf xl
                        obtain ⟨r0, r1, r2, r3, r4, r5⟩ := HR5.out.cells
                        have rf := HR5.out.free
                        have rl := HR5.out.lt
                        go_wp2_with fail
                        refine bodyPost_ret (v := .tuple #[.agg #[.int .i64 0, .int .u8 0, .int .u8 0, .int .i8 0, .int .i8 0, .int .i8 0], .bool false]) ?_ rfl ?_
                        · simp [results, Try.results74, go_sem, r0, r1, r2, r3, r4, r5]
                        exact ⟨OweQ.no St.zero HRS.out rfl, below_six HQ4.out (by omega) _ _ _ _ _ _⟩
                  · have d2 : decide ((0 : Int) < (m.r.n : Int)) = false := by simp; omega
                    have d2n : decide (0 < m.r.n) = false := by simpa using hkr
                    have HIN : Hid (inK I R.rgt 0 x = false) := inK_over I R.rgt x 0 (by rw [HN.out.2]; omega)
                    have HB4 := Lib.hid HBX.out
                    have HN4 := Lib.hid HNX.out
                    clear hkr z9 z10
                    have HST : Hid (readStep I R x 0 o0 nx = if 0 < o0 then none else some nx) := by rw [Hid, readStep, if_neg hg0, HIN.out, if_neg (by decide)]
                    clear hg0
                    by_cases hp : 0 < o0
                    · have d3 : decide (0 < o0) = true := by simpa using hp
                      have HRS : Hid (rv = none) := by rw [Hid, HRV.out, rf0, HST.out, if_pos hp]; rfl
                      obtain ⟨_, _, q3, q4⟩ := HMB.out wr (HB4).out
                      have HQ4 := Lib.hid q4
                      obtain ⟨r0, r1, r2, r3, r4, r5⟩ := q3.cells
                      have rf := q3.free
                      have rl := q3.lt
                      clear q3 q4 hp
                      go_wp2_with fail
                      refine bodyPost_ret (v := .tuple #[.agg #[.int .i64 0, .int .u8 0, .int .u8 0, .int .i8 0, .int .i8 0, .int .i8 0], .bool false]) ?_ rfl ?_
                      · simp [results, Try.results74, go_sem, r0, r1, r2, r3, r4, r5]
                      exact ⟨OweQ.no St.zero HRS.out rfl, below_six HQ4.out (by omega) _ _ _ _ _ _⟩
                    · have d3 : decide (0 < o0) = false := by simpa using hp
                      have HRV2 : Hid (rv = readFrom I R ⟨c, nr, fr, o0, o1, o2⟩ x nx 1) := by rw [Hid, HRV.out, rf0, HST.out, if_neg hp]; rfl
                      clear hp
                      go_wp2_with fail
                      go_roundw
                      case rel => exact ⟨1, nx, by omega, by go_num, HRV2.out, (HN4).out, (HB4).out⟩
                      case measure => simp [intOf]
              · subst hk0
                by_cases hg0 : o1 = 0
                · have d1 : (o1 == 0) = true := by simp [hg0]
                  have HRV2 : Hid (rv = readFrom I R ⟨c, nr, fr, o0, o1, o2⟩ x nx 2) := by rw [Hid, HRV.out, rf1, readStep, if_pos hg0]; rfl
                  clear hg0
                  go_wp2_with fail
                  go_roundw
                  case rel => exact ⟨2, nx, by omega, by go_num, HRV2.out, HNX.out, HBX.out⟩
                  case measure => simp [intOf]
                · have d1 : (o1 == 0) = false := by simp [hg0]
                  obtain ⟨q1, _, q3, q4⟩ := HMB.out wr HBX.out
                  have HQ1 := Lib.hid q1
                  have HQ3 := Lib.hid q3
                  have HQ4 := Lib.hid q4
                  obtain ⟨_, _, _, _, z4, _, _, _, _, z9, z10⟩ := q1.cells
                  have zl := q1.lt
                  clear q1 q3 q4
                  by_cases hkr : 1 < m.r.n
                  · have d2 : decide ((1 : Int) < (m.r.n : Int)) = true := by simp; omega
                    have d2n : decide (1 < m.r.n) = true := by simpa using hkr
                    have hkl : 1 < R.rgt.length := by rw [HN.out.2]; exact hkr
                    have HCL : Hid (R.rgt[1]? = some R.rgt[1]) := List.getElem?_eq_getElem hkl
                    have HIN : Hid (inK I R.rgt 1 x = inB I x R.rgt[1]) := by rw [Hid, inK, HCL.out]
                    generalize R.rgt[1] = cl at HCL HIN
                    have HK2 : Hid (1 + 1 ≤ 2) := by have := HRL.out; unfold Hid; omega
                    clear hkl hkr
                    go_wp2_with fail
                    refine (cin_any _ _ I R.rgt 1 x cl _ (HM.out.i.below HQ4.out) (HM.out.r.below HQ4.out) HCL.out).mono ?_
                    rintro e w4 ⟨rfl, hb1⟩
                    clear z4 z9 z10 zl
                    have HB4 : Hid (Below b W w4) := HBX.out.trans (hb1.mono (Nat.le_of_lt HNX.out.lt))
                    have HN4 : Hid (SBlk w4 b nx) := HNX.out.below hb1
                    have hin0 := HIN.out
                    clear hb1 HNX HBX HCL HQ4 HIN HQ1 HQ3
                    cases hin : inB I x cl
                    · rw [hin] at hin0
                      have HIN := Lib.hid hin0
                      clear hin hin0
                      have HST : Hid (readStep I R x 1 o1 nx = if 0 < o1 then none else some nx) := by rw [Hid, readStep, if_neg hg0, HIN.out, if_neg (by decide)]
                      clear hg0
                      by_cases hp : 0 < o1
                      · have d3 : decide (0 < o1) = true := by simpa using hp
                        have HRS : Hid (rv = none) := by rw [Hid, HRV.out, rf1, HST.out, if_pos hp]; rfl
                        obtain ⟨_, _, q3, q4⟩ := HMB.out w4 (HB4).out
                        have HQ4 := Lib.hid q4
                        obtain ⟨r0, r1, r2, r3, r4, r5⟩ := q3.cells
                        have rf := q3.free
                        have rl := q3.lt
                        clear q3 q4 hp
                        go_wp2_with fail
                        refine bodyPost_ret (v := .tuple #[.agg #[.int .i64 0, .int .u8 0, .int .u8 0, .int .i8 0, .int .i8 0, .int .i8 0], .bool false]) ?_ rfl ?_
                        · simp [results, Try.results74, go_sem, r0, r1, r2, r3, r4, r5]
                        exact ⟨OweQ.no St.zero HRS.out rfl, below_six HQ4.out (by omega) _ _ _ _ _ _⟩
                      · have d3 : decide (0 < o1) = false := by simpa using hp
                        have HRV2 : Hid (rv = readFrom I R ⟨c, nr, fr, o0, o1, o2⟩ x nx 2) := by rw [Hid, HRV.out, rf1, HST.out, if_neg hp]; rfl
                        clear hp
                        go_wp2_with fail
                        go_roundw
                        case rel => exact ⟨2, nx, by omega, by go_num, HRV2.out, (HN4).out, (HB4).out⟩
                        case measure => simp [intOf]
                    · rw [hin] at hin0
                      have HIN := Lib.hid hin0
                      clear hin hin0
                      obtain ⟨q1, _, q3, q4⟩ := HMB.out w4 HB4.out
                      have HQ4 := Lib.hid q4
                      obtain ⟨z0, z1, z2, z3, z4, z5, z6, z7, z8, z9, z10⟩ := q1.cells
                      have zl := q1.lt
                      obtain ⟨x0, x1, x2, x3, x4, x5⟩ := HN4.out.cells
                      have xl := HN4.out.lt
                      clear q1 q3 q4
                      go_wp2_with fail
                      clear z0 z1 z2 z3 z4 z5 z6 z7 z8 z9 z10 zl x0 x1 x2 x3 x4 x5 xl
                      have howe := owe_any m I R nx (1 + 1) o1 w4 (HM.out.below HQ4.out) HK2.out
                      rw [HBEG.out, HFIN.out] at howe
                      refine howe.mono ?_
                      clear howe HQ4
                      rintro e w5 ⟨hq, hb5⟩
                      have HB5 : Hid (Below b W w5) := HB4.out.trans (hb5.mono (Nat.le_of_lt HN4.out.lt))
                      have HN5 : Hid (SBlk w5 b nx) := HN4.out.below hb5
                      have xf := HN5.out.free
                      have xl := HN5.out.lt
                      obtain ⟨x0, x1, x2, x3, x4, x5⟩ := HN5.out.cells
                      clear hb5
                      have HST : Hid (readStep I R x 1 o1 nx = oweM R nx (1 + 1) o1) := by rw [Hid, readStep, if_neg hg0, HIN.out, if_pos rfl]
                      clear hg0
                      rcases hq with ⟨t, ht, rfl⟩ | ⟨ht, t, rfl⟩
                      · have HRV2 : Hid (rv = readFrom I R ⟨c, nr, fr, o0, o1, o2⟩ x t 2) := by rw [Hid, HRV.out, rf1, HST.out, ht]; rfl
                        clear ht
                        simp only [stV, stA]
                        go_wp2_with fail
                        go_roundw
                        case rel => exact ⟨2, t, by omega, by go_num, HRV2.out, HN5.out.store6 t, below_six HB5.out (Nat.le_refl _) _ _ _ _ _ _⟩
                        case measure => simp [intOf]
                      · have HRS : Hid (rv = none) := by rw [Hid, HRV.out, rf1, HST.out, ht]; rfl
                        clear ht
                        simp only [stV, stA]
                        obtain ⟨_, _, q3, q4⟩ := HMB.out w5 HB5.out
                        have HQ4 : Hid (Below w.heap.size w ((((((w5.setCell ⟨b, 0, none⟩ (.int .i64 t.cnt)).setCell ⟨b, 1, none⟩ (.int .u8 t.near)).setCell ⟨b, 2, none⟩ (.int .u8 t.far)).setCell ⟨b, 3, none⟩ (.int .i8 t.o0)).setCell ⟨b, 4, none⟩ (.int .i8 t.o1)).setCell ⟨b, 5, none⟩ (.int .i8 t.o2))) := below_six q4 (by have := HB3.out; omega) _ _ _ _ _ _
                        have HR5 : Hid (SBlk ((((((w5.setCell ⟨b, 0, none⟩ (.int .i64 t.cnt)).setCell ⟨b, 1, none⟩ (.int .u8 t.near)).setCell ⟨b, 2, none⟩ (.int .u8 t.far)).setCell ⟨b, 3, none⟩ (.int .i8 t.o0)).setCell ⟨b, 4, none⟩ (.int .i8 t.o1)).setCell ⟨b, 5, none⟩ (.int .i8 t.o2)) (w.heap.size + 1 + 1) St.zero) := SBlk.far6 q3 (by have := HB3.out; omega) _ _ _ _ _ _
                        clear q3 q4
                        go_upto_region 25 with (fail)
                        generalize World.setCell _ _ (Value.int .i8 t.o2) = w6 at HQ4 HR5 ⊢
                        clear x0 x1 x2 x3 x4 x5 xf xl
                        obtain ⟨r0, r1, r2, r3, r4, r5⟩ := HR5.out.cells
                        have rf := HR5.out.free
                        have rl := HR5.out.lt
                        go_wp2_with fail
                        refine bodyPost_ret (v := .tuple #[.agg #[.int .i64 0, .int .u8 0, .int .u8 0, .int .i8 0, .int .i8 0, .int .i8 0], .bool false]) ?_ rfl ?_
                        · simp [results, Try.results74, go_sem, r0, r1, r2, r3, r4, r5]
                        exact ⟨OweQ.no St.zero HRS.out rfl, below_six HQ4.out (by omega) _ _ _ _ _ _⟩
                  · have d2 : decide ((1 : Int) < (m.r.n : Int)) = false := by simp; omega
                    have d2n : decide (1 < m.r.n) = false := by simpa using hkr
                    have HIN : Hid (inK I R.rgt 1 x = false) := inK_over I R.rgt x 1 (by rw [HN.out.2]; omega)
                    have HB4 := Lib.hid HBX.out
                    have HN4 := Lib.hid HNX.out
                    clear hkr z9 z10
                    have HST : Hid (readStep I R x 1 o1 nx = if 0 < o1 then none else some nx) := by rw [Hid, readStep, if_neg hg0, HIN.out, if_neg (by decide)]
                    clear hg0
                    by_cases hp : 0 < o1
                    · have d3 : decide (0 < o1) = true := by simpa using hp
                      have HRS : Hid (rv = none) := by rw [Hid, HRV.out, rf1, HST.out, if_pos hp]; rfl
                      obtain ⟨_, _, q3, q4⟩ := HMB.out wr (HB4).out
                      have HQ4 := Lib.hid q4
                      obtain ⟨r0, r1, r2, r3, r4, r5⟩ := q3.cells
                      have rf := q3.free
                      have rl := q3.lt
                      clear q3 q4 hp
                      go_wp2_with fail
                      refine bodyPost_ret (v := .tuple #[.agg #[.int .i64 0, .int .u8 0, .int .u8 0, .int .i8 0, .int .i8 0, .int .i8 0], .bool false]) ?_ rfl ?_
                      · simp [results, Try.results74, go_sem, r0, r1, r2, r3, r4, r5]
                      exact ⟨OweQ.no St.zero HRS.out rfl, below_six HQ4.out (by omega) _ _ _ _ _ _⟩
                    · have d3 : decide (0 < o1) = false := by simpa using hp
                      have HRV2 : Hid (rv = readFrom I R ⟨c, nr, fr, o0, o1, o2⟩ x nx 2) := by rw [Hid, HRV.out, rf1, HST.out, if_neg hp]; rfl
                      clear hp
                      go_wp2_with fail
                      go_roundw
                      case rel => exact ⟨2, nx, by omega, by go_num, HRV2.out, (HN4).out, (HB4).out⟩
                      case measure => simp [intOf]
              · subst hk0
                by_cases hg0 : o2 = 0
                · have d1 : (o2 == 0) = true := by simp [hg0]
                  have HRV2 : Hid (rv = readFrom I R ⟨c, nr, fr, o0, o1, o2⟩ x nx 3) := by rw [Hid, HRV.out, rf2, readStep, if_pos hg0]; rfl
                  clear hg0
                  go_wp2_with fail
                  go_roundw
                  case rel => exact ⟨3, nx, by omega, by go_num, HRV2.out, HNX.out, HBX.out⟩
                  case measure => simp [intOf]
                · have d1 : (o2 == 0) = false := by simp [hg0]
                  obtain ⟨q1, _, q3, q4⟩ := HMB.out wr HBX.out
                  have HQ1 := Lib.hid q1
                  have HQ3 := Lib.hid q3
                  have HQ4 := Lib.hid q4
                  obtain ⟨_, _, _, _, z4, _, _, _, _, z9, z10⟩ := q1.cells
                  have zl := q1.lt
                  clear q1 q3 q4
                  by_cases hkr : 2 < m.r.n
                  · have d2 : decide ((2 : Int) < (m.r.n : Int)) = true := by simp; omega
                    have d2n : decide (2 < m.r.n) = true := by simpa using hkr
                    have hkl : 2 < R.rgt.length := by rw [HN.out.2]; exact hkr
                    have HCL : Hid (R.rgt[2]? = some R.rgt[2]) := List.getElem?_eq_getElem hkl
                    have HIN : Hid (inK I R.rgt 2 x = inB I x R.rgt[2]) := by rw [Hid, inK, HCL.out]
                    generalize R.rgt[2] = cl at HCL HIN
                    have HK2 : Hid (2 + 1 ≤ 2) := by have := HRL.out; unfold Hid; omega
                    clear hkl hkr
                    go_wp2_with fail
                    refine (cin_any _ _ I R.rgt 2 x cl _ (HM.out.i.below HQ4.out) (HM.out.r.below HQ4.out) HCL.out).mono ?_
                    rintro e w4 ⟨rfl, hb1⟩
                    clear z4 z9 z10 zl
                    have HB4 : Hid (Below b W w4) := HBX.out.trans (hb1.mono (Nat.le_of_lt HNX.out.lt))
                    have HN4 : Hid (SBlk w4 b nx) := HNX.out.below hb1
                    have hin0 := HIN.out
                    clear hb1 HNX HBX HCL HQ4 HIN HQ1 HQ3
                    cases hin : inB I x cl
                    · rw [hin] at hin0
                      have HIN := Lib.hid hin0
                      clear hin hin0
                      have HST : Hid (readStep I R x 2 o2 nx = if 0 < o2 then none else some nx) := by rw [Hid, readStep, if_neg hg0, HIN.out, if_neg (by decide)]
                      clear hg0
                      by_cases hp : 0 < o2
                      · have d3 : decide (0 < o2) = true := by simpa using hp
                        have HRS : Hid (rv = none) := by rw [Hid, HRV.out, rf2, HST.out, if_pos hp]; rfl
                        obtain ⟨_, _, q3, q4⟩ := HMB.out w4 (HB4).out
                        have HQ4 := Lib.hid q4
                        obtain ⟨r0, r1, r2, r3, r4, r5⟩ := q3.cells
                        have rf := q3.free
                        have rl := q3.lt
                        clear q3 q4 hp
                        go_wp2_with fail
                        refine bodyPost_ret (v := .tuple #[.agg #[.int .i64 0, .int .u8 0, .int .u8 0, .int .i8 0, .int .i8 0, .int .i8 0], .bool false]) ?_ rfl ?_
                        · simp [results, Try.results74, go_sem, r0, r1, r2, r3, r4, r5]
                        exact ⟨OweQ.no St.zero HRS.out rfl, below_six HQ4.out (by omega) _ _ _ _ _ _⟩
                      · have d3 : decide (0 < o2) = false := by simpa using hp
                        have HRV2 : Hid (rv = readFrom I R ⟨c, nr, fr, o0, o1, o2⟩ x nx 3) := by rw [Hid, HRV.out, rf2, HST.out, if_neg hp]; rfl
                        clear hp
                        go_wp2_with fail
                        go_roundw
                        case rel => exact ⟨3, nx, by omega, by go_num, HRV2.out, (HN4).out, (HB4).out⟩
                        case measure => simp [intOf]
                    · rw [hin] at hin0
                      have HIN := Lib.hid hin0
                      clear hin hin0
                      obtain ⟨q1, _, q3, q4⟩ := HMB.out w4 HB4.out
                      have HQ4 := Lib.hid q4
                      obtain ⟨z0, z1, z2, z3, z4, z5, z6, z7, z8, z9, z10⟩ := q1.cells
                      have zl := q1.lt
                      obtain ⟨x0, x1, x2, x3, x4, x5⟩ := HN4.out.cells
                      have xl := HN4.out.lt
                      clear q1 q3 q4
                      go_wp2_with fail
                      clear z0 z1 z2 z3 z4 z5 z6 z7 z8 z9 z10 zl x0 x1 x2 x3 x4 x5 xl
                      have howe := owe_any m I R nx (2 + 1) o2 w4 (HM.out.below HQ4.out) HK2.out
                      rw [HBEG.out, HFIN.out] at howe
                      refine howe.mono ?_
                      clear howe HQ4
                      rintro e w5 ⟨hq, hb5⟩
                      have HB5 : Hid (Below b W w5) := HB4.out.trans (hb5.mono (Nat.le_of_lt HN4.out.lt))
                      have HN5 : Hid (SBlk w5 b nx) := HN4.out.below hb5
                      have xf := HN5.out.free
                      have xl := HN5.out.lt
                      obtain ⟨x0, x1, x2, x3, x4, x5⟩ := HN5.out.cells
                      clear hb5
                      have HST : Hid (readStep I R x 2 o2 nx = oweM R nx (2 + 1) o2) := by rw [Hid, readStep, if_neg hg0, HIN.out, if_pos rfl]
                      clear hg0
                      rcases hq with ⟨t, ht, rfl⟩ | ⟨ht, t, rfl⟩
                      · have HRV2 : Hid (rv = readFrom I R ⟨c, nr, fr, o0, o1, o2⟩ x t 3) := by rw [Hid, HRV.out, rf2, HST.out, ht]; rfl
                        clear ht
                        simp only [stV, stA]
                        go_wp2_with fail
                        go_roundw
                        case rel => exact ⟨3, t, by omega, by go_num, HRV2.out, HN5.out.store6 t, below_six HB5.out (Nat.le_refl _) _ _ _ _ _ _⟩
                        case measure => simp [intOf]
                      · have HRS : Hid (rv = none) := by rw [Hid, HRV.out, rf2, HST.out, ht]; rfl
                        clear ht
                        simp only [stV, stA]
                        obtain ⟨_, _, q3, q4⟩ := HMB.out w5 HB5.out
                        have HQ4 : Hid (Below w.heap.size w ((((((w5.setCell ⟨b, 0, none⟩ (.int .i64 t.cnt)).setCell ⟨b, 1, none⟩ (.int .u8 t.near)).setCell ⟨b, 2, none⟩ (.int .u8 t.far)).setCell ⟨b, 3, none⟩ (.int .i8 t.o0)).setCell ⟨b, 4, none⟩ (.int .i8 t.o1)).setCell ⟨b, 5, none⟩ (.int .i8 t.o2))) := below_six q4 (by have := HB3.out; omega) _ _ _ _ _ _
                        have HR5 : Hid (SBlk ((((((w5.setCell ⟨b, 0, none⟩ (.int .i64 t.cnt)).setCell ⟨b, 1, none⟩ (.int .u8 t.near)).setCell ⟨b, 2, none⟩ (.int .u8 t.far)).setCell ⟨b, 3, none⟩ (.int .i8 t.o0)).setCell ⟨b, 4, none⟩ (.int .i8 t.o1)).setCell ⟨b, 5, none⟩ (.int .i8 t.o2)) (w.heap.size + 1 + 1) St.zero) := SBlk.far6 q3 (by have := HB3.out; omega) _ _ _ _ _ _
                        clear q3 q4
                        go_upto_region 25 with (fail)
                        generalize World.setCell _ _ (Value.int .i8 t.o2) = w6 at HQ4 HR5 ⊢
                        clear x0 x1 x2 x3 x4 x5 xf xl
                        obtain ⟨r0, r1, r2, r3, r4, r5⟩ := HR5.out.cells
                        have rf := HR5.out.free
                        have rl := HR5.out.lt
                        go_wp2_with fail
                        refine bodyPost_ret (v := .tuple #[.agg #[.int .i64 0, .int .u8 0, .int .u8 0, .int .i8 0, .int .i8 0, .int .i8 0], .bool false]) ?_ rfl ?_
                        · simp [results, Try.results74, go_sem, r0, r1, r2, r3, r4, r5]
                        exact ⟨OweQ.no St.zero HRS.out rfl, below_six HQ4.out (by omega) _ _ _ _ _ _⟩
                  · have d2 : decide ((2 : Int) < (m.r.n : Int)) = false := by simp; omega
                    have d2n : decide (2 < m.r.n) = false := by simpa using hkr
                    have HIN : Hid (inK I R.rgt 2 x = false) := inK_over I R.rgt x 2 (by rw [HN.out.2]; omega)
                    have HB4 := Lib.hid HBX.out
                    have HN4 := Lib.hid HNX.out
                    clear hkr z9 z10
                    have HST : Hid (readStep I R x 2 o2 nx = if 0 < o2 then none else some nx) := by rw [Hid, readStep, if_neg hg0, HIN.out, if_neg (by decide)]
                    clear hg0
                    by_cases hp : 0 < o2
                    · have d3 : decide (0 < o2) = true := by simpa using hp
                      have HRS : Hid (rv = none) := by rw [Hid, HRV.out, rf2, HST.out, if_pos hp]; rfl
                      obtain ⟨_, _, q3, q4⟩ := HMB.out wr (HB4).out
                      have HQ4 := Lib.hid q4
                      obtain ⟨r0, r1, r2, r3, r4, r5⟩ := q3.cells
                      have rf := q3.free
                      have rl := q3.lt
                      clear q3 q4 hp
                      go_wp2_with fail
                      refine bodyPost_ret (v := .tuple #[.agg #[.int .i64 0, .int .u8 0, .int .u8 0, .int .i8 0, .int .i8 0, .int .i8 0], .bool false]) ?_ rfl ?_
                      · simp [results, Try.results74, go_sem, r0, r1, r2, r3, r4, r5]
                      exact ⟨OweQ.no St.zero HRS.out rfl, below_six HQ4.out (by omega) _ _ _ _ _ _⟩
                    · have d3 : decide (0 < o2) = false := by simpa using hp
                      have HRV2 : Hid (rv = readFrom I R ⟨c, nr, fr, o0, o1, o2⟩ x nx 3) := by rw [Hid, HRV.out, rf2, HST.out, if_neg hp]; rfl
                      clear hp
                      go_wp2_with fail
                      go_roundw
                      case rel => exact ⟨3, nx, by omega, by go_num, HRV2.out, (HN4).out, (HB4).out⟩
                      case measure => simp [intOf]
              · subst hk0
                have HRS : Hid (rv = some nx) := by rw [Hid, HRV.out]; rfl
                obtain ⟨_, _, q3, q4⟩ := HMB.out wr HBX.out
                have HQ4 := Lib.hid q4
                obtain ⟨r0, r1, r2, r3, r4, r5⟩ := q3.cells
                have rf := q3.free
                have rl := q3.lt
                obtain ⟨x0, x1, x2, x3, x4, x5⟩ := HNX.out.cells
                have xl := HNX.out.lt
                clear q3 q4 i0 i1 i2
                go_wp2_with fail
                refine bodyPost_ret (v := .tuple #[.agg #[.int .i64 nx.cnt, .int .u8 nx.near, .int .u8 nx.far, .int .i8 nx.o0, .int .i8 nx.o1, .int .i8 nx.o2], .bool true]) ?_ rfl ?_
                · simp [results, Try.results74, go_sem, r0, r1, r2, r3, r4, r5]
                exact ⟨OweQ.yes HRS.out rfl, below_six HQ4.out (by omega) _ _ _ _ _ _⟩
end Go.Proofs.Ytdijlakeonionaa
