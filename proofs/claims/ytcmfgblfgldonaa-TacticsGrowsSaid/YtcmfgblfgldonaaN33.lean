/-
  TacticsGrows: the walk.
-/
import Derived.Test.YtcmfgblfgldonaaN31
import Derived.Test.YtcmfgblfgldonaaN32
namespace Go.Proofs.Ytcmfgblfgldonaa
open Go.ChangeShapes Go.WideShapes Go.ChangeAt Go.RowKit
def shortB (x : List Int) : Bool := decide (x.length ≤ 2)
theorem filter_len (W : List (List Int)) (k : Nat) : ((W.take k).filter shortB).length ≤ k := by
  have h1 := List.length_filter_le shortB (W.take k)
  have h2 : (W.take k).length ≤ k := by rw [List.length_take]; omega
  omega
theorem sblk_below {w w' : World} {B : Nat} {s : PStep} (h : SBlk w B s) (hb : Below w.heap.size w w') : SBlk w' B s := (hb.block B (Array.getElem?_eq_some_iff.1 h).1).trans h
theorem nblk_free {w : World} {R : Nat} {x y z : Value} (h : NBlk w R x y z) (j : Nat) : w.frozen? ⟨R, j, none⟩ = false := by simp [World.frozen?, show w.heap[R]? = _ from h]
theorem nblk_set1 {w : World} {R : Nat} {x y z : Value} (h : NBlk w R x y z) (u : Value) : NBlk (w.setCell ⟨R, 1, none⟩ u) R x u z := by
  unfold NBlk at h ⊢
  simp [World.setCell, Array.getElem?_modify, h]
theorem nblk_kept {w w' : World} {R : Nat} {x y z : Value} {row : Option Nat} (h : NBlk w R x y z) (hg : w.grownBy w' row) (hne : some R ≠ row) : NBlk w' R x y z := (hg.block R (Array.getElem?_eq_some_iff.1 h).1 hne).trans h
set_option maxHeartbeats 8000000 in
set_option maxRecDepth 100000 in
theorem grows_walk (v u : Value) (N : PNet) (s : PStep) (l : List Int) (w : World) (hv : RdN w v N) (hu : RdI w u l) :
    Calls Try.prog 9 #[v, .agg #[.int .i64 s.fr, .int .i64 s.cls, .int .i64 s.tgt], u] w fun e w' => e = .returned (.bool true) ∧ Below w.heap.size w w' := by
  obtain ⟨A3, n3, c3, rfl, _, _, HL3, _⟩ := hu.op
  have HU := Lib.hid hu
  clear hu
  have HV := Lib.hid hv
  obtain ⟨vs, vf, rfl, hs, hf⟩ := hv
  have HSR := Lib.hid hs
  have HFR := Lib.hid hf
  obtain ⟨A1, n1, c1, rfl, _, _, HN1, _⟩ := hs.op
  obtain ⟨A2, n2, c2, rfl, _, _, HN2, _⟩ := hf.op
  clear hs hf
  obtain ⟨st, hst⟩ : ∃ st, N.states = st := ⟨_, rfl⟩
  have HST := Lib.hid hst
  rw [hst] at HV ⊢
  clear hst
  go_enter Try.func9, Try.ntmps9
  go_wp2_with fail
  generalize hW : World.alloc (World.alloc w _) _ = W0
  have HBW : Hid (Below w.heap.size w W0) := by rw [← hW]; repeat (first | assumption | exact Below.refl _ _ | refine Below.alloc ?_ (by first | omega | (simp; done) | (simp; omega)) _ | refine Below.drew ?_ | refine below_drewN ?_ _ | refine Below.setCell ?_ (by first | omega | (simp; done) | (simp; omega)) _)
  have HNB : Hid (NBlk W0 w.heap.size (.int .i64 st) (.slice A1 n1 c1) (.slice A2 n2 c2)) := by rw [← hW]; exact (Below.heap_alloc _ _ _ (by simp)).trans (heap_alloc_new w _)
  have HSB : Hid (SBlk W0 (w.heap.size + 1) s) := by
    rw [Hid, ← hW]
    have := heap_alloc_new (w.alloc (.cells #[.int .i64 st, .slice A1 n1 c1, .slice A2 n2 c2] 25)) (.cells #[.int .i64 s.fr, .int .i64 s.cls, .int .i64 s.tgt] 42)
    rw [World.size_alloc] at this
    exact this
  clear hW
  refine (light_any _ N _ (HV.out.below HBW.out)).mono ?_
  rintro e w1 ⟨rfl, hb⟩
  have HB1 := Lib.hid (bchain HBW.out hb)
  have HNB1 := Lib.hid (HNB.out.below hb)
  have HSB1 := Lib.hid (sblk_below HSB.out hb)
  clear hb HNB HBW HSB
  cases hsm : lightB N
  · skip
    go_wp2_with fail
    refine (awake_any _).mono ?_
    rintro e wz ⟨rfl, hbz⟩
    have HBZ := Lib.hid (bchain (HB1).out hbz)
    clear hbz
    go_wp2_with fail
    go_ret
    exact ⟨rfl, HBZ.out⟩
  have hG := light_good hsm
  have hlen12 : n1 ≤ 12 := by
    simp only [lightB, Bool.and_eq_true, decide_eq_true_eq] at hsm
    rw [HN1.out] at hsm
    exact hsm.1
  clear hsm
  by_cases hm30 : 30 < n3
  · have hd30 : decide (30 < (n3 : Int)) = true := by simp; omega
    go_wp2_with fail
    refine (awake_any _).mono ?_
    rintro e wz ⟨rfl, hbz⟩
    have HBZ := Lib.hid (bchain (HB1).out hbz)
    clear hbz
    go_wp2_with fail
    go_ret
    exact ⟨rfl, HBZ.out⟩
  have hd30 : decide (30 < (n3 : Int)) = false := by simp; omega
  obtain ⟨S, hS⟩ : ∃ S : Nat, N.states = (S : Int) := ⟨N.states.toNat, by have := hG.s1; omega⟩
  obtain rfl : st = (S : Int) := HST.out.symm.trans hS
  obtain ⟨p0, p1, p2, hpl⟩ := HNB1.out.facts
  go_wp2_with fail
  refine (words_any _ N S 3 _ (HV.out.below HB1.out) hG hS).mono ?_
  rintro e W ⟨⟨vw, rfl, hvw⟩, hb⟩
  obtain ⟨AW, nw, cw, rfl, hnw, hcw, HLW, HRW⟩ := hvw.rd.op
  have HB3 := Lib.hid (bchain HB1.out hb)
  have HNB3 := Lib.hid (HNB1.out.below hb)
  have HSB3 := Lib.hid (sblk_below HSB1.out hb)
  have HWS := Lib.hid (words_shorter hG hS)
  have hwl : nw ≤ 1000000 := by have := words_len (N := N) (S := S) 3; rw [HLW.out] at this; exact this
  clear hb p0 p1 p2 hpl hvw hd30 HNB1 HSB1
  have HW2 : Hid ((wordsF N S 3).filter shortB = wordsF N S 2) := HWS.out
  clear HWS
  generalize wordsF N S 3 = Ws at HLW HRW HW2
  go_wp2_with fail
  go_loopw [7, 9] (fun o c wr => ∃ i : Nat, i ≤ nw ∧ c = .int .i64 (i : Int) ∧ Hid (OwnM W wr o ((Ws.take i).filter shortB)) ∧ Hid (Below W.heap.size W wr)) (fun _ c _ => nw - (intOf c).toNat)
  case atStart => exact ⟨0, Nat.zero_le _, rfl, OwnM.nil _ _, Below.refl _ _⟩
  case round =>
    obtain ⟨i, hi, rfl, HM, HB⟩ := hrel
    have HBR := Lib.hid (bchain HB3.out HB.out)
    by_cases hlt : i < nw
    · obtain ⟨b, off, B, m, cm, x, rfl, hb, hd, hck, hx⟩ := HRW.out i hlt
      have HTK := Lib.hid (take_of_dropL hd.out)
      obtain ⟨_, _, _, he, _, _, HLX, _⟩ := hx.out.op
      cases he
      have hcr := (HB.out.cell hb).trans hck
      have hi0 : (0 : Int) ≤ (i : Int) := by omega
      have HFL : Hid ((Ws.take (i + 1)).filter shortB = if decide (m ≤ 2) then (Ws.take i).filter shortB ++ [x] else (Ws.take i).filter shortB) := by
        rw [Hid, HTK.out, List.filter_append]
        by_cases h2 : m ≤ 2 <;> simp [shortB, HLX.out, h2]
      by_cases hm2 : m ≤ 2
      · have hd2 : decide ((m : Int) ≤ 2) = true := by simp; omega
        have HFL2 : Hid ((Ws.take (i + 1)).filter shortB = (Ws.take i).filter shortB ++ [x]) := by rw [Hid, HFL.out, decide_eq_true hm2]; rfl
        obtain ⟨fl, hfl⟩ : ∃ fl, ((Ws.take i).filter shortB).length = fl := ⟨_, rfl⟩
        have HLEN := Lib.hid hfl
        have hfl6 : fl ≤ 1000000 := by have := filter_len Ws i; omega
        clear hfl
        go_wp2_with (at_builtin; refine wpList_app_m rfl (.tmp 34) (.tmp 39) rfl _ ((Ws.take i).filter shortB) rfl HM.out B m cm x hx.out fl HLEN hfl6 HB.out rfl ?_; intro g' cap' wB ho hbB; have HO := Lib.hid ho; have HBB := Lib.hid hbB; clear ho hbB)
        go_roundw
        case rel => exact ⟨i + 1, by omega, by go_num, by rw [Hid, HFL2.out]; exact HO.out, HBB.out⟩
        case measure => simp [intOf]; omega
      · have hd2 : decide ((m : Int) ≤ 2) = false := by simp; omega
        have HFL2 : Hid ((Ws.take (i + 1)).filter shortB = (Ws.take i).filter shortB) := by rw [Hid, HFL.out, decide_eq_false hm2]; rfl
        go_wp2_with fail
        go_roundw
        case rel => exact ⟨i + 1, by omega, by go_num, by rw [Hid, HFL2.out]; exact HM.out, HB.out⟩
        case measure => simp [intOf]; omega
    · obtain rfl : nw = i := by omega
      have HM2 : Hid (OwnM W wr u7 (wordsF N S 2)) := by
        have := HM.out
        rw [List.take_of_length_le (by rw [HLW.out]; omega), HW2.out] at this
        exact this
      clear HM
      obtain ⟨p0, p1, p2, hpl⟩ := (HNB3.out.below HB.out).facts
      go_wp2_with fail
      refine (words_any _ N S 2 _ (HV.out.below HBR.out) hG hS).mono ?_
      rintro e Wb ⟨⟨v2, rfl, hv2⟩, hb⟩
      have HB4 := Lib.hid (bchain HB.out hb)
      have HM4 := Lib.hid (HM2.out.below hb)
      clear p0 p1 p2 hpl
      go_wp2_with fail
      refine (equal_yes _ _ _ _ hv2.rd (HM4.out.rd HB4.out)).mono ?_
      rintro e Wc ⟨rfl, hb2⟩
      have HB5 := Lib.hid (bchain HB4.out hb2)
      have HB5w := Lib.hid (bchain HB3.out HB5.out)
      clear hb hb2 hv2 HM4 HM2
      obtain ⟨p0, p1, p2, hpl⟩ := (HNB3.out.below HB5.out).facts
      have HND : Hid (NBlk (Wc.alloc (.cells #[.int .i64 S, .slice none 0 0, .slice A2 n2 c2] 25)) Wc.heap.size (.int .i64 S) (.slice none 0 0) (.slice A2 n2 c2)) := heap_alloc_new Wc _
      have HBD : Hid (Below Wc.heap.size Wc (Wc.alloc (.cells #[.int .i64 S, .slice none 0 0, .slice A2 n2 c2] 25))) := (Below.refl _ _).alloc (Nat.le_refl _) _
      have hzD : (Wc.alloc (.cells #[.int .i64 S, .slice none 0 0, .slice A2 n2 c2] 25)).heap.size = Wc.heap.size + 1 := by simp
      have HZD := Lib.hid hzD
      clear hzD
      generalize hWD : Wc.alloc (.cells #[.int .i64 S, .slice none 0 0, .slice A2 n2 c2] 25) = Wd at HND HBD HZD
      obtain ⟨d0, d1, d2, hdl⟩ := HND.out.facts
      obtain ⟨e0, e1, e2, hel⟩ := (HNB3.out.below (bchain HB5.out HBD.out)).facts
      go_wp2_with (first
        | (at_builtin; refine wpList_app_steps rfl (.tmp 52) (.tmp 54) rfl Wd.heap.size (.slice none 0 0) [] rfl (OwnS.nil _ _) _ N.steps rfl (HSR.out.below (bchain HB5w.out HBD.out)) (by have := HN1.out; simp; omega) (Nat.le_refl _) ?_; intro v1 wA ho1 hg1; obtain ⟨B1, m1, k1, rfl, _, _, HL1, _⟩ := ho1.rd.op; have HO1 := Lib.hid ho1; have HNA := Lib.hid (nblk_kept HND.out hg1 (by simp [Value.ownBlock])); have HBA := Lib.hid ((Below.refl Wd.heap.size Wd).grown hg1 (Nat.le_refl _) (fun j e => by simp [Value.ownBlock] at e)); clear ho1 hg1 p0 p1 p2 hpl hWD d0 d1 d2 hdl e0 e1 e2 hel; have qf := nblk_free HNA.out 1; have HNS := Lib.hid (nblk_set1 HNA.out (.slice B1 m1 k1)); have HOS := Lib.hid (own_setCell HO1.out (B := Wc.heap.size) (fun e => by have := (World.ownsRow.lt HO1.out _ e).1; have := HZD.out; omega) 1 (.slice B1 m1 k1)); have HBS := Lib.hid (show Below Wc.heap.size Wc (wA.setCell ⟨Wc.heap.size, 1, none⟩ (.slice B1 m1 k1)) from (bchain HBD.out HBA.out).setCell (p := ⟨Wc.heap.size, 1, none⟩) (Nat.le_refl _) _); obtain ⟨q0, q1, q2, hql⟩ := HNA.out.facts; obtain ⟨r0, r1, r2, hrl⟩ := HNS.out.facts; obtain ⟨s0, s1, s2, hsl⟩ := (sblk_below HSB3.out (bchain HB5.out HBS.out)).facts)
        | (at_builtin; refine wpList_app_steps rfl (.tmp 58) (.tmp 60) rfl Wd.heap.size _ ([] ++ N.steps) rfl (World.ownsRow.alloc HOS.out _) _ [s] rfl (rdS_one _ _ (by simp) s) (by have := HN1.out; simp; omega) (by have := HBA.out.size; simp; omega) ?_; intro v2 wB ho2 hg2; obtain ⟨B2, m2, k2, rfl, _, _, HL2, _⟩ := ho2.rd.op; have HO2 := Lib.hid ho2; have HNM := Lib.hid (nblk_kept (show NBlk (World.alloc _ _) _ _ _ _ from (Below.heap_alloc _ _ _ HNS.out.lt).trans HNS.out) hg2 (fun e => by have := (World.ownsRow.lt HOS.out _ e.symm).1; have := HZD.out; omega)); have HBM : Hid (Below Wc.heap.size Wc wB) := (HBS.out.alloc HBS.out.size _).grown hg2 (by have := HBS.out.size; simp at this ⊢; omega) (fun k e => by have := (World.ownsRow.lt HOS.out _ e).1; have := HZD.out; omega); clear ho2 hg2 q0 q1 q2 hql r0 r1 r2 hrl s0 s1 s2 hsl qf; obtain ⟨q0, q1, q2, hql⟩ := HNM.out.facts; have qf := nblk_free HNM.out 1))
      have HNE := Lib.hid (nblk_set1 HNM.out (.slice B2 m2 k2))
      have HOE : Hid (OwnS (wB.setCell ⟨Wc.heap.size, 1, none⟩ (.slice B2 m2 k2)) Wd.heap.size (.slice B2 m2 k2) (([] ++ N.steps) ++ [s])) := own_setCell HO2.out (B := Wc.heap.size) (fun e => by have := (World.ownsRow.lt HO2.out _ e).1; have := HZD.out; omega) 1 _
      have HBE : Hid (Below Wc.heap.size Wc (wB.setCell ⟨Wc.heap.size, 1, none⟩ (.slice B2 m2 k2))) := HBM.out.setCell (p := ⟨Wc.heap.size, 1, none⟩) (Nat.le_refl _) _
      clear q0 q1 q2 hql qf
      generalize wB.setCell ⟨Wc.heap.size, 1, none⟩ (.slice B2 m2 k2) = wE at HNE HOE HBE ⊢
      have HBEw := Lib.hid (bchain HB5w.out HBE.out)
      have HVM : Hid (RdN wE (.agg #[.int .i64 S, .slice B2 m2 k2, .slice A2 n2 c2]) ⟨(S : Int), ([] ++ N.steps) ++ [s], N.final⟩) := ⟨_, _, rfl, HOE.out.rd, HFR.out.below HBEw.out⟩
      have HWID : Hid (Wider N ⟨(S : Int), ([] ++ N.steps) ++ [s], N.final⟩) := ⟨fun x hx => by simp [hx], rfl⟩
      have HMS : Hid ((⟨(S : Int), ([] ++ N.steps) ++ [s], N.final⟩ : PNet).states = (S : Int)) := rfl
      generalize (⟨(S : Int), ([] ++ N.steps) ++ [s], N.final⟩ : PNet) = M at HVM HWID HMS
      refine (light_any _ M _ HVM.out).mono ?_
      rintro e wF ⟨rfl, hb⟩
      have HBF := Lib.hid (bchain HBEw.out hb)
      have HVF := Lib.hid (HVM.out.below hb)
      have HNMF := Lib.hid (HNE.out.below hb)
      have HNNF := Lib.hid (HNB3.out.below (bchain HB5.out (bchain HBE.out hb)))
      clear hb
      cases hlm : lightB M
      · skip
        go_wp2_with fail
        refine (awake_any _).mono ?_
        rintro e wz ⟨rfl, hbz⟩
        have HBZ := Lib.hid (bchain (HBF).out hbz)
        clear hbz
        go_wp2_with fail
        go_ret
        exact ⟨rfl, HBZ.out⟩
      have hGM := light_good hlm
      clear hlm
      have HAM := Lib.hid (fun h => HWID.out.acc (l := l) h)
      have HEM := Lib.hid (fun h => HWID.out.endless hG hGM hS HMS.out h)
      obtain ⟨p0, p1, p2, hpl⟩ := HNNF.out.facts
      obtain ⟨q0, q1, q2, hql⟩ := HNMF.out.facts
      go_wp2_with fail
      refine (accepts_any _ _ N S l _ (HV.out.below HBF.out) (HU.out.below HBF.out) hG hS).mono ?_
      rintro e wG ⟨rfl, hb⟩
      have HBF2 := Lib.hid (bchain HBF.out hb)
      have HVF2 := Lib.hid (HVF.out.below hb)
      have HNMF2 := Lib.hid (HNMF.out.below hb)
      have HNNF2 := Lib.hid (HNNF.out.below hb)
      clear hb HBF HVF HNMF HNNF p0 p1 p2 hpl q0 q1 q2 hql
      have HBF := HBF2
      have HVF := HVF2
      have HNMF := HNMF2
      have HNNF := HNNF2
      clear HBF2 HVF2 HNMF2 HNNF2
      obtain ⟨p0, p1, p2, hpl⟩ := HNNF.out.facts
      obtain ⟨q0, q1, q2, hql⟩ := HNMF.out.facts
      cases hac : accF N l
      · clear hac
        go_wp2_with fail
        refine (endless_any _ N S _ (HV.out.below HBF.out) hG hS).mono ?_
        rintro e wI ⟨rfl, hb⟩
        have HBF2 := Lib.hid (bchain HBF.out hb)
        have HVF2 := Lib.hid (HVF.out.below hb)
        have HNMF2 := Lib.hid (HNMF.out.below hb)
        have HNNF2 := Lib.hid (HNNF.out.below hb)
        clear hb HBF HVF HNMF HNNF p0 p1 p2 hpl q0 q1 q2 hql
        have HBF := HBF2
        have HVF := HVF2
        have HNMF := HNMF2
        have HNNF := HNNF2
        clear HBF2 HVF2 HNMF2 HNNF2
        obtain ⟨p0, p1, p2, hpl⟩ := HNNF.out.facts
        obtain ⟨q0, q1, q2, hql⟩ := HNMF.out.facts
        cases hen : endF N S
        · clear hen
          go_wp2_with fail
          refine (awake_any _).mono ?_
          rintro e wz ⟨rfl, hbz⟩
          have HBZ := Lib.hid (bchain (HBF).out hbz)
          clear hbz
          go_wp2_with fail
          go_ret
          exact ⟨rfl, HBZ.out⟩
        · have HEC := Lib.hid (HEM.out hen)
          clear hen
          go_wp2_with fail
          refine (endless_any _ M S _ HVF.out hGM HMS.out).mono ?_
          rintro e wJ ⟨rfl, hb⟩
          rw [HEC.out]
          have HBF2 := Lib.hid (bchain HBF.out hb)
          have HVF2 := Lib.hid (HVF.out.below hb)
          have HNMF2 := Lib.hid (HNMF.out.below hb)
          have HNNF2 := Lib.hid (HNNF.out.below hb)
          clear hb HBF HVF HNMF HNNF p0 p1 p2 hpl q0 q1 q2 hql
          have HBF := HBF2
          have HVF := HVF2
          have HNMF := HNMF2
          have HNNF := HNNF2
          clear HBF2 HVF2 HNMF2 HNNF2
          obtain ⟨p0, p1, p2, hpl⟩ := HNNF.out.facts
          obtain ⟨q0, q1, q2, hql⟩ := HNMF.out.facts
          go_wp2_with fail
          refine (awake_any _).mono ?_
          rintro e wz ⟨rfl, hbz⟩
          have HBZ := Lib.hid (bchain (HBF).out hbz)
          clear hbz
          go_wp2_with fail
          go_ret
          exact ⟨rfl, HBZ.out⟩
      · have HAC := Lib.hid (HAM.out hac)
        clear hac
        go_wp2_with fail
        refine (accepts_any _ _ M S l _ HVF.out (HU.out.below HBF.out) hGM HMS.out).mono ?_
        rintro e wH ⟨rfl, hb⟩
        rw [HAC.out]
        have HBF2 := Lib.hid (bchain HBF.out hb)
        have HVF2 := Lib.hid (HVF.out.below hb)
        have HNMF2 := Lib.hid (HNMF.out.below hb)
        have HNNF2 := Lib.hid (HNNF.out.below hb)
        clear hb HBF HVF HNMF HNNF p0 p1 p2 hpl q0 q1 q2 hql
        have HBF := HBF2
        have HVF := HVF2
        have HNMF := HNMF2
        have HNNF := HNNF2
        clear HBF2 HVF2 HNMF2 HNNF2
        obtain ⟨p0, p1, p2, hpl⟩ := HNNF.out.facts
        obtain ⟨q0, q1, q2, hql⟩ := HNMF.out.facts
        go_wp2_with fail
        refine (endless_any _ N S _ (HV.out.below HBF.out) hG hS).mono ?_
        rintro e wI ⟨rfl, hb⟩
        have HBF2 := Lib.hid (bchain HBF.out hb)
        have HVF2 := Lib.hid (HVF.out.below hb)
        have HNMF2 := Lib.hid (HNMF.out.below hb)
        have HNNF2 := Lib.hid (HNNF.out.below hb)
        clear hb HBF HVF HNMF HNNF p0 p1 p2 hpl q0 q1 q2 hql
        have HBF := HBF2
        have HVF := HVF2
        have HNMF := HNMF2
        have HNNF := HNNF2
        clear HBF2 HVF2 HNMF2 HNNF2
        obtain ⟨p0, p1, p2, hpl⟩ := HNNF.out.facts
        obtain ⟨q0, q1, q2, hql⟩ := HNMF.out.facts
        cases hen : endF N S
        · clear hen
          go_wp2_with fail
          refine (awake_any _).mono ?_
          rintro e wz ⟨rfl, hbz⟩
          have HBZ := Lib.hid (bchain (HBF).out hbz)
          clear hbz
          go_wp2_with fail
          go_ret
          exact ⟨rfl, HBZ.out⟩
        · have HEC := Lib.hid (HEM.out hen)
          clear hen
          go_wp2_with fail
          refine (endless_any _ M S _ HVF.out hGM HMS.out).mono ?_
          rintro e wJ ⟨rfl, hb⟩
          rw [HEC.out]
          have HBF2 := Lib.hid (bchain HBF.out hb)
          have HVF2 := Lib.hid (HVF.out.below hb)
          have HNMF2 := Lib.hid (HNMF.out.below hb)
          have HNNF2 := Lib.hid (HNNF.out.below hb)
          clear hb HBF HVF HNMF HNNF p0 p1 p2 hpl q0 q1 q2 hql
          have HBF := HBF2
          have HVF := HVF2
          have HNMF := HNMF2
          have HNNF := HNNF2
          clear HBF2 HVF2 HNMF2 HNNF2
          obtain ⟨p0, p1, p2, hpl⟩ := HNNF.out.facts
          obtain ⟨q0, q1, q2, hql⟩ := HNMF.out.facts
          go_wp2_with fail
          refine (awake_any _).mono ?_
          rintro e wz ⟨rfl, hbz⟩
          have HBZ := Lib.hid (bchain (HBF).out hbz)
          clear hbz
          go_wp2_with fail
          go_ret
          exact ⟨rfl, HBZ.out⟩
end Go.Proofs.Ytcmfgblfgldonaa
