/-
  The reference's Words.
-/
import Derived.Test.YtcmfgblfgldonaaNP6
import Derived.Test.YtcmfgblfgldonaaN21
import Derived.Test.YtcmfgblfgldonaaN22
namespace Go.Proofs.Ytcmfgblfgldonaa
open Go.ChangeShapes Go.WideShapes Go.ChangeAt Go.RowKit
def RWordsC (w₀ : World) (N : PNet) (S : Nat) (y z : Value) (k : Nat) : Prop :=
  ∀ (l : List Int) (lv : Value) (w : World) (v : Value) (Ls : List (List Int)), l.length + k ≤ 4 → OwnI w w₀.heap.size lv l → Below w₀.heap.size w₀ w → OwnL w w₀.heap.size v Ls → Ls.length + cW k ≤ 1000000 →
    Calls Try.prog 44 #[.agg #[.int .i64 S, y, z], lv, .int .i64 (k : Int), v] w
      fun e w' => (∃ v', e = .returned v' ∧ OwnL w' w₀.heap.size v' (Ls ++ rW N S k l)) ∧ Gr w₀.heap.size w w'
theorem Gr.nblk {n₀ B : Nat} {w w' : World} {x y z : Value} (h : Gr n₀ w w') (hb : NBlk w B x y z) : NBlk w' B x y z := h.2 B _ _ _ hb (by decide) (by decide)
set_option maxHeartbeats 8000000 in
set_option maxRecDepth 100000 in
theorem rwords_step (w₀ : World) (N : PNet) (S n1 c1 n2 c2 : Nat) (A1 A2 : Option Addr) (hV : RdN w₀ (.agg #[.int .i64 S, .slice A1 n1 c1, .slice A2 n2 c2]) N) (hG : GoodN N) (hS : N.states = (S : Int)) (k : Nat)
    (ih : ∀ k', k = k' + 1 → RWordsC w₀ N S (.slice A1 n1 c1) (.slice A2 n2 c2) k') : RWordsC w₀ N S (.slice A1 n1 c1) (.slice A2 n2 c2) k := by
  intro l lv w v Ls hlk hlv hB0 hLs hcap
  obtain ⟨_, A, cap, rfl⟩ := own_slice hlv
  have HLV := Lib.hid hlv
  have HIH := Lib.hid ih
  have HV := Lib.hid hV
  have HS' := Lib.hid hS
  have HLs := Lib.hid hLs
  have HLK := Lib.hid hlk
  have HCAP := Lib.hid hcap
  have hn0 : w₀.heap.size ≤ w.heap.size := hB0.size
  have HRW := Lib.hid (rW_eq N S k l)
  obtain ⟨m, hm⟩ : ∃ m, l.length = m := ⟨_, rfl⟩
  have HM := Lib.hid hm
  have hm4 : m ≤ 4 := by omega
  have hm6 : m ≤ 1000000 := by omega
  rw [hm] at HLV ⊢
  have HB0 := Lib.hid hB0
  clear hlv ih hV hS hLs hlk hcap hB0 hm
  go_enter Try.func44, Try.ntmps44
  go_wp2_with fail
  generalize hW : World.alloc w _ = W
  have HBW : Hid (Below w.heap.size w W) := by rw [← hW]; repeat (first | assumption | exact Below.refl _ _ | refine Below.alloc ?_ (by first | omega | (simp; done) | (simp; omega)) _ | refine Below.drew ?_ | refine below_drewN ?_ _ | refine Below.setCell ?_ (by first | omega | (simp; done) | (simp; omega)) _)
  have HNB : Hid (NBlk W w.heap.size (.int .i64 S) (.slice A1 n1 c1) (.slice A2 n2 c2)) := by rw [← hW]; exact heap_alloc_new w _
  clear hW
  refine (raccepts_any _ _ N S l _ (HV.out.below (bchain HB0.out HBW.out)) (HLV.out.rd.below HBW.out) hG HS'.out).mono ?_
  rintro e Wa ⟨rfl, hb⟩
  have HBa := Lib.hid (bchain HBW.out hb)
  have HNBa := Lib.hid (HNB.out.below hb)
  have HLsa := Lib.hid (HLs.out.below HBa.out)
  have HLVa : Hid (OwnI Wa w₀.heap.size (.slice A m cap) l) := own_below HLV.out HBa.out
  clear hb HNB HBW
  cases hacc : accF N l
  · have HRW2 : Hid (rW N S k l = rpartF N S k l (followF N S l)) := by rw [Hid, HRW.out, hacc]; rfl
    clear hacc
    have HG2 := Lib.hid (Gr.of_below HBa.out hn0)
    have HNB2 := HNBa
    have HLs2 := HLsa
    obtain ⟨Ls2, hLs2⟩ : ∃ Ls2, Ls2 = Ls := ⟨_, rfl⟩
    rw [← hLs2] at HLs2
    have HCAP2 : Hid (Ls2.length ≤ Ls.length + 1) := by rw [Hid, hLs2]; omega
    have HFIN : Hid (Ls ++ rW N S k l = Ls2 ++ rpartF N S k l (followF N S l)) := by rw [Hid, HRW2.out, hLs2]
    clear hLs2
    obtain ⟨p0, p1, p2, hpl⟩ := HNB2.out.facts
    go_wp2_with fail
    clear p0 p1 p2 hpl
    have HB2 := Lib.hid (HB0.out.trans HG2.out.1)
    have HLV2 := Lib.hid (HG2.out.ownI HLV.out)
    refine (rfollow_any _ _ N S l _ (HV.out.below HB2.out) HLV2.out.rd hG HS'.out).mono ?_
    rintro e Wf ⟨⟨nv, rfl, hnv⟩, hb⟩
    obtain ⟨_, AN, cn, rfl⟩ := own_slice hnv
    have hnx20 : (followF N S l).length ≤ 20 := folF_len _ _ _ _
    obtain ⟨nx, hnx⟩ : ∃ nx, (followF N S l).length = nx := ⟨_, rfl⟩
    have HNX := Lib.hid hnx
    rw [hnx] at hnv hnx20 ⊢
    have HNV := Lib.hid (own_base hnv HB2.out.size)
    have HG3 := Lib.hid (HG2.out.trans (Gr.of_below hb HB2.out.size))
    have HLs3 := Lib.hid (HLs2.out.below hb)
    have HNB3 := Lib.hid (HNB2.out.below hb)
    have hbf := hb.size
    clear hnv hb hnx HG2 HLs2 HNB2 HB2 HLV2
    go_wp2_with fail
    go_loopw [3, 10] (fun o c wr => ∃ (i : Nat), i ≤ nx ∧ c = .int .i64 (i : Int) ∧ Hid (OwnL wr w₀.heap.size o (Ls2 ++ rpartF N S k l ((followF N S l).take i))) ∧ Hid (Gr w₀.heap.size w wr) ∧ Hid (NBlk wr w.heap.size (.int .i64 S) (.slice A1 n1 c1) (.slice A2 n2 c2)) ∧ Hid (OwnI wr w₀.heap.size (.slice AN nx cn) (followF N S l))) (fun _ c _ => nx - (intOf c).toNat)
    case atStart => exact ⟨0, Nat.zero_le _, rfl, by rw [Hid, List.take_zero, rpartF_nil, List.append_nil]; exact HLs3.out, HG3.out, HNB3.out, HNV.out⟩
    case round =>
      obtain ⟨i, hi, rfl, HLR, HGR, HNBR, HNVR⟩ := hrel
      have HBWR := Lib.hid (HB0.out.trans HGR.out.1)
      have HLVR := Lib.hid (HGR.out.ownI HLV.out)
      by_cases hlt : i < nx
      · cases hk0 : decide (k = 0)
        · have hk1 : k ≠ 0 := by simpa using hk0
          obtain ⟨k', hk'⟩ : ∃ k', k = k' + 1 := ⟨k - 1, by omega⟩
          have hkp : 0 < k := by omega
          have hwr : IntKind.i64.wrap ((k : Int) - 1) = (k' : Int) := by rw [show (k : Int) - 1 = (k' : Int) by omega]; exact IntWalk.i64_in _ (by have := HLK.out; omega)
          have HK := Lib.hid hk'
          obtain ⟨_, _, _, he, hnc, hnc2, _, HNR⟩ := HNVR.out.rd.op
          cases he
          obtain ⟨b, off, x, rfl, hb, hd, hck⟩ := HNR.out i hlt
          have HTK := Lib.hid (take_of_dropI hd.out)
          have hi0 : (0 : Int) ≤ (i : Int) := by omega
          have hi1 : (i : Int) ≤ (cn : Int) := by omega
          clear hk0 hk1 hk' hnc2
          go_wp2_with (first
            | (at_builtin; refine wpList_app_ints rfl (.tmp 32) (.tmp 33) rfl wr.heap.size (.slice none 0 0) [] rfl (World.ownsRow_nil _ _ _ _) _ l rfl HLVR.out.rd (by have := HM.out; simp; omega) (Nat.le_refl _) ?_; intro v1 wA ho1 hg1 _; have HBA := Lib.hid ((Below.refl wr.heap.size wr).grown hg1 (Nat.le_refl _) (fun j e => by simp [Value.ownBlock] at e)); have hckA := (HBA.out.cell hb).trans hck; have hbaseA := HBA.out.size; have HO1 := Lib.hid ho1; clear ho1 hg1)
            | (at_builtin; refine wpList_app_int rfl (.tmp 35) (.tmp 40) rfl wr.heap.size v1 ([] ++ l) rfl HO1.out x m HM hm6 hbaseA rfl ?_; intro g2 cap2 wB ho2 _ hg2; have HBB := Lib.hid (below_grown HBA.out (Nat.le_refl _) HO1.out hg2); have HO2 := Lib.hid ho2; clear ho2 hg2; obtain ⟨p0, p1, p2, hpl⟩ := (HNBR.out.below HBB.out).facts))
          have HGB := Lib.hid (Gr.of_below HBB.out HBWR.out.size)
          have HO3 : Hid (OwnI wB w₀.heap.size (.slice (some ⟨g2, 0, none⟩) (m + 1) cap2) (l ++ [x])) := by
            have := own_base HO2.out HBWR.out.size
            rwa [List.nil_append] at this
          have hcap6 : (Ls2 ++ rpartF N S k l ((followF N S l).take i)).length + cW k' ≤ 1000000 := by
            have h1 := rpartF_len N S k' l ((followF N S l).take i) (by rw [List.length_take]; omega)
            rw [← HK.out] at h1
            have := HCAP.out
            have := HCAP2.out
            simp only [List.length_append]
            omega
          have hlen6 : (l ++ [x]).length + k' ≤ 4 := by have := HLK.out; have := HK.out; simp; omega
          clear p0 p1 p2 hpl hckA hck hwr
          refine (HIH.out k' HK.out _ _ _ _ _ hlen6 HO3.out (HBWR.out.trans HGB.out.1) (HLR.out.below HBB.out) hcap6).mono ?_
          rintro e wC ⟨⟨v6, rfl, hl6⟩, g6⟩
          have HL6 := Lib.hid hl6
          have HG6 := Lib.hid ((HGR.out.trans HGB.out).trans g6)
          have HNB6 := Lib.hid (g6.nblk (HNBR.out.below HBB.out))
          have HNV6 := Lib.hid (g6.ownI (own_below HNVR.out HBB.out))
          clear hl6 g6
          go_wp2_with fail
          go_roundw
          case rel => exact ⟨i + 1, by omega, by go_num, by rw [Hid, HTK.out, HK.out, rpartF_snoc, ← List.append_assoc, ← HK.out]; exact HL6.out, HG6.out, HNB6.out, HNV6.out⟩
          case measure => simp [intOf]; omega
        · have hk1 : k = 0 := by simpa using hk0
          have hkp : ¬ 0 < k := by omega
          have HPE : Hid (rpartF N S k l ((followF N S l).take i) = rpartF N S k l (followF N S l)) := by rw [Hid, hk1]; rfl
          clear hk0 hk1
          go_wp2_with fail
          go_ret
          exact ⟨⟨_, rfl, by rw [HFIN.out, ← HPE.out]; exact HLR.out⟩, HGR.out⟩
      · obtain rfl : i = nx := by omega
        have HTK : Hid ((followF N S l).take i = followF N S l) := List.take_of_length_le (by rw [HNX.out]; omega)
        go_wp2_with fail
        go_ret
        exact ⟨⟨_, rfl, by rw [HFIN.out, ← HTK.out]; exact HLR.out⟩, HGR.out⟩
  · have HRW2 : Hid (rW N S k l = [l] ++ rpartF N S k l (followF N S l)) := by rw [Hid, HRW.out, hacc]; rfl
    clear hacc
    obtain ⟨len5, hlen5⟩ : ∃ len5, Ls.length = len5 := ⟨_, rfl⟩
    have HLEN := Lib.hid hlen5
    have hl5 : len5 ≤ 1000000 := by have := HCAP.out; omega
    have hbase : w₀.heap.size ≤ Wa.heap.size := by have := HBa.out.size; omega
    clear hlen5
    go_wp2_with (at_builtin; refine wpList_app_words rfl (.tmp 15) (.tmp 17) rfl w₀.heap.size v Ls rfl HLsa.out _ l HLVa.out len5 HLEN hl5 hbase rfl ?_; intro g' cap' w5 ho hge hg5 _; have HO5 := Lib.hid ho; have HG5 := Lib.hid hg5; clear ho hg5; obtain ⟨p0, p1, p2, hpl⟩ := (HG5.out.nblk HNBa.out).facts)
    clear p0 p1 p2 hpl
    have HG2 := Lib.hid ((Gr.of_below HBa.out hn0).trans HG5.out)
    have HNB2 := Lib.hid (HG5.out.nblk HNBa.out)
    obtain ⟨Ls2, hLs2⟩ : ∃ Ls2, Ls2 = Ls ++ [l] := ⟨_, rfl⟩
    have HLs2 : Hid (OwnL w5 w₀.heap.size (.slice (some ⟨g', 0, none⟩) (len5 + 1) cap') Ls2) := by rw [Hid, hLs2]; exact HO5.out
    have HCAP2 : Hid (Ls2.length ≤ Ls.length + 1) := by rw [Hid, hLs2]; simp
    have HFIN : Hid (Ls ++ rW N S k l = Ls2 ++ rpartF N S k l (followF N S l)) := by rw [Hid, HRW2.out, hLs2, List.append_assoc]
    clear hLs2 HO5 HG5
    have HB2 := Lib.hid (HB0.out.trans HG2.out.1)
    have HLV2 := Lib.hid (HG2.out.ownI HLV.out)
    refine (rfollow_any _ _ N S l _ (HV.out.below HB2.out) HLV2.out.rd hG HS'.out).mono ?_
    rintro e Wf ⟨⟨nv, rfl, hnv⟩, hb⟩
    obtain ⟨_, AN, cn, rfl⟩ := own_slice hnv
    have hnx20 : (followF N S l).length ≤ 20 := folF_len _ _ _ _
    obtain ⟨nx, hnx⟩ : ∃ nx, (followF N S l).length = nx := ⟨_, rfl⟩
    have HNX := Lib.hid hnx
    rw [hnx] at hnv hnx20 ⊢
    have HNV := Lib.hid (own_base hnv HB2.out.size)
    have HG3 := Lib.hid (HG2.out.trans (Gr.of_below hb HB2.out.size))
    have HLs3 := Lib.hid (HLs2.out.below hb)
    have HNB3 := Lib.hid (HNB2.out.below hb)
    have hbf := hb.size
    clear hnv hb hnx HG2 HLs2 HNB2 HB2 HLV2
    go_wp2_with fail
    go_loopw [3, 10] (fun o c wr => ∃ (i : Nat), i ≤ nx ∧ c = .int .i64 (i : Int) ∧ Hid (OwnL wr w₀.heap.size o (Ls2 ++ rpartF N S k l ((followF N S l).take i))) ∧ Hid (Gr w₀.heap.size w wr) ∧ Hid (NBlk wr w.heap.size (.int .i64 S) (.slice A1 n1 c1) (.slice A2 n2 c2)) ∧ Hid (OwnI wr w₀.heap.size (.slice AN nx cn) (followF N S l))) (fun _ c _ => nx - (intOf c).toNat)
    case atStart => exact ⟨0, Nat.zero_le _, rfl, by rw [Hid, List.take_zero, rpartF_nil, List.append_nil]; exact HLs3.out, HG3.out, HNB3.out, HNV.out⟩
    case round =>
      obtain ⟨i, hi, rfl, HLR, HGR, HNBR, HNVR⟩ := hrel
      have HBWR := Lib.hid (HB0.out.trans HGR.out.1)
      have HLVR := Lib.hid (HGR.out.ownI HLV.out)
      by_cases hlt : i < nx
      · cases hk0 : decide (k = 0)
        · have hk1 : k ≠ 0 := by simpa using hk0
          obtain ⟨k', hk'⟩ : ∃ k', k = k' + 1 := ⟨k - 1, by omega⟩
          have hkp : 0 < k := by omega
          have hwr : IntKind.i64.wrap ((k : Int) - 1) = (k' : Int) := by rw [show (k : Int) - 1 = (k' : Int) by omega]; exact IntWalk.i64_in _ (by have := HLK.out; omega)
          have HK := Lib.hid hk'
          obtain ⟨_, _, _, he, hnc, hnc2, _, HNR⟩ := HNVR.out.rd.op
          cases he
          obtain ⟨b, off, x, rfl, hb, hd, hck⟩ := HNR.out i hlt
          have HTK := Lib.hid (take_of_dropI hd.out)
          have hi0 : (0 : Int) ≤ (i : Int) := by omega
          have hi1 : (i : Int) ≤ (cn : Int) := by omega
          clear hk0 hk1 hk' hnc2
          go_wp2_with (first
            | (at_builtin; refine wpList_app_ints rfl (.tmp 32) (.tmp 33) rfl wr.heap.size (.slice none 0 0) [] rfl (World.ownsRow_nil _ _ _ _) _ l rfl HLVR.out.rd (by have := HM.out; simp; omega) (Nat.le_refl _) ?_; intro v1 wA ho1 hg1 _; have HBA := Lib.hid ((Below.refl wr.heap.size wr).grown hg1 (Nat.le_refl _) (fun j e => by simp [Value.ownBlock] at e)); have hckA := (HBA.out.cell hb).trans hck; have hbaseA := HBA.out.size; have HO1 := Lib.hid ho1; clear ho1 hg1)
            | (at_builtin; refine wpList_app_int rfl (.tmp 35) (.tmp 40) rfl wr.heap.size v1 ([] ++ l) rfl HO1.out x m HM hm6 hbaseA rfl ?_; intro g2 cap2 wB ho2 _ hg2; have HBB := Lib.hid (below_grown HBA.out (Nat.le_refl _) HO1.out hg2); have HO2 := Lib.hid ho2; clear ho2 hg2; obtain ⟨p0, p1, p2, hpl⟩ := (HNBR.out.below HBB.out).facts))
          have HGB := Lib.hid (Gr.of_below HBB.out HBWR.out.size)
          have HO3 : Hid (OwnI wB w₀.heap.size (.slice (some ⟨g2, 0, none⟩) (m + 1) cap2) (l ++ [x])) := by
            have := own_base HO2.out HBWR.out.size
            rwa [List.nil_append] at this
          have hcap6 : (Ls2 ++ rpartF N S k l ((followF N S l).take i)).length + cW k' ≤ 1000000 := by
            have h1 := rpartF_len N S k' l ((followF N S l).take i) (by rw [List.length_take]; omega)
            rw [← HK.out] at h1
            have := HCAP.out
            have := HCAP2.out
            simp only [List.length_append]
            omega
          have hlen6 : (l ++ [x]).length + k' ≤ 4 := by have := HLK.out; have := HK.out; simp; omega
          clear p0 p1 p2 hpl hckA hck hwr
          refine (HIH.out k' HK.out _ _ _ _ _ hlen6 HO3.out (HBWR.out.trans HGB.out.1) (HLR.out.below HBB.out) hcap6).mono ?_
          rintro e wC ⟨⟨v6, rfl, hl6⟩, g6⟩
          have HL6 := Lib.hid hl6
          have HG6 := Lib.hid ((HGR.out.trans HGB.out).trans g6)
          have HNB6 := Lib.hid (g6.nblk (HNBR.out.below HBB.out))
          have HNV6 := Lib.hid (g6.ownI (own_below HNVR.out HBB.out))
          clear hl6 g6
          go_wp2_with fail
          go_roundw
          case rel => exact ⟨i + 1, by omega, by go_num, by rw [Hid, HTK.out, HK.out, rpartF_snoc, ← List.append_assoc, ← HK.out]; exact HL6.out, HG6.out, HNB6.out, HNV6.out⟩
          case measure => simp [intOf]; omega
        · have hk1 : k = 0 := by simpa using hk0
          have hkp : ¬ 0 < k := by omega
          have HPE : Hid (rpartF N S k l ((followF N S l).take i) = rpartF N S k l (followF N S l)) := by rw [Hid, hk1]; rfl
          clear hk0 hk1
          go_wp2_with fail
          go_ret
          exact ⟨⟨_, rfl, by rw [HFIN.out, ← HPE.out]; exact HLR.out⟩, HGR.out⟩
      · obtain rfl : i = nx := by omega
        have HTK : Hid ((followF N S l).take i = followF N S l) := List.take_of_length_le (by rw [HNX.out]; omega)
        go_wp2_with fail
        go_ret
        exact ⟨⟨_, rfl, by rw [HFIN.out, ← HTK.out]; exact HLR.out⟩, HGR.out⟩
theorem rwords_any (w₀ : World) (N : PNet) (S n1 c1 n2 c2 : Nat) (A1 A2 : Option Addr) (hV : RdN w₀ (.agg #[.int .i64 S, .slice A1 n1 c1, .slice A2 n2 c2]) N) (hG : GoodN N) (hS : N.states = (S : Int)) :
    ∀ k, RWordsC w₀ N S (.slice A1 n1 c1) (.slice A2 n2 c2) k
  | 0 => rwords_step w₀ N S n1 c1 n2 c2 A1 A2 hV hG hS 0 (fun k' h => by omega)
  | k + 1 => rwords_step w₀ N S n1 c1 n2 c2 A1 A2 hV hG hS (k + 1) (fun k' h => by
      have h : k = k' := by omega
      rw [← h]
      exact rwords_any w₀ N S n1 c1 n2 c2 A1 A2 hV hG hS k)
set_option maxHeartbeats 4000000 in
set_option maxRecDepth 100000 in
theorem rWords_any (v : Value) (N : PNet) (S : Nat) (len : Int) (w : World) (hv : RdN w v N) (hG : GoodN N) (hS : N.states = (S : Int)) :
    Calls Try.prog 23 #[v, .int .i64 len] w fun e w' => (∃ vl, e = .returned vl ∧ OwnL w' w.heap.size vl (wordsF N S len)) ∧ Below w.heap.size w w' := by
  have HWE := Lib.hid (wordsF_eq hG hS len)
  have HV := Lib.hid hv
  obtain ⟨vs, vf, rfl, hs, hf⟩ := hv
  have HF := Lib.hid hf
  obtain ⟨A1, n1, c1, rfl, _, _, _, _⟩ := hs.op
  obtain ⟨A2, n2, c2, rfl, _, _, _, _⟩ := hf.op
  have hS24 : S ≤ 24 := by have := hG.s2; omega
  have HS' := Lib.hid hS
  have HFI : Hid (∀ q, q ∈ N.final → 0 ≤ q ∧ q < (S : Int)) := fun q hq => by have := hG.fin q hq; omega
  have HO1 : Hid (∀ q, q ∈ [(((0 : Nat) : Int))] → 0 ≤ q ∧ q < (S : Int)) := by intro q hq; simp at hq; have := hG.s1; omega
  have H1S : Hid ((1 : Nat) < 2 ^ S) := by have := hG.s1; exact Nat.one_lt_two_pow (by omega)
  rw [hS] at HV ⊢
  clear hs hf hS
  go_enter Try.func23, Try.ntmps23
  by_cases h0 : len < 0
  · have HW : Hid (wordsF N S len = []) := by rw [Hid, HWE.out, if_pos (.inl h0)]
    have hd : decide (len < 0) = true := by simpa using h0
    go_wp2_with fail
    go_ret
    refine ⟨⟨_, rfl, by rw [HW.out]; exact OwnL.nil _ _⟩, ?_⟩
    repeat (first | assumption | exact Below.refl _ _ | refine Below.alloc ?_ (by first | omega | (simp; done) | (simp; omega)) _ | refine Below.drew ?_ | refine below_drewN ?_ _ | refine Below.setCell ?_ (by first | omega | (simp; done) | (simp; omega)) _)
  have hd : decide (len < 0) = false := by simpa using h0
  by_cases h4 : 4 < len
  · have HW : Hid (wordsF N S len = []) := by rw [Hid, HWE.out, if_pos (.inr h4)]
    have hd4 : decide (4 < len) = true := by simpa using h4
    go_wp2_with fail
    go_ret
    refine ⟨⟨_, rfl, by rw [HW.out]; exact OwnL.nil _ _⟩, ?_⟩
    repeat (first | assumption | exact Below.refl _ _ | refine Below.alloc ?_ (by first | omega | (simp; done) | (simp; omega)) _ | refine Below.drew ?_ | refine below_drewN ?_ _ | refine Below.setCell ?_ (by first | omega | (simp; done) | (simp; omega)) _)
  have hd4 : decide (4 < len) = false := by simpa using h4
  obtain ⟨k, hk⟩ : ∃ k : Nat, len = (k : Int) := ⟨len.toNat, by omega⟩
  subst hk
  have HK4 : Hid (k ≤ 4) := by rw [Hid]; omega
  have HW : Hid (wordsF N S (k : Int) = rW N S k []) := by rw [Hid, HWE.out, if_neg (by omega)]; rfl
  go_wp2_with fail
  clear h0 h4 hd hd4
  have hb1 : ∀ o, Below w.heap.size w (w.alloc o) := fun o => (Below.refl _ _).alloc (Nat.le_refl _) _
  refine ((rwords_any w N S n1 c1 n2 c2 A1 A2 HV.out hG HS'.out k) [] _ _ _ [] (by have := HK4.out; simp; omega) (World.ownsRow_nil _ _ _ _) (hb1 _) (OwnL.nil _ _) (by have := cW_le k HK4.out; simp; omega)).mono ?_
  rintro e W2 ⟨⟨v', rfl, hl'⟩, g'⟩
  have HLL := Lib.hid hl'
  have HGG : Hid (Below w.heap.size w W2) := (hb1 _).trans g'.1
  clear hl' g'
  go_wp2_with fail
  go_ret
  exact ⟨⟨_, rfl, by rw [HW.out]; exact HLL.out⟩, HGG.out⟩
end Go.Proofs.Ytcmfgblfgldonaa
