/-
  useful and Useful of the reference 20.
-/
import Derived.Test.YtmejihlplbeekaaU2
namespace Go.Proofs.Ytmejihlplbeekaa
open Go.ChangeShapes Go.WideShapes Go.ChangeAt Go.RowKit
theorem Bls.setV {w : World} {g : Nat} {M : List Bool} (h : Bls w g M) (j : Nat) (b : Bool) : Bls (w.setCell ⟨g, j, none⟩ (.bool b)) g (M.set j b) := by
  unfold Bls at h ⊢
  simp [World.setCell, Array.getElem?_modify, h, List.map_set]
theorem getD_setB (l : List Bool) (j j' : Nat) (b : Bool) : (l.set j b).getD j' false = if j = j' ∧ j < l.length then b else l.getD j' false := by
  simp only [List.getD_eq_getElem?_getD, List.getElem?_set]
  by_cases h : j = j'
  · subst h
    by_cases hl : j < l.length
    · simp [hl]
    · simp [hl]
  · simp [h]
theorem rep_get (n j : Nat) : (List.replicate n false).getD j false = false := by
  simp only [List.getD_eq_getElem?_getD, List.getElem?_replicate]
  split <;> rfl
set_option maxHeartbeats 4000000 in
set_option maxRecDepth 100000 in
theorem ruseful_any (v : Value) (F : PFst) (w : World) (hv : RdF w v F) (hF : FinOk F) :
    Calls Try.prog 49 #[v] w fun e w' => (∃ g, e = .returned (.slice (some ⟨g, 0, none⟩) F.states.toNat F.states.toNat) ∧ w.heap.size ≤ g ∧ ∃ M, Bls w' g M ∧ M.length = F.states.toNat ∧ ∀ q : Nat, q < F.states.toNat → M.getD q false = useB F q) ∧ Below w.heap.size w w' := by
  have HV := Lib.hid hv
  obtain ⟨va, vf, rfl, ha, hf⟩ := hv
  obtain ⟨A, n, c, rfl, _, _, _, _⟩ := ha.op
  obtain ⟨A', n', c', rfl, _, _, hn', hr'⟩ := hf.op
  have HF := Lib.hid hF
  obtain ⟨S, hS⟩ : ∃ S : Nat, F.states = (S : Int) := ⟨F.states.toNat, by have := hF.right.1; omega⟩
  have hS2 : S ≤ 4096 := by have := hF.st; omega
  have hS1 : 1 ≤ S := by have := hF.right.1; omega
  have HSN := Lib.hid hS
  have HFB : Hid (∀ q, q ∈ F.final → 0 ≤ q ∧ q < S) := fun q h => by have := hF.right.2.2 q h; omega
  have hmb := fun W => run_make_rowN (P := Try.prog) 57 4 infoB.choose (.bool false) Try.underlying57 infoB.choose_spec.1 infoB.choose_spec.2.1 .i64 .i64 S S (Nat.le_refl _) (by rw [infoB.choose_spec.2.2.2]; omega) (by omega) W
  rw [infoB.choose_spec.2.2.1, made_bools] at hmb
  have hm0 := bArr_zero S hS1
  have hST : F.states.toNat = S := by omega
  rw [hST]
  have HV2 := HV
  rw [hS]
  clear ha hf hF hS hST HV2
  go_enter Try.func49, Try.ntmps49
  go_wp2_with fail
  generalize hw1 : World.alloc w _ = W1
  obtain ⟨B, hB⟩ : ∃ B, w.heap.size = B := ⟨_, rfl⟩
  have HB1 : Hid (Below w.heap.size w W1) := by rw [← hw1]; exact (Below.refl _ _).alloc (Nat.le_refl _) _
  have HP1 : Hid (FBlk W1 B (.int .i64 (S : Int)) (.slice A n c) (.slice A' n' c')) := by rw [← hw1, ← hB]; exact heap_alloc_new w _
  have hs1 : W1.heap.size = B + 1 := by rw [← hw1, ← hB]; simp
  generalize hw2 : World.alloc W1 _ = W2
  have HX2 : Hid (Below W1.heap.size W1 W2) := by rw [← hw2]; exact (Below.refl _ _).alloc (Nat.le_refl _) _
  have HA2 : Hid (Bls W2 (B + 1) ((List.replicate S false).set 0 true)) := by rw [← hw2, ← hs1, bArr_set]; exact heap_alloc_new W1 _
  have hs2 : W2.heap.size = B + 1 + 1 := by rw [← hw2, World.size_alloc, hs1]
  generalize hw3 : World.alloc W2 _ = W
  have HX3 : Hid (Below W2.heap.size W2 W) := by rw [← hw3]; exact (Below.refl _ _).alloc (Nat.le_refl _) _
  obtain ⟨ga, hga⟩ : ∃ ga, B + 1 = ga := ⟨_, rfl⟩
  obtain ⟨gb, hgb⟩ : ∃ gb, ga + 1 = gb := ⟨_, rfl⟩
  have HBW : Hid (Bls W gb (List.replicate S false)) := by rw [← hw3, ← hgb, ← hga, ← hs2]; exact heap_alloc_new W2 _
  have HAW : Hid (Bls W ga ((List.replicate S false).set 0 true)) := by rw [← hga]; exact HA2.out.below HX3.out
  have HB0 : Hid (Below w.heap.size w W) := bchain HB1.out (bchain HX2.out HX3.out)
  have HPW : Hid (FBlk W B (.int .i64 (S : Int)) (.slice A n c) (.slice A' n' c')) := (HP1.out.below HX2.out).below HX3.out
  have HGS : Hid (w.heap.size = B ∧ B + 1 = ga ∧ ga + 1 = gb) := ⟨hB, hga, hgb⟩
  rw [hB, hga, hgb]
  clear hw1 hw2 hw3 hs1 hs2 hB hga hgb HB1 HP1 HX2 HA2 HX3 hmb hm0
  go_loopg [5] n' (fun gk v5 wr => ∃ (k : Nat) (M : List Bool), k ≤ n' ∧ gk = n' - k ∧ v5 = .int .i64 k ∧ Hid (Bls wr gb M) ∧ Hid (M.length = S) ∧ Hid (∀ q : Nat, M.getD q false = true ↔ (q : Int) ∈ F.final.take k) ∧ Hid (Bls wr ga ((List.replicate S false).set 0 true)) ∧ Hid (FBlk wr B (.int .i64 (S : Int)) (.slice A n c) (.slice A' n' c')) ∧ Hid (Below w.heap.size w wr))
  case atStart => exact ⟨0, _, Nat.zero_le _, rfl, rfl, HBW.out, by simp [Hid], (fun q => by rw [rep_get]; simp), HAW.out, HPW.out, HB0.out⟩
  case round =>
    obtain ⟨k, M, hk, hg, rfl, HM, HL, HMF, HA, HP, HB⟩ := hrel
    have HG := Lib.hid hg
    clear hg
    obtain ⟨p0, p1, p2, _, _, _⟩ := HP.out.facts
    have hpl := HP.out.lt
    by_cases hlt : k < n'
    · obtain ⟨b, off, x, rfl, hbl, hdr, e0⟩ := (hr'.out k hlt).below HB.out
      have hxm : x ∈ F.final := List.mem_of_mem_drop (by rw [hdr.out]; exact List.mem_cons_self)
      obtain ⟨hx0, hxS⟩ := HFB.out x hxm
      have HTK : Hid (F.final.take (k + 1) = F.final.take k ++ [x]) := take_of_drop hdr.out
      obtain ⟨q, rfl⟩ : ∃ q : Nat, x = (q : Int) := ⟨x.toNat, by omega⟩
      have hqS : q < S := by omega
      have hck := HM.out.cell (j := q) (by rw [HL.out]; exact hqS)
      have hfk := HM.out.free q
      have hgl := HM.out.lt
      clear hxm
      go_wp2_with fail
      go_roundg (n' - (k + 1))
      case measure => rw [HG.out]; omega
      case rel =>
        refine ⟨k + 1, M.set q true, by omega, rfl, by go_num, HM.out.set_ _, by rw [Hid, List.length_set]; exact HL.out, (fun y => ?_), (Below.heap_setCell _ ⟨gb, _, none⟩ _ ga (by have := HGS.out; simp only; omega)).trans HA.out, (Below.heap_setCell _ ⟨gb, _, none⟩ _ B (by have := HGS.out; simp only; omega)).trans HP.out, HB.out.setCell (p := ⟨gb, _, none⟩) (by have := HGS.out; simp only; omega) _⟩
        rw [getD_set, HTK.out, List.mem_append]
        by_cases e : q = y
        · subst e
          simp [HL.out, hqS]
        · have e2 : ¬ (y : Int) = (q : Int) := by omega
          rw [if_neg (fun h => e h.1), HMF.out y]
          simp [e2]
    · have HMF2 : Hid (∀ q : Nat, M.getD q false = true ↔ (q : Int) ∈ F.final) := fun q => by rw [HMF.out q, List.take_of_length_le (by rw [hn'.out]; omega)]
      clear HMF HBW HAW HB0 HPW
      have HIA : Hid (SInv F.arcs false S (· ∈ [0]) ((List.replicate S false).set 0 true)) := by
        refine ⟨by simp, fun q hq => ?_, fun q hq => ?_⟩
        · rw [getD_set] at hq
          split at hq
          · rename_i h
            rw [← h.1]
            exact .base _ (by simp)
          · rw [rep_get] at hq; cases hq
        · have : q = 0 := by simp at hq; omega
          subst this
          rw [getD_set, if_pos ⟨rfl, by simp; omega⟩]
      have HIB : Hid (SInv F.arcs true S (· ∈ F.final) M) := ⟨HL.out, fun q hq => .base _ ((HMF2.out q).1 hq), fun q hq => (HMF2.out q).2 hq⟩
      go_wp2_with fail
      clear p0 p1 p2 hpl
      have h1 := spread_fwd w wr _ F ga _ S (· ∈ [0]) HB.out HV.out (by have := HGS.out; omega) HA.out HIA.out (fun q hq => by (have : q = 0 := by simpa using hq); omega) HF.out.right HSN.out
      rw [HSN.out] at h1
      refine h1.mono ?_
      rintro e w5 ⟨rfl, Ma, hma, hla, hra, hfa⟩
      have HMA := Lib.hid hma
      have HLA := Lib.hid hla
      have HRA := Lib.hid hra
      have HB5 : Hid (Below w.heap.size w w5) := HB.out.trans (hfa.below (by have := HB.out.size; exact this) (fun j hj e => by have := HGS.out; omega))
      have HP5 : Hid (FBlk w5 B (.int .i64 (S : Int)) (.slice A n c) (.slice A' n' c')) := (hfa.2 B HP.out.lt (by have := HGS.out; omega)).trans HP.out
      have HM5 : Hid (Bls w5 gb M) := (hfa.2 gb HM.out.lt (by have := HGS.out; omega)).trans HM.out
      clear hma hla hra hfa h1 HIA HA HM
      obtain ⟨p0, p1, p2, _, _, _⟩ := HP5.out.facts
      have hpl := HP5.out.lt
      go_wp2_with fail
      clear p0 p1 p2 hpl
      have h1 := spread_back w w5 _ F gb _ S (· ∈ F.final) HB5.out HV.out (by have := HGS.out; omega) HM5.out HIB.out (fun q hq => (HFB.out q hq).1) HF.out.right HSN.out
      rw [HSN.out] at h1
      refine h1.mono ?_
      rintro e w6 ⟨rfl, Mb, hmb, hlb, hrb, hfb⟩
      have HMB := Lib.hid hmb
      have HLB := Lib.hid hlb
      have HRB := Lib.hid hrb
      have HB6 : Hid (Below w.heap.size w w6) := HB5.out.trans (hfb.below (by have := HB5.out.size; exact this) (fun j hj e => by have := HGS.out; omega))
      have HP6 : Hid (FBlk w6 B (.int .i64 (S : Int)) (.slice A n c) (.slice A' n' c')) := (hfb.2 B HP5.out.lt (by have := HGS.out; omega)).trans HP5.out
      have HMA6 : Hid (Bls w6 ga Ma) := (hfb.2 ga HMA.out.lt (by have := HGS.out; omega)).trans HMA.out
      clear hmb hlb hrb hfb h1 HIB HM5 HP5 HB5 HMA
      have HUB : Hid (∀ q : Nat, useB F q = (Ma.getD q false && Mb.getD q false)) := fun q => by
        rw [Bool.eq_iff_iff, useB_iff, Bool.and_eq_true, HRA.out, HRB.out]
      obtain ⟨p0, p1, p2, _, _, _⟩ := HP6.out.facts
      have hpl := HP6.out.lt
      go_wp2_with fail
      clear p0 p1 p2 hpl HRA HRB
      go_loopg [6] S (fun gk v6 wx => ∃ (j : Nat) (Mx : List Bool), j ≤ S ∧ gk = S - j ∧ v6 = .int .i64 j ∧ Hid (Bls wx ga Mx) ∧ Hid (Mx.length = S) ∧ Hid (∀ q : Nat, Mx.getD q false = if q < j then useB F q else Ma.getD q false) ∧ Hid (Bls wx gb Mb) ∧ Hid (FBlk wx B (.int .i64 (S : Int)) (.slice A n c) (.slice A' n' c')) ∧ Hid (Below w.heap.size w wx))
      case atStart => exact ⟨0, Ma, Nat.zero_le _, rfl, rfl, HMA6.out, HLA.out, (fun q => by simp), HMB.out, HP6.out, HB6.out⟩
      case round =>
        obtain ⟨j, Mx, hj, hg2, rfl, HMX, HLX, HXF, HMB7, HP7, HB7⟩ := hrel
        have HG2 := Lib.hid hg2
        clear hg2 HMA6 HMB HP6 HB6
        obtain ⟨p0, p1, p2, _, _, _⟩ := HP7.out.facts
        have hpl := HP7.out.lt
        by_cases hlt2 : j < S
        · have hxa : Mx.getD j false = Ma.getD j false := by rw [HXF.out, if_neg (Nat.lt_irrefl j)]
          have hca := HMX.out.cell (j := j) (by rw [HLX.out]; exact hlt2)
          have hcb := HMB7.out.cell (j := j) (by rw [HLB.out]; exact hlt2)
          have hfa := HMX.out.free j
          have hal := HMX.out.lt
          have hbl := HMB7.out.lt
          have HUJ := Lib.hid (HUB.out j)
          rw [hxa] at hca
          clear hxa
          obtain ⟨ba, hba⟩ : ∃ b, Ma.getD j false = b := ⟨_, rfl⟩
          obtain ⟨bb, hbb⟩ : ∃ b, Mb.getD j false = b := ⟨_, rfl⟩
          rw [hba, hbb] at HUJ
          rw [hba] at hca
          rw [hbb] at hcb
          clear hba hbb
          have HFIN : Hid (∀ q : Nat, (Mx.set j (ba && bb)).getD q false = if q < j + 1 then useB F q else Ma.getD q false) := fun q => by
            rw [getD_setB, HXF.out]
            by_cases e : j = q
            · subst e
              rw [if_pos ⟨rfl, by rw [HLX.out]; exact hlt2⟩, if_pos (Nat.lt_succ_self j), HUJ.out]
            · rw [if_neg (fun h => e h.1)]
              by_cases h : q < j
              · rw [if_pos h, if_pos (by omega)]
              · rw [if_neg h, if_neg (by omega)]
          cases ba
          · go_wp2_with fail
            go_roundg (S - (j + 1))
            case measure => rw [HG2.out]; omega
            case rel => exact ⟨j + 1, _, by omega, rfl, by go_num, HMX.out.setV j false, by rw [Hid, List.length_set]; exact HLX.out, HFIN.out, (Below.heap_setCell _ ⟨ga, _, none⟩ _ gb (by have := HGS.out; simp only; omega)).trans HMB7.out, (Below.heap_setCell _ ⟨ga, _, none⟩ _ B (by have := HGS.out; simp only; omega)).trans HP7.out, HB7.out.setCell (p := ⟨ga, _, none⟩) (by have := HGS.out; simp only; omega) _⟩
          · go_wp2_with fail
            go_roundg (S - (j + 1))
            case measure => rw [HG2.out]; omega
            case rel => exact ⟨j + 1, _, by omega, rfl, by go_num, HMX.out.setV j bb, by rw [Hid, List.length_set]; exact HLX.out, HFIN.out, (Below.heap_setCell _ ⟨ga, _, none⟩ _ gb (by have := HGS.out; simp only; omega)).trans HMB7.out, (Below.heap_setCell _ ⟨ga, _, none⟩ _ B (by have := HGS.out; simp only; omega)).trans HP7.out, HB7.out.setCell (p := ⟨ga, _, none⟩) (by have := HGS.out; simp only; omega) _⟩
        · have hjS : j = S := by omega
          go_wp2_with fail
          go_ret
          exact ⟨⟨ga, rfl, by have := HGS.out; omega, Mx, HMX.out, HLX.out, fun q hq => by rw [HXF.out, if_pos (by omega)]⟩, HB7.out⟩
set_option maxHeartbeats 4000000 in
set_option maxRecDepth 100000 in
theorem rUseful_any (v : Value) (F : PFst) (w : World) (hv : RdF w v F) (hF : FinOk F) :
    Calls Try.prog 24 #[v] w fun e w' => (∃ v', e = .returned v' ∧ OwnI w' w.heap.size v' (usefulL F)) ∧ Below w.heap.size w w' := by
  have HV := Lib.hid hv
  obtain ⟨va, vf, rfl, ha, hf⟩ := hv
  obtain ⟨A, n, c, rfl, _, _, _, _⟩ := ha.op
  obtain ⟨A', n', c', rfl, _, _, _, _⟩ := hf.op
  have HF := Lib.hid hF
  obtain ⟨S, hS⟩ : ∃ S : Nat, F.states = (S : Int) := ⟨F.states.toNat, by have := hF.right.1; omega⟩
  have hS2 : S ≤ 4096 := by have := hF.st; omega
  have HSN := Lib.hid hS
  rw [hS]
  clear ha hf hF hS
  go_enter Try.func24, Try.ntmps24
  go_wp2_with fail
  generalize hw1 : World.alloc w _ = W
  obtain ⟨B, hB⟩ : ∃ B, w.heap.size = B := ⟨_, rfl⟩
  have HB1 : Hid (Below w.heap.size w W) := by rw [← hw1]; exact (Below.refl _ _).alloc (Nat.le_refl _) _
  have HP1 : Hid (FBlk W B (.int .i64 (S : Int)) (.slice A n c) (.slice A' n' c')) := by rw [← hw1, ← hB]; exact heap_alloc_new w _
  have HBE := Lib.hid hB
  rw [hB]
  clear hw1 hB
  have h1 := ruseful_any _ F W (HV.out.below HB1.out) HF.out
  rw [HSN.out] at h1
  refine h1.mono ?_
  rintro e W4 ⟨⟨g, rfl, hg, M, hm, hl, hu⟩, hb⟩
  have HM := Lib.hid hm
  have HL := Lib.hid hl
  have HU := Lib.hid hu
  have HB4 : Hid (Below w.heap.size w W4) := bchain HB1.out hb
  have HP4 := Lib.hid (HP1.out.below hb)
  clear hm hl hu hb hg h1 HB1 HP1
  simp only [Int.toNat_natCast] at HL HU ⊢
  obtain ⟨p0, p1, p2, _, _, _⟩ := HP4.out.facts
  have hpl := HP4.out.lt
  go_wp2_with fail
  clear p0 p1 p2 hpl
  go_loopg [3, 5] S (fun gk v3 v5 wr => ∃ (k : Nat) (Ao : Option Addr) (no co : Nat), k ≤ S ∧ gk = S - k ∧ v5 = .int .i64 k ∧ v3 = .slice Ao no co ∧ Hid (OwnI wr W4.heap.size (.slice Ao no co) (useK F k)) ∧ Hid (Below W4.heap.size W4 wr))
  case atStart => exact ⟨0, none, 0, 0, Nat.zero_le _, rfl, rfl, rfl, (show OwnI W4 W4.heap.size (.slice none 0 0) [] from World.ownsRow_nil _ _ _ _), Below.refl _ _⟩
  case round =>
    obtain ⟨k, Ao, no, co, hk, hg, rfl, rfl, HO, HBR⟩ := hrel
    have HG := Lib.hid hg
    clear hg
    have hpw := HP4.out.below HBR.out
    obtain ⟨p0, p1, p2, _, _, _⟩ := hpw.facts
    have hpl := hpw.lt
    clear hpw
    by_cases hlt : k < S
    · have hma := HM.out.below HBR.out
      have hca := hma.cell (j := k) (by rw [HL.out]; exact hlt)
      have hal := hma.lt
      clear hma
      have hul := useK_len F k
      have hlen : no = (useK F k).length := HO.out.len
      subst hlen
      rw [HU.out k hlt] at hca
      cases hab : useB F k
      · rw [hab] at hca
        have HUS2 : Hid (useK F (k + 1) = useK F k) := by rw [Hid, useK_succ, hab]; simp
        clear hab
        go_wp2_with fail
        go_roundg (S - (k + 1))
        case measure => rw [HG.out]; omega
        case rel => exact ⟨k + 1, _, _, _, by omega, rfl, by go_num, rfl, by rw [HUS2.out]; exact HO.out, HBR.out⟩
      · rw [hab] at hca
        have HUS2 : Hid (useK F (k + 1) = useK F k ++ [(k : Int)]) := by rw [Hid, useK_succ, hab]; simp
        clear hab
        have hl1 : (useK F k).length ≤ 1000000 := by omega
        have hsz : W4.heap.size ≤ wr.heap.size := HBR.out.size
        go_wp2_with (at_builtin; refine wpList_app_int rfl (.tmp 18) (.tmp 20) rfl W4.heap.size (.slice Ao (useK F k).length co) (useK F k) rfl HO.out (k : Int) (useK F k).length (Lib.hid rfl) hl1 hsz rfl ?_; intro g7 c7 w7 ho7 hgg7 hg7; have HO7 := Lib.hid ho7; have HB7 : Hid (Below W4.heap.size W4 w7) := HBR.out.grown hg7 hsz (fun j hj => (World.ownsRow.lt HO.out j hj).1); clear ho7 hgg7 hg7)
        go_roundg (S - (k + 1))
        case measure => rw [HG.out]; omega
        case rel => exact ⟨k + 1, _, _, _, by omega, rfl, by go_num, rfl, by rw [HUS2.out]; exact HO7.out, HB7.out⟩
    · have hkS : k = S := by omega
      have HUL : Hid (usefulL F = useK F k) := by rw [Hid, usefulL, HSN.out, hkS]; rfl
      go_wp2_with fail
      go_ret
      exact ⟨⟨_, rfl, by rw [HUL.out]; exact own_base HO.out HB4.out.size⟩, bchain HB4.out HBR.out⟩
end Go.Proofs.Ytmejihlplbeekaa
