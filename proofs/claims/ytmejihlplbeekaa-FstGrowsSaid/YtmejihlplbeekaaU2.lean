/-
  Useful of fst and of the reference 20.
-/
import Derived.Test.YtmejihlplbeekaaU1
import Derived.Test.YtmejihlplbeekaaG9
namespace Go.Proofs.Ytmejihlplbeekaa
open Go.ChangeShapes Go.WideShapes Go.ChangeAt Go.RowKit
noncomputable def useB (F : PFst) (q : Nat) : Bool := @decide (Rch F.arcs false (fun y => y ∈ [(0 : Int)]) (q : Int) ∧ Rch F.arcs true (fun y => y ∈ F.final) (q : Int)) (Classical.propDecidable _)
theorem useB_iff {F : PFst} {q : Nat} : useB F q = true ↔ Rch F.arcs false (· ∈ [(0 : Int)]) (q : Int) ∧ Rch F.arcs true (· ∈ F.final) (q : Int) := by
  unfold useB
  exact @decide_eq_true_iff _ (Classical.propDecidable _)
noncomputable def useK (F : PFst) (k : Nat) : List Int := ((List.range k).filter (useB F)).map fun (q : Nat) => (q : Int)
/-- the useful states -/
noncomputable def usefulL (F : PFst) : List Int := useK F F.states.toNat
theorem useK_succ (F : PFst) (k : Nat) : useK F (k + 1) = useK F k ++ if useB F k then [(k : Int)] else [] := by
  unfold useK
  rw [List.range_succ, List.filter_append, List.map_append]
  congr 1
  cases h : useB F k <;> simp [h]
theorem useK_len (F : PFst) (k : Nat) : (useK F k).length ≤ k := by
  unfold useK
  rw [List.length_map]
  exact Nat.le_trans (List.length_filter_le _ _) (by simp)
set_option maxHeartbeats 4000000 in
set_option maxRecDepth 100000 in
theorem useful_any (v : Value) (F : PFst) (w : World) (hv : RdF w v F) (hF : FinOk F) (hFl : F.final.length ≤ 1000000) :
    Calls Try.prog 23 #[v] w fun e w' => (∃ v', e = .returned v' ∧ OwnI w' w.heap.size v' (usefulL F)) ∧ Below w.heap.size w w' := by
  obtain ⟨va, vf, rfl, ha, hf⟩ := hv
  obtain ⟨A, n, c, rfl, _, _, _, _⟩ := ha.op
  obtain ⟨A', n', c', rfl, _, _, _, _⟩ := hf.op
  have HA := Lib.hid ha
  have HFI := Lib.hid hf
  have HF := Lib.hid hF
  have HFL := Lib.hid hFl
  obtain ⟨S, hS⟩ : ∃ S : Nat, F.states = (S : Int) := ⟨F.states.toNat, by have := hF.right.1; omega⟩
  have hS2 : S ≤ 4096 := by have := hF.st; omega
  have hS1 : 1 ≤ S := by have := hF.right.1; omega
  have HSN := Lib.hid hS
  have HAF : Hid (∀ a, a ∈ F.arcs → 0 ≤ srcA false a ∧ srcA false a < S ∧ 0 ≤ dstA false a ∧ dstA false a < S) := fun a h => by
    have := hF.right.2.1 a h
    simp only [srcA, dstA, if_false, Bool.false_eq_true]
    omega
  have HAB : Hid (∀ a, a ∈ F.arcs → 0 ≤ srcA true a ∧ srcA true a < S ∧ 0 ≤ dstA true a ∧ dstA true a < S) := fun a h => by
    have := hF.right.2.1 a h
    simp only [srcA, dstA, if_true]
    omega
  have HFB : Hid (∀ q, q ∈ F.final → 0 ≤ q ∧ q < S) := fun q h => by have := hF.right.2.2 q h; omega
  rw [hS]
  clear ha hf hF hFl hS
  go_enter Try.func23, Try.ntmps23
  go_wp2_with fail
  generalize hW1 : World.alloc w _ = W1
  obtain ⟨B, hB⟩ : ∃ B, w.heap.size = B := ⟨_, rfl⟩
  have HB1 : Hid (Below w.heap.size w W1) := by rw [← hW1]; exact (Below.refl _ _).alloc (Nat.le_refl _) _
  have HP1 : Hid (FBlk W1 B (.int .i64 (S : Int)) (.slice A n c) (.slice A' n' c')) := by rw [← hW1, ← hB]; exact heap_alloc_new w _
  have hs1 : W1.heap.size = B + 1 := by rw [← hW1, ← hB]; simp
  generalize hW2 : World.alloc W1 _ = W2
  have HR2 : Hid (RdI W2 (.slice (some ⟨B + 1, 0, none⟩) 1 1) [0]) := by
    rw [← hW2, ← hs1]
    refine ⟨_, 1, rfl, by simp, by decide, by simp, fun _ => ⟨W1.heap.size, 0, rfl, by simp, fun j u hu => ?_⟩⟩
    match j, hu with
    | 0, hu => simp at hu; subst hu; simp [go_sem]
  have HX2 : Hid (Below W1.heap.size W1 W2) := by rw [← hW2]; exact (Below.refl _ _).alloc (Nat.le_refl _) _
  have HB2 : Hid (Below w.heap.size w W2) := bchain HB1.out HX2.out
  have HP2 := Lib.hid (HP1.out.below HX2.out)
  have HBE := Lib.hid hB
  rw [hB]
  clear hW1 hW2 hs1 hB HB1 HP1 HX2
  refine (reach_fwd W2 S _ _ F.arcs [0] HR2.out (HA.out.below HB2.out) HAF.out (fun q hq => by have : q = 0 := by simpa using hq
                                                                                               omega) (by omega) (by have := HF.out.al; omega) (by simp)).mono ?_
  rintro e W3 ⟨⟨ga, rfl, Ma, hma, hla, hra⟩, hb⟩
  have HMA := Lib.hid hma
  have HLA := Lib.hid hla
  have HRA := Lib.hid hra
  have HB3 : Hid (Below w.heap.size w W3) := bchain HB2.out hb
  have HP3 := Lib.hid (HP2.out.below hb)
  clear hma hla hra hb HR2 HB2 HP2
  obtain ⟨p0, p1, p2, _, _, _⟩ := HP3.out.facts
  have hpl := HP3.out.lt
  go_wp2_with fail
  clear p0 p1 p2 hpl
  refine (reach_back W3 S _ _ F.arcs F.final (HFI.out.below HB3.out) (HA.out.below HB3.out) HAB.out HFB.out (by omega) (by have := HF.out.al; omega) HFL.out).mono ?_
  rintro e W4 ⟨⟨gb, rfl, Mb, hmb, hlb, hrb⟩, hb⟩
  have HMB := Lib.hid hmb
  have HLB := Lib.hid hlb
  have HRB := Lib.hid hrb
  have HMA4 := Lib.hid (HMA.out.below hb)
  have HB4 : Hid (Below w.heap.size w W4) := bchain HB3.out hb
  have HP4 := Lib.hid (HP3.out.below hb)
  clear hmb hlb hrb hb HB3 HP3 HMA
  have HUB : Hid (∀ q : Nat, useB F q = (Ma.getD q false && Mb.getD q false)) := fun q => by
    rw [Bool.eq_iff_iff, useB_iff, Bool.and_eq_true, HRA.out, HRB.out]
  obtain ⟨p0, p1, p2, _, _, _⟩ := HP4.out.facts
  have hpl := HP4.out.lt
  go_wp2_with fail
  clear p0 p1 p2 hpl HRA HRB
  go_loopg [5, 22] S (fun gk v5 v22 wr => ∃ (k : Nat) (Ao : Option Addr) (no co : Nat), k ≤ S ∧ gk = S - k ∧ v22 = .int .i64 k ∧ v5 = .slice Ao no co ∧ Hid (OwnI wr W4.heap.size (.slice Ao no co) (useK F k)) ∧ Hid (Below W4.heap.size W4 wr))
  case atStart => exact ⟨0, none, 0, 0, Nat.zero_le _, rfl, rfl, rfl, (show OwnI W4 W4.heap.size (.slice none 0 0) [] from World.ownsRow_nil _ _ _ _), Below.refl _ _⟩
  case round =>
    obtain ⟨k, Ao, no, co, hk, hg, rfl, rfl, HO, HBR⟩ := hrel
    have HG := Lib.hid hg
    clear hg
    by_cases hlt : k < S
    · have hma := HMA4.out.below HBR.out
      have hmb := HMB.out.below HBR.out
      have hca := hma.cell (j := k) (by rw [HLA.out]; exact hlt)
      have hcb := hmb.cell (j := k) (by rw [HLB.out]; exact hlt)
      have hal := hma.lt
      have hbl := hmb.lt
      clear hma hmb
      have HUS : Hid (useK F (k + 1) = useK F k ++ if (Ma.getD k false && Mb.getD k false) = true then [(k : Int)] else []) := by rw [Hid, useK_succ, HUB.out]
      have hul := useK_len F k
      obtain ⟨ba, hba⟩ : ∃ b, Ma.getD k false = b := ⟨_, rfl⟩
      obtain ⟨bb, hbb⟩ : ∃ b, Mb.getD k false = b := ⟨_, rfl⟩
      rw [hba, hbb] at HUS
      rw [hba] at hca
      rw [hbb] at hcb
      clear hba hbb
      have hlen : no = (useK F k).length := HO.out.len
      subst hlen
      cases hab : (ba && bb)
      · have HUS2 : Hid (useK F (k + 1) = useK F k) := by rw [Hid, HUS.out, hab]; simp
        cases ba
        · go_wp2_with fail
          go_roundg (S - (k + 1))
          case measure => rw [HG.out]; omega
          case rel => exact ⟨k + 1, _, _, _, by omega, rfl, by go_num, rfl, by rw [HUS2.out]; exact HO.out, HBR.out⟩
        · obtain rfl : bb = false := by simpa using hab
          go_wp2_with fail
          go_roundg (S - (k + 1))
          case measure => rw [HG.out]; omega
          case rel => exact ⟨k + 1, _, _, _, by omega, rfl, by go_num, rfl, by rw [HUS2.out]; exact HO.out, HBR.out⟩
      · have HUS2 : Hid (useK F (k + 1) = useK F k ++ [(k : Int)]) := by rw [Hid, HUS.out, hab]; simp
        simp only [Bool.and_eq_true] at hab
        obtain ⟨rfl, rfl⟩ := hab
        have hl1 : (useK F k).length ≤ 1000000 := by omega
        have hsz : W4.heap.size ≤ wr.heap.size := HBR.out.size
        go_wp2_with (at_builtin; refine wpList_app_int rfl (.tmp 35) (.tmp 37) rfl W4.heap.size (.slice Ao (useK F k).length co) (useK F k) rfl HO.out (k : Int) (useK F k).length (Lib.hid rfl) hl1 hsz rfl ?_; intro g7 c7 w7 ho7 hgg7 hg7; have HO7 := Lib.hid ho7; have HB7 : Hid (Below W4.heap.size W4 w7) := HBR.out.grown hg7 hsz (fun j hj => (World.ownsRow.lt HO.out j hj).1); clear ho7 hgg7 hg7)
        go_roundg (S - (k + 1))
        case measure => rw [HG.out]; omega
        case rel => exact ⟨k + 1, _, _, _, by omega, rfl, by go_num, rfl, by rw [HUS2.out]; exact HO7.out, HB7.out⟩
    · have hkS : k = S := by omega
      have HUL : Hid (usefulL F = useK F k) := by rw [Hid, usefulL, HSN.out, hkS]; rfl
      go_wp2_with fail
      go_ret
      exact ⟨⟨_, rfl, by rw [HUL.out]; exact own_base HO.out HB4.out.size⟩, bchain HB4.out HBR.out⟩
set_option maxHeartbeats 4000000 in
set_option maxRecDepth 100000 in
theorem spread_fwd (w₀ w : World) (v : Value) (F : PFst) (g : Nat) (M : List Bool) (S : Nat) (S0 : Int → Prop) (hw : Below w₀.heap.size w₀ w) (hv : RdF w₀ v F) (hg0 : w₀.heap.size ≤ g) (hM : Bls w g M) (hI : SInv F.arcs false S S0 M) (h0 : ∀ q, S0 q → 0 ≤ q) (hR : Right F) (hS : F.states = (S : Int)) :
    Calls Try.prog 59 #[v, .slice (some ⟨g, 0, none⟩) S S, .bool false] w fun e w' => e = .returned (.slice (some ⟨g, 0, none⟩) S S) ∧ ∃ M', Bls w' g M' ∧ M'.length = S ∧ (∀ q : Nat, M'.getD q false = true ↔ Rch F.arcs false S0 (q : Int)) ∧ Frm w.heap.size (fun k => k = g) w w' := by
  obtain ⟨va, vf, rfl, ha, hf⟩ := hv
  obtain ⟨A, n, c, rfl, h1, h2, hn, hr⟩ := ha.op
  obtain ⟨A', n', c', rfl, h1', h2', hn', hr'⟩ := hf.op
  have HR := Lib.hid hR
  have HW := Lib.hid hw
  have HM0 := Lib.hid hM
  have HI0 := Lib.hid hI
  have HG0 := Lib.hid hg0
  have HS0 := Lib.hid h0
  have HSN := Lib.hid hS
  have HLF : Hid (∀ a, a ∈ F.arcs → 0 ≤ srcA false a ∧ 0 ≤ dstA false a ∧ dstA false a < S) := fun a h => by
    have := hR.2.1 a h
    simp only [srcA, dstA, if_false, Bool.false_eq_true]
    omega
  rw [hS]
  clear hf ha hr' hw hM hI hg0 h0 hS hR
  go_enter Try.func59, Try.ntmps59
  go_wp2_with fail
  generalize hw1 : World.alloc w _ = W
  obtain ⟨B, hB⟩ : ∃ B, w.heap.size = B := ⟨_, rfl⟩
  have HBW : Hid (Below w.heap.size w W) := by rw [← hw1]; exact (Below.refl _ _).alloc (Nat.le_refl _) _
  have HP : Hid (FBlk W B (.int .i64 (S : Int)) (.slice A n c) (.slice A' n' c')) := by rw [← hw1, ← hB]; exact heap_alloc_new w _
  have HMW : Hid (Bls W g M) := by rw [← hw1]; exact HM0.out.alloc _
  have HFW : Hid (Frm w.heap.size (fun k => k = g) w W) := Frm.of_below HBW.out
  have HGB : Hid (g < B) := by have := HM0.out.lt; unfold Hid; omega
  have HBE := Lib.hid hB
  rw [hB]
  clear hw1 hB HBW
  go_loopg [7] (2 * cf M + 1) (fun gk v7 wr => ∃ (b : Bool) (M1 : List Bool), v7 = .bool b ∧ Hid (Bls wr g M1) ∧ Hid (SInv F.arcs false S S0 M1) ∧ Hid (b = false → ∀ a, a ∈ F.arcs → SClo false M1 a) ∧ Hid (gk = 2 * cf M1 + (if b then 1 else 0)) ∧ Hid (FBlk wr B (.int .i64 (S : Int)) (.slice A n c) (.slice A' n' c')) ∧ Hid (Frm w.heap.size (fun k => k = g) w wr))
  case atStart => exact ⟨true, M, rfl, HMW.out, HI0.out, (fun h => by cases h), rfl, HP.out, HFW.out⟩
  case round =>
    obtain ⟨b, M3, rfl, HM3, HI3, HC3, HG3, HP3, HF3⟩ := hrel
    cases b
    · go_wp2_with fail
      go_ret
      exact ⟨rfl, M3, HM3.out, HI3.out.len, HI3.out.done HLF.out HS0.out (HC3.out trivial), HF3.out⟩
    · obtain ⟨p0, c1, p2, _, _, _⟩ := HP3.out.facts
      have hgl := HM3.out.lt
      have hpl := HP3.out.lt
      go_wp2_with fail
      clear p0 c1 p2 hgl hpl
      go_loopg [7, 8] n (fun gk v7 v8 wx => ∃ (j : Nat) (more : Bool) (M4 : List Bool), j ≤ n ∧ gk = n - j ∧ v8 = .int .i64 j ∧ v7 = .bool more ∧ Hid (Bls wx g M4) ∧ Hid (PassR F.arcs false S S0 M3 (· ∈ F.arcs.take j) M4 more) ∧ Hid (FBlk wx B (.int .i64 (S : Int)) (.slice A n c) (.slice A' n' c')) ∧ Hid (Frm w.heap.size (fun k => k = g) w wx))
      case atStart => exact ⟨0, false, M3, Nat.zero_le _, rfl, rfl, rfl, HM3.out, (PassR.start HI3.out).weaken (fun a h => by simp at h), HP3.out, HF3.out⟩
      case round =>
        obtain ⟨j, more, M4, hj, hg2, rfl, rfl, HM4, HP4, HPB4, HF4⟩ := hrel
        have HG2 := Lib.hid hg2
        clear hg2 HM3
        have hf4 : Below w₀.heap.size w₀ wr := HW.out.trans (HF4.out.below (by have := HW.out.size; exact this) (fun k hk e => by have := HG0.out; omega))
        obtain ⟨p0, c1, p2, _, _, _⟩ := HPB4.out.facts
        have hpl := HPB4.out.lt
        have hgl := HM4.out.lt
        by_cases hlt4 : j < n
        · obtain ⟨bb, off, x0, x1, x2, x3, rfl, hbb, hdr, e0, e1, e2, e3⟩ := (hr.out j hlt4).below hf4
          have HAM : Hid ((⟨x0, x1, x2, x3⟩ : PArc) ∈ F.arcs) := List.mem_of_mem_drop (by rw [hdr.out]; exact List.mem_cons_self)
          have HTK : Hid (F.arcs.take (j + 1) = F.arcs.take j ++ [⟨x0, x1, x2, x3⟩]) := take_of_drop hdr.out
          obtain ⟨y0, y1, y2, y3⟩ := HR.out.2.1 _ HAM.out
          simp only at y0 y1 y2 y3
          obtain ⟨q0, rfl⟩ : ∃ q : Nat, x0 = (q : Int) := ⟨x0.toNat, by omega⟩
          obtain ⟨q3, rfl⟩ : ∃ q : Nat, x3 = (q : Int) := ⟨x3.toNat, by omega⟩
          have hq0 : q0 < S := by have := HSN.out; omega
          have hq3 : q3 < S := by have := HSN.out; omega
          have hz0 : (0 : Int) ≤ (q0 : Int) := by omega
          have hz3 : (0 : Int) ≤ (q3 : Int) := by omega
          have hy0 : (q0 : Int) < (S : Int) := by omega
          have hy3 : (q3 : Int) < (S : Int) := by omega
          clear y0 y1 y2 y3 hf4
          have hck := HM4.out.cell (j := q0) (by rw [HP4.out.1.len]; omega)
          have hcy := HM4.out.cell (j := q3) (by rw [HP4.out.1.len]; omega)
          have hfy := HM4.out.free q3
          cases hT : M4.getD q0 false
          · rw [hT] at hck
            have HCL : Hid (SClo false M4 ⟨(q0 : Int), x1, x2, (q3 : Int)⟩) := fun h => by
              rw [show srcA false ⟨(q0 : Int), x1, x2, (q3 : Int)⟩ = (q0 : Int) from rfl, Int.toNat_natCast, hT] at h
              cases h
            clear hT
            go_wp2_with fail
            go_roundg (n - (j + 1))
            case measure => rw [HG2.out]; omega
            case rel => exact ⟨j + 1, more, M4, by omega, rfl, by go_num, rfl, HM4.out, HP4.out.keep (a := ⟨(q0 : Int), x1, x2, (q3 : Int)⟩) HCL.out (fun a' h => by
                rw [HTK.out] at h
                rcases List.mem_append.1 h with h4 | h4
                · exact .inl h4
                · exact .inr (by simpa using h4)), HPB4.out, HF4.out⟩
          · rw [hT] at hck
            have HT := Lib.hid hT
            clear hT
            cases hU : M4.getD q3 false
            · rw [hU] at hcy
              have HU := Lib.hid hU
              clear hU
              go_wp2_with fail
              go_roundg (n - (j + 1))
              case measure => rw [HG2.out]; omega
              case rel =>
                refine ⟨j + 1, true, M4.set q3 true, by omega, rfl, by go_num, rfl, Bls.set_ HM4.out _, ?_, (Below.heap_setCell _ ⟨g, _, none⟩ _ B (by have := HGB.out; simp only; omega)).trans HPB4.out, HF4.out.setCell ⟨g, _, none⟩ _ (.inl rfl)⟩
                have h := HP4.out.step HLF.out (D' := (· ∈ F.arcs.take (j + 1))) HAM.out (by rw [show srcA false ⟨(q0 : Int), x1, x2, (q3 : Int)⟩ = (q0 : Int) from rfl, Int.toNat_natCast]; exact HT.out) (by rw [show dstA false ⟨(q0 : Int), x1, x2, (q3 : Int)⟩ = (q3 : Int) from rfl, Int.toNat_natCast]; exact HU.out)
                rw [show dstA false ⟨(q0 : Int), x1, x2, (q3 : Int)⟩ = (q3 : Int) from rfl, Int.toNat_natCast] at h
                exact h
            · rw [hU] at hcy
              have HCL : Hid (SClo false M4 ⟨(q0 : Int), x1, x2, (q3 : Int)⟩) := fun _ => by
                rw [show dstA false ⟨(q0 : Int), x1, x2, (q3 : Int)⟩ = (q3 : Int) from rfl, Int.toNat_natCast, hU]
              clear hU
              go_wp2_with fail
              go_roundg (n - (j + 1))
              case measure => rw [HG2.out]; omega
              case rel => exact ⟨j + 1, more, M4, by omega, rfl, by go_num, rfl, HM4.out, HP4.out.keep (a := ⟨(q0 : Int), x1, x2, (q3 : Int)⟩) HCL.out (fun a' h => by
                  rw [HTK.out] at h
                  rcases List.mem_append.1 h with h4 | h4
                  · exact .inl h4
                  · exact .inr (by simpa using h4)), HPB4.out, HF4.out⟩
        · go_wp2_with fail
          go_roundg (2 * cf M4 + (if more then 1 else 0))
          case measure =>
            have h1 := HP4.out.2.1
            rw [HG3.out]
            cases more
            · simp; omega
            · have h2 := HP4.out.2.2.1 rfl
              simp; omega
          case rel => exact ⟨more, M4, rfl, HM4.out, HP4.out.1, (fun hb a ha => by
              obtain ⟨e, h⟩ := HP4.out.2.2.2 hb
              rw [e]
              exact h a (by rw [List.take_of_length_le (by rw [hn.out]; omega)]; exact ha)), rfl, HPB4.out, HF4.out⟩
set_option maxHeartbeats 4000000 in
set_option maxRecDepth 100000 in
theorem spread_back (w₀ w : World) (v : Value) (F : PFst) (g : Nat) (M : List Bool) (S : Nat) (S0 : Int → Prop) (hw : Below w₀.heap.size w₀ w) (hv : RdF w₀ v F) (hg0 : w₀.heap.size ≤ g) (hM : Bls w g M) (hI : SInv F.arcs true S S0 M) (h0 : ∀ q, S0 q → 0 ≤ q) (hR : Right F) (hS : F.states = (S : Int)) :
    Calls Try.prog 59 #[v, .slice (some ⟨g, 0, none⟩) S S, .bool true] w fun e w' => e = .returned (.slice (some ⟨g, 0, none⟩) S S) ∧ ∃ M', Bls w' g M' ∧ M'.length = S ∧ (∀ q : Nat, M'.getD q false = true ↔ Rch F.arcs true S0 (q : Int)) ∧ Frm w.heap.size (fun k => k = g) w w' := by
  obtain ⟨va, vf, rfl, ha, hf⟩ := hv
  obtain ⟨A, n, c, rfl, h1, h2, hn, hr⟩ := ha.op
  obtain ⟨A', n', c', rfl, h1', h2', hn', hr'⟩ := hf.op
  have HR := Lib.hid hR
  have HW := Lib.hid hw
  have HM0 := Lib.hid hM
  have HI0 := Lib.hid hI
  have HG0 := Lib.hid hg0
  have HS0 := Lib.hid h0
  have HSN := Lib.hid hS
  have HLF : Hid (∀ a, a ∈ F.arcs → 0 ≤ srcA true a ∧ 0 ≤ dstA true a ∧ dstA true a < S) := fun a h => by
    have := hR.2.1 a h
    simp only [srcA, dstA, if_true]
    omega
  rw [hS]
  clear hf ha hr' hw hM hI hg0 h0 hS hR
  go_enter Try.func59, Try.ntmps59
  go_wp2_with fail
  generalize hw1 : World.alloc w _ = W
  obtain ⟨B, hB⟩ : ∃ B, w.heap.size = B := ⟨_, rfl⟩
  have HBW : Hid (Below w.heap.size w W) := by rw [← hw1]; exact (Below.refl _ _).alloc (Nat.le_refl _) _
  have HP : Hid (FBlk W B (.int .i64 (S : Int)) (.slice A n c) (.slice A' n' c')) := by rw [← hw1, ← hB]; exact heap_alloc_new w _
  have HMW : Hid (Bls W g M) := by rw [← hw1]; exact HM0.out.alloc _
  have HFW : Hid (Frm w.heap.size (fun k => k = g) w W) := Frm.of_below HBW.out
  have HGB : Hid (g < B) := by have := HM0.out.lt; unfold Hid; omega
  have HBE := Lib.hid hB
  rw [hB]
  clear hw1 hB HBW
  go_loopg [7] (2 * cf M + 1) (fun gk v7 wr => ∃ (b : Bool) (M1 : List Bool), v7 = .bool b ∧ Hid (Bls wr g M1) ∧ Hid (SInv F.arcs true S S0 M1) ∧ Hid (b = false → ∀ a, a ∈ F.arcs → SClo true M1 a) ∧ Hid (gk = 2 * cf M1 + (if b then 1 else 0)) ∧ Hid (FBlk wr B (.int .i64 (S : Int)) (.slice A n c) (.slice A' n' c')) ∧ Hid (Frm w.heap.size (fun k => k = g) w wr))
  case atStart => exact ⟨true, M, rfl, HMW.out, HI0.out, (fun h => by cases h), rfl, HP.out, HFW.out⟩
  case round =>
    obtain ⟨b, M3, rfl, HM3, HI3, HC3, HG3, HP3, HF3⟩ := hrel
    cases b
    · go_wp2_with fail
      go_ret
      exact ⟨rfl, M3, HM3.out, HI3.out.len, HI3.out.done HLF.out HS0.out (HC3.out trivial), HF3.out⟩
    · obtain ⟨p0, c1, p2, _, _, _⟩ := HP3.out.facts
      have hgl := HM3.out.lt
      have hpl := HP3.out.lt
      go_wp2_with fail
      clear p0 c1 p2 hgl hpl
      go_loopg [7, 8] n (fun gk v7 v8 wx => ∃ (j : Nat) (more : Bool) (M4 : List Bool), j ≤ n ∧ gk = n - j ∧ v8 = .int .i64 j ∧ v7 = .bool more ∧ Hid (Bls wx g M4) ∧ Hid (PassR F.arcs true S S0 M3 (· ∈ F.arcs.take j) M4 more) ∧ Hid (FBlk wx B (.int .i64 (S : Int)) (.slice A n c) (.slice A' n' c')) ∧ Hid (Frm w.heap.size (fun k => k = g) w wx))
      case atStart => exact ⟨0, false, M3, Nat.zero_le _, rfl, rfl, rfl, HM3.out, (PassR.start HI3.out).weaken (fun a h => by simp at h), HP3.out, HF3.out⟩
      case round =>
        obtain ⟨j, more, M4, hj, hg2, rfl, rfl, HM4, HP4, HPB4, HF4⟩ := hrel
        have HG2 := Lib.hid hg2
        clear hg2 HM3
        have hf4 : Below w₀.heap.size w₀ wr := HW.out.trans (HF4.out.below (by have := HW.out.size; exact this) (fun k hk e => by have := HG0.out; omega))
        obtain ⟨p0, c1, p2, _, _, _⟩ := HPB4.out.facts
        have hpl := HPB4.out.lt
        have hgl := HM4.out.lt
        by_cases hlt4 : j < n
        · obtain ⟨bb, off, x0, x1, x2, x3, rfl, hbb, hdr, e0, e1, e2, e3⟩ := (hr.out j hlt4).below hf4
          have HAM : Hid ((⟨x0, x1, x2, x3⟩ : PArc) ∈ F.arcs) := List.mem_of_mem_drop (by rw [hdr.out]; exact List.mem_cons_self)
          have HTK : Hid (F.arcs.take (j + 1) = F.arcs.take j ++ [⟨x0, x1, x2, x3⟩]) := take_of_drop hdr.out
          obtain ⟨y0, y1, y2, y3⟩ := HR.out.2.1 _ HAM.out
          simp only at y0 y1 y2 y3
          obtain ⟨q0, rfl⟩ : ∃ q : Nat, x0 = (q : Int) := ⟨x0.toNat, by omega⟩
          obtain ⟨q3, rfl⟩ : ∃ q : Nat, x3 = (q : Int) := ⟨x3.toNat, by omega⟩
          have hq0 : q0 < S := by have := HSN.out; omega
          have hq3 : q3 < S := by have := HSN.out; omega
          have hz0 : (0 : Int) ≤ (q0 : Int) := by omega
          have hz3 : (0 : Int) ≤ (q3 : Int) := by omega
          have hy0 : (q0 : Int) < (S : Int) := by omega
          have hy3 : (q3 : Int) < (S : Int) := by omega
          clear y0 y1 y2 y3 hf4
          have hck := HM4.out.cell (j := q3) (by rw [HP4.out.1.len]; omega)
          have hcy := HM4.out.cell (j := q0) (by rw [HP4.out.1.len]; omega)
          have hfy := HM4.out.free q0
          cases hT : M4.getD q3 false
          · rw [hT] at hck
            have HCL : Hid (SClo true M4 ⟨(q0 : Int), x1, x2, (q3 : Int)⟩) := fun h => by
              rw [show srcA true ⟨(q0 : Int), x1, x2, (q3 : Int)⟩ = (q3 : Int) from rfl, Int.toNat_natCast, hT] at h
              cases h
            clear hT
            go_wp2_with fail
            go_roundg (n - (j + 1))
            case measure => rw [HG2.out]; omega
            case rel => exact ⟨j + 1, more, M4, by omega, rfl, by go_num, rfl, HM4.out, HP4.out.keep (a := ⟨(q0 : Int), x1, x2, (q3 : Int)⟩) HCL.out (fun a' h => by
                rw [HTK.out] at h
                rcases List.mem_append.1 h with h4 | h4
                · exact .inl h4
                · exact .inr (by simpa using h4)), HPB4.out, HF4.out⟩
          · rw [hT] at hck
            have HT := Lib.hid hT
            clear hT
            cases hU : M4.getD q0 false
            · rw [hU] at hcy
              have HU := Lib.hid hU
              clear hU
              go_wp2_with fail
              go_roundg (n - (j + 1))
              case measure => rw [HG2.out]; omega
              case rel =>
                refine ⟨j + 1, true, M4.set q0 true, by omega, rfl, by go_num, rfl, Bls.set_ HM4.out _, ?_, (Below.heap_setCell _ ⟨g, _, none⟩ _ B (by have := HGB.out; simp only; omega)).trans HPB4.out, HF4.out.setCell ⟨g, _, none⟩ _ (.inl rfl)⟩
                have h := HP4.out.step HLF.out (D' := (· ∈ F.arcs.take (j + 1))) HAM.out (by rw [show srcA true ⟨(q0 : Int), x1, x2, (q3 : Int)⟩ = (q3 : Int) from rfl, Int.toNat_natCast]; exact HT.out) (by rw [show dstA true ⟨(q0 : Int), x1, x2, (q3 : Int)⟩ = (q0 : Int) from rfl, Int.toNat_natCast]; exact HU.out)
                rw [show dstA true ⟨(q0 : Int), x1, x2, (q3 : Int)⟩ = (q0 : Int) from rfl, Int.toNat_natCast] at h
                exact h
            · rw [hU] at hcy
              have HCL : Hid (SClo true M4 ⟨(q0 : Int), x1, x2, (q3 : Int)⟩) := fun _ => by
                rw [show dstA true ⟨(q0 : Int), x1, x2, (q3 : Int)⟩ = (q0 : Int) from rfl, Int.toNat_natCast, hU]
              clear hU
              go_wp2_with fail
              go_roundg (n - (j + 1))
              case measure => rw [HG2.out]; omega
              case rel => exact ⟨j + 1, more, M4, by omega, rfl, by go_num, rfl, HM4.out, HP4.out.keep (a := ⟨(q0 : Int), x1, x2, (q3 : Int)⟩) HCL.out (fun a' h => by
                  rw [HTK.out] at h
                  rcases List.mem_append.1 h with h4 | h4
                  · exact .inl h4
                  · exact .inr (by simpa using h4)), HPB4.out, HF4.out⟩
        · go_wp2_with fail
          go_roundg (2 * cf M4 + (if more then 1 else 0))
          case measure =>
            have h1 := HP4.out.2.1
            rw [HG3.out]
            cases more
            · simp; omega
            · have h2 := HP4.out.2.2.1 rfl
              simp; omega
          case rel => exact ⟨more, M4, rfl, HM4.out, HP4.out.1, (fun hb a ha => by
              obtain ⟨e, h⟩ := HP4.out.2.2.2 hb
              rw [e]
              exact h a (by rw [List.take_of_length_le (by rw [hn.out]; omega)]; exact ha)), rfl, HPB4.out, HF4.out⟩
end Go.Proofs.Ytmejihlplbeekaa
