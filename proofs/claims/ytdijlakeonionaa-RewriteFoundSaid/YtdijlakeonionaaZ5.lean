/-
  The part of older texts that this seat needs (printed by shake.py): U2 UP2
-/
import Derived.Test.YtdijlakeonionaaZ4
import Derived.Test.YtdijlakeonionaaZ3
/-
  Useful of fst and of the reference 20.
-/
namespace Go.Proofs.Ytdijlakeonionaa
open Go.ChangeShapes Go.WideShapes Go.ChangeAt Go.RowKit
noncomputable def useB (F : PFst) (q : Nat) : Bool := @decide (Rch F.arcs false (fun y => y ∈ [(0 : Int)]) (q : Int) ∧ Rch F.arcs true (fun y => y ∈ F.final) (q : Int)) (Classical.propDecidable _)
theorem useB_iff {F : PFst} {q : Nat} : useB F q = true ↔ Rch F.arcs false (· ∈ [(0 : Int)]) (q : Int) ∧ Rch F.arcs true (· ∈ F.final) (q : Int) := by
  unfold useB
  exact @decide_eq_true_iff _ (Classical.propDecidable _)
noncomputable def useK (F : PFst) (k : Nat) : List Int := ((List.range k).filter (useB F)).map fun (q : Nat) => (q : Int)
/-- the useful states -/
noncomputable def usefulL (F : PFst) : List Int := useK F F.states.toNat
theorem useK_succ (F : PFst) (k : Nat) : useK F (k + 1) = useK F k ++ if useB F k then [(k : Int)] else [] := by
  unfold useK
  rw [List.range_succ, List.filter_append, List.map_append]
  congr 1
  cases h : useB F k <;> simp [h]
theorem useK_len (F : PFst) (k : Nat) : (useK F k).length ≤ k := by
  unfold useK
  rw [List.length_map]
  exact Nat.le_trans (List.length_filter_le _ _) (by simp)
set_option maxHeartbeats 4000000 in
set_option maxRecDepth 100000 in
theorem useful_any (v : Value) (F : PFst) (w : World) (hv : RdF w v F) (hF : FinOk F) (hFl : F.final.length ≤ 1000000) :
    Calls Try.prog 77 #[v] w fun e w' => (∃ v', e = .returned v' ∧ OwnI w' w.heap.size v' (usefulL F)) ∧ Below w.heap.size w w' := by
  obtain ⟨va, vf, rfl, ha, hf⟩ := hv
  obtain ⟨A, n, c, rfl, _, _, _, _⟩ := ha.op
  obtain ⟨A', n', c', rfl, _, _, _, _⟩ := hf.op
  have HA := Lib.hid ha
  have HFI := Lib.hid hf
  have HF := Lib.hid hF
  have HFL := Lib.hid hFl
  obtain ⟨S, hS⟩ : ∃ S : Nat, F.states = (S : Int) := ⟨F.states.toNat, by have := hF.right.1; omega⟩
  have hS2 : S ≤ 4096 := by have := hF.st; omega
  have hS1 : 1 ≤ S := by have := hF.right.1; omega
  have HSN := Lib.hid hS
  have HAF : Hid (∀ a, a ∈ F.arcs → 0 ≤ srcA false a ∧ srcA false a < S ∧ 0 ≤ dstA false a ∧ dstA false a < S) := fun a h => by
    have := hF.right.2.1 a h
    simp only [srcA, dstA, if_false, Bool.false_eq_true]
    omega
  have HAB : Hid (∀ a, a ∈ F.arcs → 0 ≤ srcA true a ∧ srcA true a < S ∧ 0 ≤ dstA true a ∧ dstA true a < S) := fun a h => by
    have := hF.right.2.1 a h
    simp only [srcA, dstA, if_true]
    omega
  have HFB : Hid (∀ q, q ∈ F.final → 0 ≤ q ∧ q < S) := fun q h => by have := hF.right.2.2 q h; omega
  rw [hS]
  clear ha hf hF hFl hS
  go_enter Try.func77, Try.ntmps77
  go_wp2_with fail
  generalize hW1 : World.alloc w _ = W1
  obtain ⟨B, hB⟩ : ∃ B, w.heap.size = B := ⟨_, rfl⟩
  have HB1 : Hid (Below w.heap.size w W1) := by rw [← hW1]; exact (Below.refl _ _).alloc (Nat.le_refl _) _
  have HP1 : Hid (FBlk W1 B (.int .i64 (S : Int)) (.slice A n c) (.slice A' n' c')) := by rw [← hW1, ← hB]; exact heap_alloc_new w _
  have hs1 : W1.heap.size = B + 1 := by rw [← hW1, ← hB]; simp
  generalize hW2 : World.alloc W1 _ = W2
  have HR2 : Hid (RdI W2 (.slice (some ⟨B + 1, 0, none⟩) 1 1) [0]) := by
    rw [← hW2, ← hs1]
    refine ⟨_, 1, rfl, by simp, by decide, by simp, fun _ => ⟨W1.heap.size, 0, rfl, by simp, fun j u hu => ?_⟩⟩
    match j, hu with
    | 0, hu => simp at hu; subst hu; simp [go_sem]
  have HX2 : Hid (Below W1.heap.size W1 W2) := by rw [← hW2]; exact (Below.refl _ _).alloc (Nat.le_refl _) _
  have HB2 : Hid (Below w.heap.size w W2) := bchain HB1.out HX2.out
  have HP2 := Lib.hid (HP1.out.below HX2.out)
  have HBE := Lib.hid hB
  rw [hB]
  clear hW1 hW2 hs1 hB HB1 HP1 HX2
  refine (reach_fwd W2 S _ _ F.arcs [0] HR2.out (HA.out.below HB2.out) HAF.out (fun q hq => by have : q = 0 := by simpa using hq
                                                                                               omega) (by omega) (by have := HF.out.al; omega) (by simp)).mono ?_
  rintro e W3 ⟨⟨ga, rfl, Ma, hma, hla, hra⟩, hb⟩
  have HMA := Lib.hid hma
  have HLA := Lib.hid hla
  have HRA := Lib.hid hra
  have HB3 : Hid (Below w.heap.size w W3) := bchain HB2.out hb
  have HP3 := Lib.hid (HP2.out.below hb)
  clear hma hla hra hb HR2 HB2 HP2
  obtain ⟨p0, p1, p2, _, _, _⟩ := HP3.out.facts
  have hpl := HP3.out.lt
  go_wp2_with fail
  clear p0 p1 p2 hpl
  refine (reach_back W3 S _ _ F.arcs F.final (HFI.out.below HB3.out) (HA.out.below HB3.out) HAB.out HFB.out (by omega) (by have := HF.out.al; omega) HFL.out).mono ?_
  rintro e W4 ⟨⟨gb, rfl, Mb, hmb, hlb, hrb⟩, hb⟩
  have HMB := Lib.hid hmb
  have HLB := Lib.hid hlb
  have HRB := Lib.hid hrb
  have HMA4 := Lib.hid (HMA.out.below hb)
  have HB4 : Hid (Below w.heap.size w W4) := bchain HB3.out hb
  have HP4 := Lib.hid (HP3.out.below hb)
  clear hmb hlb hrb hb HB3 HP3 HMA
  have HUB : Hid (∀ q : Nat, useB F q = (Ma.getD q false && Mb.getD q false)) := fun q => by
    rw [Bool.eq_iff_iff, useB_iff, Bool.and_eq_true, HRA.out, HRB.out]
  obtain ⟨p0, p1, p2, _, _, _⟩ := HP4.out.facts
  have hpl := HP4.out.lt
  go_wp2_with fail
  clear p0 p1 p2 hpl HRA HRB
  go_loopg [5, 22] S (fun gk v5 v22 wr => ∃ (k : Nat) (Ao : Option Addr) (no co : Nat), k ≤ S ∧ gk = S - k ∧ v22 = .int .i64 k ∧ v5 = .slice Ao no co ∧ Hid (OwnI wr W4.heap.size (.slice Ao no co) (useK F k)) ∧ Hid (Below W4.heap.size W4 wr))
  case atStart => exact ⟨0, none, 0, 0, Nat.zero_le _, rfl, rfl, rfl, (show OwnI W4 W4.heap.size (.slice none 0 0) [] from World.ownsRow_nil _ _ _ _), Below.refl _ _⟩
  case round =>
    obtain ⟨k, Ao, no, co, hk, hg, rfl, rfl, HO, HBR⟩ := hrel
    have HG := Lib.hid hg
    clear hg
    by_cases hlt : k < S
    · have hma := HMA4.out.below HBR.out
      have hmb := HMB.out.below HBR.out
      have hca := hma.cell (j := k) (by rw [HLA.out]; exact hlt)
      have hcb := hmb.cell (j := k) (by rw [HLB.out]; exact hlt)
      have hal := hma.lt
      have hbl := hmb.lt
      clear hma hmb
      have HUS : Hid (useK F (k + 1) = useK F k ++ if (Ma.getD k false && Mb.getD k false) = true then [(k : Int)] else []) := by rw [Hid, useK_succ, HUB.out]
      have hul := useK_len F k
      obtain ⟨ba, hba⟩ : ∃ b, Ma.getD k false = b := ⟨_, rfl⟩
      obtain ⟨bb, hbb⟩ : ∃ b, Mb.getD k false = b := ⟨_, rfl⟩
      rw [hba, hbb] at HUS
      rw [hba] at hca
      rw [hbb] at hcb
      clear hba hbb
      have hlen : no = (useK F k).length := HO.out.len
      subst hlen
      cases hab : (ba && bb)
      · have HUS2 : Hid (useK F (k + 1) = useK F k) := by rw [Hid, HUS.out, hab]; simp
        cases ba
        · go_wp2_with fail
          go_roundg (S - (k + 1))
          case measure => rw [HG.out]; omega
          case rel => exact ⟨k + 1, _, _, _, by omega, rfl, by go_num, rfl, by rw [HUS2.out]; exact HO.out, HBR.out⟩
        · obtain rfl : bb = false := by simpa using hab
          go_wp2_with fail
          go_roundg (S - (k + 1))
          case measure => rw [HG.out]; omega
          case rel => exact ⟨k + 1, _, _, _, by omega, rfl, by go_num, rfl, by rw [HUS2.out]; exact HO.out, HBR.out⟩
      · have HUS2 : Hid (useK F (k + 1) = useK F k ++ [(k : Int)]) := by rw [Hid, HUS.out, hab]; simp
        simp only [Bool.and_eq_true] at hab
        obtain ⟨rfl, rfl⟩ := hab
        have hl1 : (useK F k).length ≤ 1000000 := by omega
        have hsz : W4.heap.size ≤ wr.heap.size := HBR.out.size
        go_wp2_with (at_builtin; refine wpList_app_int rfl (.tmp 35) (.tmp 37) rfl W4.heap.size (.slice Ao (useK F k).length co) (useK F k) rfl HO.out (k : Int) (useK F k).length (Lib.hid rfl) hl1 hsz rfl ?_; intro g7 c7 w7 ho7 hgg7 hg7; have HO7 := Lib.hid ho7; have HB7 : Hid (Below W4.heap.size W4 w7) := HBR.out.grown hg7 hsz (fun j hj => (World.ownsRow.lt HO.out j hj).1); clear ho7 hgg7 hg7)
        go_roundg (S - (k + 1))
        case measure => rw [HG.out]; omega
        case rel => exact ⟨k + 1, _, _, _, by omega, rfl, by go_num, rfl, by rw [HUS2.out]; exact HO7.out, HB7.out⟩
    · have hkS : k = S := by omega
      have HUL : Hid (usefulL F = useK F k) := by rw [Hid, usefulL, HSN.out, hkS]; rfl
      go_wp2_with fail
      go_ret
      exact ⟨⟨_, rfl, by rw [HUL.out]; exact own_base HO.out HB4.out.size⟩, bchain HB4.out HBR.out⟩
end Go.Proofs.Ytdijlakeonionaa

/-
  Trim, in plain words.
-/
namespace Go.Proofs.Ytdijlakeonionaa
/-- how many useful states there are from 1 on, below q -/
noncomputable def cntU (F : PFst) (q : Nat) : Nat := ((List.range q).filter fun r => useB F r && decide (1 ≤ r)).length
noncomputable def numU (F : PFst) (q : Nat) : Int := if q = 0 then 0 else 1 + (cntU F q : Int)
noncomputable def trimA (F : PFst) (L : List PArc) : List PArc := (L.filter fun a => useB F a.fr.toNat && useB F a.tgt.toNat).map fun a => ⟨numU F a.fr.toNat, a.inp, a.out, numU F a.tgt.toNat⟩
noncomputable def trimE (F : PFst) (l : List Int) : List Int := (l.filter fun q => useB F q.toNat).map fun q => numU F q.toNat
noncomputable def trimF (F : PFst) : PFst := ⟨1 + (cntU F F.states.toNat : Int), trimA F F.arcs, trimE F F.final⟩
theorem cntU_succ (F : PFst) (q : Nat) : cntU F (q + 1) = cntU F q + if useB F q = true ∧ 1 ≤ q then 1 else 0 := by
  unfold cntU
  rw [List.range_succ, List.filter_append, List.length_append]
  congr 1
  by_cases h1 : useB F q = true
  · by_cases h2 : 1 ≤ q <;> simp [h1, h2]
  · simp [h1]
theorem cntU_le (F : PFst) (q : Nat) : cntU F q ≤ q := by
  unfold cntU
  exact Nat.le_trans (List.length_filter_le _ _) (by simp)
theorem trimA_snoc (F : PFst) (L : List PArc) (a : PArc) : trimA F (L ++ [a]) = trimA F L ++ if useB F a.fr.toNat && useB F a.tgt.toNat then [⟨numU F a.fr.toNat, a.inp, a.out, numU F a.tgt.toNat⟩] else [] := by
  simp only [trimA, List.filter_append, List.map_append, List.filter_cons, List.filter_nil]
  split <;> rfl
theorem trimE_snoc (F : PFst) (l : List Int) (q : Int) : trimE F (l ++ [q]) = trimE F l ++ if useB F q.toNat then [numU F q.toNat] else [] := by
  simp only [trimE, List.filter_append, List.map_append, List.filter_cons, List.filter_nil]
  split <;> rfl
theorem trimA_len (F : PFst) (L : List PArc) : (trimA F L).length ≤ L.length := by
  unfold trimA
  rw [List.length_map]
  exact List.length_filter_le _ _
theorem trimE_len (F : PFst) (l : List Int) : (trimE F l).length ≤ l.length := by
  unfold trimE
  rw [List.length_map]
  exact List.length_filter_le _ _
theorem mem_useK {F : PFst} {k : Nat} {x : Int} : x ∈ useK F k ↔ ∃ q : Nat, x = q ∧ q < k ∧ useB F q = true := by
  unfold useK
  simp only [List.mem_map, List.mem_filter, List.mem_range]
  constructor
  · rintro ⟨q, ⟨h1, h2⟩, h3⟩; exact ⟨q, h3.symm, h1, h2⟩
  · rintro ⟨q, h1, h2, h3⟩; exact ⟨q, ⟨h2, h3⟩, h1.symm⟩
/-- the element at a place, and those before it -/
theorem useK_at {F : PFst} {k j : Nat} {x : Int} (h : (useK F k)[j]? = some x) : ∃ q : Nat, x = q ∧ q < k ∧ useB F q = true ∧ (useK F k).take j = useK F q := by
  induction k with
  | zero => simp [useK] at h
  | succ k ih =>
    rw [useK_succ] at h ⊢
    by_cases hj : j < (useK F k).length
    · rw [List.getElem?_append_left hj] at h
      obtain ⟨q, h1, h2, h3, h4⟩ := ih h
      exact ⟨q, h1, by omega, h3, by rw [List.take_append_of_le_length (by omega)]; exact h4⟩
    · rw [List.getElem?_append_right (by omega)] at h
      cases hu : useB F k
      · rw [hu] at h; simp at h
      · rw [hu] at h
        simp only [if_true] at h
        have hj2 : j - (useK F k).length = 0 := by
          have := (List.getElem?_eq_some_iff.1 h).1
          simp at this
          omega
        rw [hj2] at h
        simp at h
        refine ⟨k, h.symm, by omega, hu, ?_⟩
        rw [show j = (useK F k).length by omega, List.take_left]
/-- how many of a list are not 0 -/
def nz (l : List Int) : Nat := (l.filter fun x => decide (x ≠ 0)).length
theorem nz_snoc (l : List Int) (x : Int) : nz (l ++ [x]) = nz l + if x = 0 then 0 else 1 := by
  unfold nz
  rw [List.filter_append, List.length_append]
  congr 1
  by_cases h : x = 0 <;> simp [h]
theorem nz_useK (F : PFst) (k : Nat) : nz (useK F k) = cntU F k := by
  induction k with
  | zero => simp [nz, useK, cntU]
  | succ k ih =>
    rw [useK_succ, cntU_succ]
    cases hu : useB F k
    · simp [ih]
    · simp only [if_true]
      rw [nz_snoc, ih]
      by_cases hk : k = 0
      · subst hk; simp
      · have h1 : ¬ (k : Int) = 0 := by omega
        have h2 : 1 ≤ k := by omega
        rw [if_neg h1, if_pos ⟨trivial, h2⟩]
/-- the numbers that were given to the first states of a list -/
noncomputable def numF (F : PFst) (l : List Int) : Int → Option Int := fun y => if y ∈ l then some (numU F y.toNat) else none
theorem numF_snoc (F : PFst) (l : List Int) (x : Int) : put (numF F l) x (numU F x.toNat) = numF F (l ++ [x]) := by
  funext y
  unfold put numF
  by_cases h : y = x
  · subst h; simp
  · simp [h]
theorem numF_nil (F : PFst) : (fun _ => none : Int → Option Int) = numF F [] := by funext y; simp [numF]
theorem numF_at (F : PFst) {k : Nat} {q : Nat} (hq : q < k) : numF F (useK F k) (q : Int) = if useB F q then some (numU F q) else none := by
  unfold numF
  by_cases h : useB F q = true
  · rw [if_pos (mem_useK.2 ⟨q, rfl, hq, h⟩), if_pos h, Int.toNat_natCast]
  · rw [if_neg, if_neg h]
    rintro hm
    obtain ⟨q', h1, _, h3⟩ := mem_useK.1 hm
    have : q = q' := by omega
    subst this
    exact h h3
theorem numU_bd (F : PFst) (q : Nat) : 0 ≤ numU F q ∧ numU F q ≤ 1 + (q : Int) := by
  unfold numU
  have := cntU_le F q
  split <;> omega
end Go.Proofs.Ytdijlakeonionaa

