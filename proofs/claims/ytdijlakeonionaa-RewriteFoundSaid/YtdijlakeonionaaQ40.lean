/-
  What a rule takes away, in plain words; langdocref01.Up.
-/
import Derived.Test.YtdijlakeonionaaQ39
namespace Go.Proofs.Ytdijlakeonionaa
open Go.ChangeShapes Go.WideShapes Go.ChangeAt Go.RowKit
/-- how many of the first k parts of a rule take this segment away -/
def zK (fr tto : List Int) (x : Int) : Nat → Nat
  | 0 => 0
  | k + 1 => zK fr tto x k + if (fr.getD k 0 = x ∧ tto.getD k 0 = 0) then 1 else 0
theorem zK_parts {fr tto : List Int} {x : Int} (hl : tto.length = fr.length) (hn : fr.Nodup) (hx : hasB fr x = true) : (∀ m, m ≤ fr.length → zK fr tto x m ≤ 1) ∧ zK fr tto x fr.length = if toF fr tto x = 0 then 1 else 0 := by
  obtain ⟨k, _, h2, h3, hk⟩ := idx_to hl hx
  have hne : ∀ j, j < fr.length → j ≠ k → fr.getD j 0 ≠ x := by
    intro j hj hjk he
    rw [← hk] at he
    simp only [List.getD_eq_getElem?_getD, List.getElem?_eq_getElem hj, List.getElem?_eq_getElem h2, Option.getD_some] at he
    exact hjk ((List.getElem_inj hn).1 he)
  have lo : ∀ m, m ≤ k → zK fr tto x m = 0 := by
    intro m
    induction m with
    | zero => intro _; rfl
    | succ m ih => intro h; rw [zK, ih (by omega), if_neg (fun c => hne m (by omega) (by omega) c.1)]
  have hi : ∀ m, k < m → m ≤ fr.length → zK fr tto x m = if toF fr tto x = 0 then 1 else 0 := by
    intro m
    induction m with
    | zero => intro h; omega
    | succ m ih =>
      intro h1 h4
      rw [zK]
      by_cases he : m = k
      · subst he
        rw [lo m (Nat.le_refl _), h3, hk]
        simp
      · rw [if_neg (fun (c : fr.getD m 0 = x ∧ tto.getD m 0 = 0) => hne m (by omega) he c.1), Nat.add_zero]
        exact ih (by omega) (by omega)
  refine ⟨fun m hm => ?_, hi fr.length h2 (Nat.le_refl _)⟩
  by_cases hmk : m ≤ k
  · rw [lo m hmk]; omega
  · rw [hi m (by omega) hm]; split <;> omega
/-- does the segment at this index go -/
def dlB (R : PRule) (l : List Int) (s : Int) : Bool := toF R.fr R.tto (l.getD s.toNat 0) == 0
def dS (R : PRule) (l : List Int) (S : List Int) : Nat := S.countP (dlB R l)
theorem dS_le (R : PRule) (l S : List Int) : dS R l S ≤ S.length := List.countP_le_length
theorem dS_at (R : PRule) (l : List Int) {S : List Int} {i : Nat} {s : Int} {r : List Int} (h : S.drop i = s :: r) : dS R l (S.take (i + 1)) = dS R l (S.take i) + if toF R.fr R.tto (l.getD s.toNat 0) = 0 then 1 else 0 := by
  have e : S.take (i + 1) = S.take i ++ [s] := by rw [List.take_add_one, drop_head h]; rfl
  rw [e, dS, dS, List.countP_append]
  simp [dlB, List.countP_cons]
theorem dS_apply (I : List PPh) (R : PRule) {l : List Int} (hnz : ∀ x ∈ l, x ≠ 0) : ∀ k : Nat, k ≤ l.length → (applyK I R l k).length + dS R l (sitesK I R l k) = k := by
  intro k
  induction k with
  | zero => intro _; simp [applyK, sitesK, dS]
  | succ k ih =>
    intro h
    have hi := ih (by omega)
    have hx : l.getD k 0 ≠ 0 := by
      rw [List.getD_eq_getElem?_getD, List.getElem?_eq_getElem (by omega : k < l.length)]
      exact hnz _ (List.getElem_mem _)
    rw [applyK_succ, sitesK_succ, dS, List.countP_append, List.length_append, outB]
    rw [dS] at hi
    cases hs : siteB I R l k
    · rw [if_neg (by decide), if_neg (by decide), sym, if_neg hx]
      simp only [List.length_singleton, List.countP_nil]
      omega
    · rw [if_pos rfl, if_pos rfl, sym]
      by_cases ht : toF R.fr R.tto (l.getD k 0) = 0
      · rw [if_pos ht]
        have hb : dlB R l (k : Int) = true := by rw [dlB, Int.toNat_natCast, ht]; rfl
        simp only [List.length_nil, List.countP_cons, List.countP_nil, hb, if_pos]
        omega
      · rw [if_neg ht]
        have hb : dlB R l (k : Int) = false := by rw [dlB, Int.toNat_natCast]; exact beq_eq_false_iff_ne.2 ht
        simp only [List.length_singleton, List.countP_cons, List.countP_nil, hb, if_neg, Bool.false_eq_true, not_false_eq_true]
        omega
theorem sites_mem {I : List PPh} {R : PRule} {l : List Int} {s : Int} (h : s ∈ sitesF I R l) : ∃ k : Nat, s = (k : Int) ∧ k < l.length ∧ siteB I R l k = true := by
  simp only [sitesF, sitesK, List.mem_map, List.mem_filter, List.mem_range] at h
  obtain ⟨k, ⟨h1, h2⟩, rfl⟩ := h
  exact ⟨k, rfl, h1, h2⟩
theorem sites_up (I : List PPh) (R : PRule) (l : List Int) : (sitesF I R l).Pairwise (· < ·) := by
  rw [sitesF, sitesK, List.pairwise_map]
  exact (List.pairwise_lt_range.filter _).imp (fun h => by omega)
theorem sites_none {I : List PPh} {R : PRule} {l : List Int} (h : sitesF I R l = []) (hnz : ∀ x ∈ l, x ≠ 0) : applyF I R l = l := by
  have hno : ∀ k, k < l.length → siteB I R l k = false := by
    intro k hk
    cases hs : siteB I R l k
    · rfl
    · exfalso
      have : (k : Int) ∈ sitesF I R l := by
        simp only [sitesF, sitesK, List.mem_map, List.mem_filter, List.mem_range]
        exact ⟨k, ⟨hk, hs⟩, rfl⟩
      rw [h] at this
      exact absurd this (by simp)
  have key : ∀ k : Nat, k ≤ l.length → applyK I R l k = l.take k := by
    intro k
    induction k with
    | zero => intro _; rfl
    | succ k ih =>
      intro hk
      have hx : l.getD k 0 ≠ 0 := by
        rw [List.getD_eq_getElem?_getD, List.getElem?_eq_getElem (by omega : k < l.length)]
        exact hnz _ (List.getElem_mem _)
      rw [applyK_succ, ih (by omega), outB, hno k (by omega), if_neg (by decide), sym, if_neg hx, List.take_add_one, List.getD_eq_getElem?_getD, List.getElem?_eq_getElem (by omega : k < l.length)]
      rfl
  rw [applyF, key _ (Nat.le_refl _), List.take_length]
/-- all that the statement asks of the sites -/
structure ShortOk (R : PRule) (l S out : List Int) : Prop where
  mem : ∀ s ∈ S, ∃ k : Nat, s = (k : Int) ∧ k < l.length ∧ hasB R.fr (l.getD k 0) = true
  up : S.Pairwise (· < ·)
  len : out.length + dS R l S = l.length
  none : S = [] → out = l
theorem short_ok {I : List PPh} {R : PRule} {l : List Int} (hnz : ∀ x ∈ l, x ≠ 0) : ShortOk R l (sitesF I R l) (applyF I R l) :=
  ⟨fun s hs => by obtain ⟨k, h1, h2, h3⟩ := sites_mem hs; exact ⟨k, h1, h2, site_has h3⟩, sites_up I R l, dS_apply I R hnz _ (Nat.le_refl _), fun h => sites_none h hnz⟩
theorem rhas_true (v : Value) (l : List Int) (x : Int) (w : World) (hv : RdI w v l) (h : hasB l x = true) :
    Calls Try.prog 29 #[v, .int .i64 x] w fun e w' => e = .returned (.bool true) ∧ Below w.heap.size w w' :=
  (rhas_any v l x w hv).mono (fun e w' he => by obtain ⟨rfl, rfl⟩ := he; exact ⟨by rw [h], Below.refl _ _⟩)
set_option maxHeartbeats 4000000 in
set_option maxRecDepth 100000 in
theorem up_any (v : Value) (l : List Int) (w : World) (hv : RdI w v l) (hup : l.Pairwise (· < ·)) :
    Calls Try.prog 30 #[v] w fun e w' => e = .returned (.bool true) ∧ Below w.heap.size w w' := by
  have HU := Lib.hid hup
  obtain ⟨A, n, c, rfl, hnc, hc63, HN, HR⟩ := hv.op
  clear hv hup
  go_enter Try.func30, Try.ntmps30
  go_wp2_with fail
  go_loopw [3] (fun vi wr => ∃ j : Nat, (j + 1 ≤ n ∨ j = 0) ∧ vi = .int .i64 ((j : Int) + 1) ∧ Hid (Below w.heap.size w wr)) (fun vi _ => n + 1 - (intOf vi).toNat)
  case atStart => exact ⟨0, .inr rfl, rfl, Below.refl _ _⟩
  case round =>
    obtain ⟨j, hj, rfl, HBR⟩ := hrel
    by_cases hlt : j + 1 < n
    · have hlt1 : (j : Int) + 1 < (n : Int) := by omega
      have hjn : j < n := by omega
      obtain ⟨b, off, x, rfl, hb, hd, hc0⟩ := (HR.out j (by omega)).below HBR.out
      obtain ⟨b', off', y, he, hb', hd', hc1⟩ := (HR.out (j + 1) hlt).below HBR.out
      cases he
      have hxy : x < y := by
        have h := HU.out.drop (i := j)
        rw [hd.out, hd'.out] at h
        exact (List.pairwise_cons.1 h).1 y List.mem_cons_self
      have hge : ¬ y ≤ x := by omega
      have hj0 : (0 : Int) ≤ (j : Int) := by omega
      have hj1 : (0 : Int) ≤ (j : Int) + 1 := by omega
      have hjl : (j : Int) < (n : Int) := by omega
      have hwj : IntKind.i64.wrap (j : Int) = (j : Int) := IntWalk.i64_in _ (by omega)
      have HS : Hid (∀ w' : World, Below wr.heap.size wr w' → w'.cell? ⟨b, off + j, none⟩ = some (.int .i64 x) ∧ w'.cell? ⟨b, off + (j + 1), none⟩ = some (.int .i64 y)) :=
        fun w' h => ⟨(h.cell (p := ⟨b, off + j, none⟩) hb).trans hc0, (h.cell (p := ⟨b, off + (j + 1), none⟩) hb).trans hc1⟩
      clear hb hb' hc0 hc1
      go_upto_region 4 with (fail)
      refine wp_region_ord 9 [0, 1, 2, 3, 4, 5, 6, 7, 8] [] [0, 1, 2, 3, 4, 5, 6, 7, 8] [9] (fun w' => Below wr.heap.size wr w') (by kernel_rfl) (by kernel_rfl) ?_
      rintro Z hZ
      have HSZ : Hid (Below wr.heap.size wr Z) := by rw [hZ]; exact (Below.refl _ _).drew
      clear hZ
      refine ⟨HSZ.out, ?_⟩
      iterate 9 (refine wpHead_cons (v := ?_) rfl rfl (fun w' hS => ?_) ?_; rotate_left; (focus ((try obtain ⟨s0, s1⟩ := HS.out _ (hS rfl)); clear hS; go_simp; try with_reducible rfl; done)); (try simp only [Act.put, List.setIfInBounds_toArray, List.set_cons_zero, List.set_cons_succ]))
      refine wpHead_nil ?_
      refine wpTail_rest 9 rfl ?_
      simp only [List.drop_succ_cons, List.drop_zero]
      go_wp2_with fail
      refine NoPanic.normal ?_
      go_wp2_with fail
      go_roundw
      case rel => exact ⟨j + 1, by omega, by go_num, bchain HBR.out HSZ.out⟩
      case measure => simp [intOf]; omega
    · have hlt1 : ¬ (j : Int) + 1 < (n : Int) := by omega
      go_wp2_with fail
      go_ret
      exact ⟨rfl, HBR.out⟩
end Go.Proofs.Ytdijlakeonionaa
