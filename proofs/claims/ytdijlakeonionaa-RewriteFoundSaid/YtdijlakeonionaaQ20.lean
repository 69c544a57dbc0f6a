/-
  The reference's from and Back: all lists up to a length, in order.
-/
import Derived.Test.YtdijlakeonionaaQ19
import Derived.Test.YtdijlakeonionaaQP2
namespace Go.Proofs.Ytdijlakeonionaa
open Go.ChangeShapes Go.WideShapes Go.ChangeAt Go.RowKit
/-- only rows of lists may change, and nothing below -/
def Gr (n₀ : Nat) (w w' : World) : Prop := Below n₀ w w' ∧ ∀ (k : Nat) (cs : Array Value) (t : TypeId) (m : Nat × Nat), w.heap[k]? = some (.cells cs t m) → t ≠ 25 → w'.heap[k]? = some (.cells cs t m)
theorem Gr.refl (n₀ : Nat) (w : World) : Gr n₀ w w := ⟨Below.refl _ _, fun _ _ _ _ h _ => h⟩
theorem Gr.trans {n₀ : Nat} {a b c : World} (h : Gr n₀ a b) (k : Gr n₀ b c) : Gr n₀ a c := ⟨h.1.trans k.1, fun i cs t m h1 h2 => k.2 i cs t m (h.2 i cs t m h1 h2) h2⟩
theorem Gr.of_below {n₀ : Nat} {w w' : World} (h : Below w.heap.size w w') (hn : n₀ ≤ w.heap.size) : Gr n₀ w w' := ⟨h.mono hn, fun k _ _ _ h1 _ => (h.block k (Array.getElem?_eq_some_iff.1 h1).1).trans h1⟩
theorem Gr.ownI {n₀ base : Nat} {w w' : World} {v : Value} {l : List Int} (h : Gr n₀ w w') (ho : OwnI w base v l) : OwnI w' base v l := by
  refine ⟨ho.1, ?_⟩
  rcases ho.2 with hn | ⟨g, cap, cur, rfl, hb, hg, rest⟩
  · exact .inl hn
  · exact .inr ⟨g, cap, cur, rfl, hb, h.2 g _ _ _ hg (by decide), rest⟩
theorem Gr.vblk {n₀ B : Nat} {w w' : World} {u : Value} (h : Gr n₀ w w') (hb : VBlk w B u) : VBlk w' B u := h.2 B _ _ _ hb (by decide)
theorem Gr.rblk {n₀ B : Nat} {w w' : World} {a b c d : Value} {x y : Bool} (h : Gr n₀ w w') (hb : RBlk w B a b c d x y) : RBlk w' B a b c d x y := h.2 B _ _ _ hb (by decide)
theorem Gr.grown {n₀ base : Nat} {w w' : World} {v : Value} {Ls : List (List Int)} (ho : OwnL w base v Ls) (hb : n₀ ≤ base) (hn : n₀ ≤ w.heap.size) (hg : w.grownBy w' v.ownBlock) : Gr n₀ w w' := by
  obtain ⟨us, h1⟩ := ho.row
  refine ⟨(Below.refl n₀ w).grown hg hn fun j hj => Nat.le_trans hb (World.ownsRow.lt h1 j hj).1, fun k cs t m hk ht => ?_⟩
  refine (hg.block k (Array.getElem?_eq_some_iff.1 hk).1 fun e => ?_).trans hk
  obtain ⟨cs', hcs⟩ := row_type h1 e.symm
  rw [hk] at hcs
  cases hcs
  exact ht rfl
theorem rd_far {w w' : World} {g n c : Nat} {k : Option Nat} {l : List Int} (h : RdI w (.slice (some ⟨g, 0, none⟩) n c) l) (hg : w.grownBy w' k) (hk : k ≠ some g) : RdI w' (.slice (some ⟨g, 0, none⟩) n c) l := by
  obtain ⟨A, c', he, h1, h2, h3, h4⟩ := h
  cases he
  refine ⟨_, _, rfl, h1, h2, h3, fun hn => ?_⟩
  obtain ⟨b, off, he, hb, hc⟩ := h4 hn
  cases he
  have hs := hg.size
  refine ⟨g, 0, rfl, by omega, fun j u hu => ?_⟩
  rw [← hc j u hu]
  unfold World.cell?
  rw [hg.block g hb (fun e => hk e.symm)]
theorem ownL_formN {w : World} {B : Nat} {v : Value} {Ls : List (List Int)} (h : OwnL w B v Ls) : ∃ A n c, v = .slice A n c := by
  obtain ⟨A, c, h⟩ := ownL_form h
  exact ⟨A, _, c, h⟩
theorem own_sliceN {w : World} {base size n : Nat} {e : TypeId} {v : Value} {xs : List Value} (h : w.ownsRow base e size v n xs) : ∃ A m c, v = .slice A m c := by
  rcases h.2 with ⟨rfl, _⟩ | ⟨g, cap, cur, rfl, _⟩
  · exact ⟨none, 0, 0, rfl⟩
  · exact ⟨_, _, _, rfl⟩
def cF (n : Nat) : Nat → Nat
  | 0 => 1
  | k + 1 => 1 + n * cF n k
theorem flat_len {α β : Type} {l : List α} {f : α → List β} {m : Nat} (h : ∀ x ∈ l, (f x).length ≤ m) : (l.flatMap f).length ≤ l.length * m := by
  induction l with
  | nil => simp
  | cons a l ih =>
    rw [List.flatMap_cons, List.length_append, List.length_cons, Nat.succ_mul, Nat.add_comm]
    exact Nat.add_le_add (ih fun x hx => h x (by simp [hx])) (h a (by simp))
theorem from_len (I : List PPh) (R : PRule) (w : List Int) : ∀ (k : Nat) (u : List Int), (fromL I R w k u).length ≤ cF I.length k
  | 0, u => by rw [fromL, cF]; split <;> simp
  | k + 1, u => by
    rw [fromL, cF, List.length_append, fromK]
    have := flat_len (l := List.range I.length) (f := fun (j : Nat) => fromL I R w k (u ++ [(j : Int) + 1])) (m := cF I.length k) fun j _ => from_len I R w k _
    rw [List.length_range] at this
    have h2 : (if applyF I R u = w then [u] else []).length ≤ 1 := by split <;> simp
    omega
theorem fromK_len (I : List PPh) (R : PRule) (w : List Int) (k : Nat) (u : List Int) (j : Nat) : (fromK (fromL I R w k) u j).length ≤ j * cF I.length k := by
  have := flat_len (l := List.range j) (f := fun (j : Nat) => fromL I R w k (u ++ [(j : Int) + 1])) (m := cF I.length k) fun j _ => from_len I R w k _
  rwa [List.length_range] at this
theorem cF_pos (n k : Nat) : 1 ≤ cF n k := by cases k <;> simp [cF]
theorem few_cF (m : Nat) : ∀ (k : Nat) (x al : Int), 0 ≤ x → al ≤ 60000 → fewL (m : Int) k x al = true → al + x * ((cF m k : Int) - 1) ≤ 60000
  | 0, x, al, _, h, _ => by simp [cF]; exact h
  | k + 1, x, al, hx, _, h => by
    rw [fewL] at h
    split at h
    · cases h
    · rename_i hb
      have hb2 : 0 ≤ x * (m : Int) := Int.mul_nonneg hx (by omega)
      have := few_cF m k (x * m) (al + x * m) hb2 (by omega) h
      rw [cF]
      have e : x * (((1 + m * cF m k : Nat) : Int) - 1) = x * (m : Int) + x * (m : Int) * ((cF m k : Int) - 1) := by
        push_cast
        rw [Int.mul_sub, Int.mul_sub, Int.mul_add, Int.mul_assoc]; omega
      rw [e]; omega
theorem few_len {I : List PPh} {k : Nat} (hk : k ≤ 24) (h : fewB I (k : Int) = true) : cF I.length k ≤ 60000 := by
  unfold fewB at h
  rw [show (min (k : Int) 25).toNat = k by omega] at h
  have := few_cF I.length k 1 1 (by omega) (by omega) h
  omega
/-- the arguments of from, as they stand below -/
structure FrArg (w₀ : World) (I : List PPh) (R : PRule) (wl : List Int) (A0 : Option Addr) (n0 c0 : Nat) (A1 : Option Addr) (n1 c1 : Nat) (A2 : Option Addr) (n2 c2 : Nat) (A3 : Option Addr) (n3 c3 : Nat) (A4 : Option Addr) (n4 c4 : Nat) (beg fin : Bool) (Aw : Option Addr) (nw cw : Nat) : Prop where
  v : RdV w₀ (.agg #[.slice A0 n0 c0]) I
  r : RdR w₀ (.agg #[.slice A1 n1 c1, .slice A2 n2 c2, .slice A3 n3 c3, .slice A4 n4 c4, .bool beg, .bool fin]) R
  w : RdI w₀ (.slice Aw nw cw) wl
  ok : ROk R
  nd : R.fr.Nodup
  n : I.length = n0
  nn : n0 ≤ 1000000
section
variable {w₀ : World} {I : List PPh} {R : PRule} {wl : List Int} {A0 : Option Addr} {n0 c0 : Nat} {A1 : Option Addr} {n1 c1 : Nat} {A2 : Option Addr} {n2 c2 : Nat} {A3 : Option Addr} {n3 c3 : Nat} {A4 : Option Addr} {n4 c4 : Nat} {beg fin : Bool} {Aw : Option Addr} {nw cw : Nat}
/-- what from has collected before it goes on -/
def FrMid (I : List PPh) (R : PRule) (wl : List Int) (Ls : List (List Int)) (k : Nat) (u : List Int) (Ls2 : List (List Int)) : Prop :=
  match k with | 0 => Ls ++ fromL I R wl 0 u = Ls2 | k' + 1 => Ls ++ fromL I R wl (k' + 1) u = Ls2 ++ fromK (fromL I R wl k') u I.length
def FromC (w₀ : World) (I : List PPh) (R : PRule) (wl : List Int) (A0 : Option Addr) (n0 c0 : Nat) (A1 : Option Addr) (n1 c1 : Nat) (A2 : Option Addr) (n2 c2 : Nat) (A3 : Option Addr) (n3 c3 : Nat) (A4 : Option Addr) (n4 c4 : Nat) (beg fin : Bool) (Aw : Option Addr) (nw cw : Nat) (len k : Nat) : Prop :=
  ∀ (u : List Int) (uv : Value) (w : World) (v : Value) (Ls : List (List Int)), u.length + k = len → (∀ x ∈ u, x ≠ 0) → OwnI w w₀.heap.size uv u → Below w₀.heap.size w₀ w → OwnL w w₀.heap.size v Ls → Ls.length + cF n0 k ≤ 1000000 →
    Calls Try.prog 49 #[.agg #[.slice A0 n0 c0], .agg #[.slice A1 n1 c1, .slice A2 n2 c2, .slice A3 n3 c3, .slice A4 n4 c4, .bool beg, .bool fin], .slice Aw nw cw, .int .i64 (len : Int), uv, v] w
      fun e w' => (∃ v', e = .returned v' ∧ OwnL w' w₀.heap.size v' (Ls ++ fromL I R wl k u)) ∧ Gr w₀.heap.size w w'
set_option maxHeartbeats 16000000 in
set_option maxRecDepth 100000 in
theorem from_step (HFA : Hid (FrArg w₀ I R wl A0 n0 c0 A1 n1 c1 A2 n2 c2 A3 n3 c3 A4 n4 c4 beg fin Aw nw cw)) (len : Nat) (hlen : len ≤ 24) (k : Nat)
    (ih : ∀ k', k = k' + 1 → FromC w₀ I R wl A0 n0 c0 A1 n1 c1 A2 n2 c2 A3 n3 c3 A4 n4 c4 beg fin Aw nw cw len k') : FromC w₀ I R wl A0 n0 c0 A1 n1 c1 A2 n2 c2 A3 n3 c3 A4 n4 c4 beg fin Aw nw cw len k := by
  intro u uv w v Ls hlk hnz hlv hB0 hLs hcap
  obtain ⟨_, Au, cu, rfl⟩ := own_slice hlv
  obtain ⟨As, cs, rfl⟩ := ownL_form hLs
  have HLV := Lib.hid hlv
  have HIH := Lib.hid ih
  have HLs := Lib.hid hLs
  have HLK := Lib.hid hlk
  have HNZ := Lib.hid hnz
  have HCAP := Lib.hid hcap
  have HB0 := Lib.hid hB0
  have HUL : Hid (u.length ≤ 24) := by rw [Hid]; omega
  have hn0 : w₀.heap.size ≤ w.heap.size := hB0.size
  have HNN : Hid (n0 ≤ 1000000) := HFA.out.nn
  clear hlv ih hLs hlk hnz hcap hB0
  go_enter Try.func49, Try.ntmps49
  go_upto_region 1 with (fail)
  generalize hW : World.alloc (World.alloc w _) _ = W
  have HBW : Hid (Below w.heap.size w W) := by rw [← hW]; exact bchain (al_below _ _) (al_below _ _)
  have HP : Hid (VBlk W w.heap.size (.slice A0 n0 c0)) := by rw [← hW]; exact VBlk.below (heap_alloc_new w _) (al_below _ _)
  have HQ : Hid (RBlk W (w.heap.size + 1) (.slice A1 n1 c1) (.slice A2 n2 c2) (.slice A3 n3 c3) (.slice A4 n4 c4) beg fin) := by
    have h := heap_alloc_new (w.alloc (.cells #[.slice A0 n0 c0] 24)) (.cells #[.slice A1 n1 c1, .slice A2 n2 c2, .slice A3 n3 c3, .slice A4 n4 c4, .bool beg, .bool fin] 28)
    rw [World.size_alloc] at h
    rw [← hW]; exact h
  clear hW
  have y0 := HP.out.cell
  have y1 := HP.out.lt
  obtain ⟨z0, z1, z2, z3, z4, z5⟩ := HQ.out.cells
  have zl := HQ.out.lt
  go_wp2_with fail
  clear y0 y1 z0 z1 z2 z3 z4 z5 zl
  have hbx := HB0.out.trans (HBW.out.mono hn0)
  refine (rapply_any _ _ _ I R u _ (HFA.out.v.below hbx) (HFA.out.r.below hbx) (HLV.out.rd.below HBW.out) HFA.out.ok (by have := HUL.out; omega) HNZ.out HFA.out.nd).mono ?_
  rintro e w1 ⟨⟨v1, rfl, ho1⟩, hb1⟩
  have HB1 := Lib.hid (bchain HBW.out hb1)
  have HP1 := Lib.hid (HP.out.below hb1)
  have HQ1 := Lib.hid (HQ.out.below hb1)
  have HO1 := Lib.hid ho1
  obtain ⟨_, A7, c7, rfl⟩ := own_slice ho1
  clear hbx hb1 ho1
  go_wp2_with fail
  refine (rsame_any _ _ (applyF I R u) wl _ HO1.out.rd (HFA.out.w.below (HB0.out.trans (HB1.out.mono hn0)))).mono ?_
  rintro e w2 ⟨rfl, nq, rfl⟩
  have hb2 : Below w1.heap.size w1 (w1.drewN nq) := below_drewN (Below.refl _ _) nq
  generalize w1.drewN nq = w2 at hb2 ⊢
  have HB2 := Lib.hid (bchain HB1.out hb2)
  have HP2 := Lib.hid (HP1.out.below hb2)
  have HQ2 := Lib.hid (HQ1.out.below hb2)
  have HLs1 := Lib.hid (HLs.out.below HB2.out)
  have HLV1 : Hid (OwnI w2 w₀.heap.size (.slice Au u.length cu) u) := own_below HLV.out HB2.out
  clear hb2 HP HQ HP1 HQ1 HB1 HO1
  obtain ⟨sm, hsm⟩ : ∃ sm, sameB (applyF I R u) wl = sm := ⟨_, rfl⟩
  have HSM := Lib.hid hsm
  rw [hsm]
  clear hsm
  go_upto_if 19 with (fail)
  go_cut [5] (fun v5 wx => ∃ Ls2, Hid (OwnL wx w₀.heap.size v5 Ls2) ∧ Hid (Ls2.length ≤ Ls.length + 1) ∧ Hid (FrMid I R wl Ls k u Ls2) ∧ Hid (Gr w₀.heap.size w wx) ∧ Hid (VBlk wx w.heap.size (.slice A0 n0 c0)) ∧ Hid (RBlk wx (w.heap.size + 1) (.slice A1 n1 c1) (.slice A2 n2 c2) (.slice A3 n3 c3) (.slice A4 n4 c4) beg fin))
  case first =>
    cases sm
    · have HNE : Hid (¬ applyF I R u = wl) := by rw [Hid, ← sameB_iff, HSM.out]; decide
      go_wp2_with fail
      go_meet
      refine ⟨Ls, HLs1.out, Nat.le_succ _, ?_, Gr.of_below HB2.out hn0, HP2.out, HQ2.out⟩
      unfold Hid FrMid
      cases k
      · simp only; rw [fromL, if_neg HNE.out, List.append_nil]
      · simp only; rw [fromL, if_neg HNE.out, List.nil_append]
    · have HEQ : Hid (applyF I R u = wl) := (sameB_iff _ _).1 HSM.out
      have hl5 : Ls.length ≤ 1000000 := by have := HCAP.out; omega
      have hbase : w₀.heap.size ≤ w2.heap.size := by have := HB2.out.size; omega
      have hbz : w2.heap.size ≤ (w2.alloc (.cells #[] 3)).heap.size := by simp
      have hu5 : ([] : List Int).length + u.length ≤ 300000000 := by have := HUL.out; simp; omega
      go_wp2_with (first
        | (at_builtin; refine wpList_app_ints rfl (.tmp 21) (.tmp 22) rfl w2.heap.size (.slice (some ⟨w2.heap.size, 0, none⟩) 0 0) [] rfl (own_newI w2 _ _ rfl (Nat.le_refl _)) (.slice Au u.length cu) u rfl (HLV1.out.rd.alloc _) hu5 hbz ?_; intro v3 w3 ho3 hg3 _; have HB3 := Lib.hid (below_grown (al_below w2 (.cells #[] 3)) (Nat.le_refl _) (own_newI w2 _ _ rfl (Nat.le_refl _)) hg3); have HO3 : Hid (OwnI w3 w₀.heap.size v3 u) := (own_base ho3 hbase); have HL3 := Lib.hid (HLs1.out.below HB3.out); have hb3 : w₀.heap.size ≤ w3.heap.size := Nat.le_trans hbase HB3.out.size; clear ho3 hg3; obtain ⟨_, A3', c3', rfl⟩ := own_slice HO3.out)
        | (at_builtin; refine wpList_app_word rfl (.tmp 20) (.tmp 24) rfl w₀.heap.size (.slice As Ls.length cs) Ls rfl HL3.out _ u HO3.out Ls.length (Lib.hid rfl) hl5 hb3 rfl ?_; intro g' cap' w5 ho hg5; have HO5 := Lib.hid ho; have HG5 := Lib.hid (Gr.grown HL3.out (Nat.le_refl _) hb3 hg5); clear ho hg5))
      go_meet
      refine ⟨Ls ++ [u], HO5.out, by simp [Hid], ?_, (Gr.of_below (bchain HB2.out HB3.out) hn0).trans HG5.out, HG5.out.vblk (HP2.out.below HB3.out), HG5.out.rblk (HQ2.out.below HB3.out)⟩
      unfold Hid FrMid
      cases k
      · simp only; rw [fromL, if_pos HEQ.out]
      · simp only; rw [fromL, if_pos HEQ.out, List.append_assoc]
  case rest =>
  obtain ⟨Ls2, HLs2, HCAP2, HFIN, HG2, HP2', HQ2'⟩ := hcut
  clear HP2 HQ2 HLs1 HLV1 HB2 HLs HSM
  have HP2 := HP2'
  have HQ2 := HQ2'
  clear HP2' HQ2'
  obtain ⟨As2, ns2, cs2, rfl⟩ := ownL_formN HLs2.out
  by_cases hkz : k = 0
  · subst hkz
    have HFIN2 : Hid (Ls ++ fromL I R wl 0 u = Ls2) := HFIN.out
    have d1 : decide ((len : Int) ≤ (u.length : Int)) = true := by have := HLK.out; simp; omega
    have d1' : decide (len ≤ u.length) = true := by have := HLK.out; simp; omega
    go_wp2_with fail
    go_ret
    exact ⟨⟨_, rfl, by rw [HFIN2.out]; exact HLs2.out⟩, HG2.out⟩
  obtain ⟨k', rfl⟩ : ∃ k', k = k' + 1 := ⟨k - 1, by omega⟩
  have HFIN2 : Hid (Ls ++ fromL I R wl (k' + 1) u = Ls2 ++ fromK (fromL I R wl k') u I.length) := HFIN.out
  have d1 : decide ((len : Int) ≤ (u.length : Int)) = false := by have := HLK.out; simp; omega
  have d1' : decide (len ≤ u.length) = false := by have := HLK.out; simp; omega
  clear hkz
  go_wp2_with fail
  clear d1 d1'
  go_loopw [5, 13] (fun v5 vi wr => ∃ j : Nat, j ≤ n0 ∧ vi = .int .i64 ((j : Int) + 1) ∧ Hid (OwnL wr w₀.heap.size v5 (Ls2 ++ fromK (fromL I R wl k') u j)) ∧ Hid (Gr w₀.heap.size w wr) ∧ Hid (VBlk wr w.heap.size (.slice A0 n0 c0)) ∧ Hid (RBlk wr (w.heap.size + 1) (.slice A1 n1 c1) (.slice A2 n2 c2) (.slice A3 n3 c3) (.slice A4 n4 c4) beg fin)) (fun _ vi _ => n0 + 1 - (intOf vi).toNat)
  case atStart => exact ⟨0, Nat.zero_le _, rfl, by rw [Hid, fromK, List.range_zero, List.flatMap_nil, List.append_nil]; exact HLs2.out, HG2.out, HP2.out, HQ2.out⟩
  case round =>
    obtain ⟨j, hj, rfl, HLR, HGR, HPR, HQR⟩ := hrel
    obtain ⟨Al, nl, cl, rfl⟩ := ownL_formN HLR.out
    have HBWR := Lib.hid (HB0.out.trans HGR.out.1)
    have HUR := Lib.hid (HGR.out.ownI HLV.out)
    have y0 := HPR.out.cell
    have y1 := HPR.out.lt
    by_cases hlt : j < n0
    · have d2 : decide ((j : Int) + 1 ≤ (n0 : Int)) = true := by simp; omega
      have d2' : decide (j + 1 ≤ n0) = true := by simp; omega
      have d2'' : decide (j < n0) = true := by simp; omega
      go_upto_region 8 with (fail)
      clear y0 y1 d2 d2' d2''
      refine wp_region_steps 13 11 [0, 1, 2, 3, 4, 5, 6, 7, 8, 9, 10] [] (fun w' => Below wr.heap.size wr w') (by kernel_rfl) (by kernel_rfl) ?_
      rintro D hD
      have HSD : Hid (Below wr.heap.size wr D) := by rw [hD]; exact (Below.refl _ _).drew
      clear hD
      have HS : Hid (∀ w' : World, Below wr.heap.size wr w' → w'.cell? ⟨w.heap.size, 0, none⟩ = some (.slice A0 n0 c0) ∧ (w'.cell? ⟨w.heap.size + 1, 0, none⟩ = some (.slice A1 n1 c1) ∧ w'.cell? ⟨w.heap.size + 1, 1, none⟩ = some (.slice A2 n2 c2) ∧ w'.cell? ⟨w.heap.size + 1, 2, none⟩ = some (.slice A3 n3 c3) ∧ w'.cell? ⟨w.heap.size + 1, 3, none⟩ = some (.slice A4 n4 c4) ∧ w'.cell? ⟨w.heap.size + 1, 4, none⟩ = some (.bool beg) ∧ w'.cell? ⟨w.heap.size + 1, 5, none⟩ = some (.bool fin))) := by
        intro w' h
        exact ⟨(HPR.out.below h).cell, (HQR.out.below h).cells⟩
      (refine wpE_take 0 (v := ?_) (by kernel_rfl) rfl rfl (by exact HSD.out) (fun w' hS => ?_) ?_; rotate_left; (focus ((try obtain ⟨s0, t0, t1, t2, t3, t4, t5⟩ := HS.out _ (hS rfl)); clear hS; go_simp; try with_reducible rfl; done)); (try simp only [Act.put, List.setIfInBounds_toArray, List.set_cons_zero, List.set_cons_succ]))
      (refine wpE_take 1 (v := ?_) (by kernel_rfl) rfl rfl (by exact HSD.out) (fun w' hS => ?_) ?_; rotate_left; (focus ((try obtain ⟨s0, t0, t1, t2, t3, t4, t5⟩ := HS.out _ (hS rfl)); clear hS; go_simp; try with_reducible rfl; done)); (try simp only [Act.put, List.setIfInBounds_toArray, List.set_cons_zero, List.set_cons_succ]))
      (refine wpE_take 2 (v := ?_) (by kernel_rfl) rfl rfl (by exact HSD.out) (fun w' hS => ?_) ?_; rotate_left; (focus ((try obtain ⟨s0, t0, t1, t2, t3, t4, t5⟩ := HS.out _ (hS rfl)); clear hS; go_simp; try with_reducible rfl; done)); (try simp only [Act.put, List.setIfInBounds_toArray, List.set_cons_zero, List.set_cons_succ]))
      (refine wpE_take 3 (v := ?_) (by kernel_rfl) rfl rfl (by exact HSD.out) (fun w' hS => ?_) ?_; rotate_left; (focus ((try obtain ⟨s0, t0, t1, t2, t3, t4, t5⟩ := HS.out _ (hS rfl)); clear hS; go_simp; try with_reducible rfl; done)); (try simp only [Act.put, List.setIfInBounds_toArray, List.set_cons_zero, List.set_cons_succ]))
      (refine wpE_take 5 (v := ?_) (by kernel_rfl) rfl rfl (by exact HSD.out) (fun w' hS => ?_) ?_; rotate_left; (focus ((try obtain ⟨s0, t0, t1, t2, t3, t4, t5⟩ := HS.out _ (hS rfl)); clear hS; go_simp; try with_reducible rfl; done)); (try simp only [Act.put, List.setIfInBounds_toArray, List.set_cons_zero, List.set_cons_succ]))
      (refine wpE_take 7 (v := ?_) (by kernel_rfl) rfl rfl (by exact HSD.out) (fun w' hS => ?_) ?_; rotate_left; (focus ((try obtain ⟨s0, t0, t1, t2, t3, t4, t5⟩ := HS.out _ (hS rfl)); clear hS; go_simp; try with_reducible rfl; done)); (try simp only [Act.put, List.setIfInBounds_toArray, List.set_cons_zero, List.set_cons_succ]))
      (refine wpE_take 10 (v := ?_) (by kernel_rfl) rfl rfl (by exact HSD.out) (fun w' hS => ?_) ?_; rotate_left; (focus ((try obtain ⟨s0, t0, t1, t2, t3, t4, t5⟩ := HS.out _ (hS rfl)); clear hS; go_simp; try with_reducible rfl; done)); (try simp only [Act.put, List.setIfInBounds_toArray, List.set_cons_zero, List.set_cons_succ]))
      refine wpE_br [4, 8] (by kernel_rfl) ?_
      refine AllE.cons rfl rfl (fun K hK => ?_) (AllE.cons rfl rfl (fun K hK => ?_) AllE.nil)
      · skip
        go_simp
        refine hK.out _ _ (HSD.out.alloc HSD.out.size _) ?_
        clear hK K
        (try simp only [Act.put, List.setIfInBounds_toArray, List.set_cons_zero, List.set_cons_succ])
        generalize hX : World.alloc D _ = Y1
        have HSY1 : Hid (Below wr.heap.size wr Y1) := by rw [← hX]; exact HSD.out.alloc HSD.out.size _
        have HXY1 : Hid (Below D.heap.size D Y1) := by rw [← hX]; exact al_below _ _
        have HZY1 : Hid (Y1.heap.size = D.heap.size + 1) := by rw [← hX]; exact World.size_alloc _ _
        have HE0 : Hid (OwnI Y1 D.heap.size (.slice (some ⟨D.heap.size, 0, none⟩) 0 0) []) := by rw [← hX]; exact own_newI D _ _ rfl (Nat.le_refl _)
        have HBS : Hid (wr.heap.size ≤ D.heap.size) := HSD.out.size
        clear hX
        refine wpE_br [6, 8] (by kernel_rfl) ?_
        refine AllE.cons rfl rfl (fun K hK => ?_) (AllE.cons rfl rfl (fun K hK => ?_) AllE.nil)
        · skip
          refine wp_app_ints (.tmp 42) (.tmp 43) rfl D.heap.size _ [] rfl HE0.out _ u rfl (HUR.out.rd.below HSY1.out) (by have := HUL.out; simp; omega) HXY1.out.size ?_
          intro vc Y2 ho5 hg5 _
          obtain ⟨_, Bc, cc, rfl⟩ := own_slice ho5
          have HSY2 := Lib.hid (below_grown HSY1.out HBS.out HE0.out hg5)
          refine hK.out _ _ HSY2.out ?_
          clear hK K
          (try simp only [Act.put, List.setIfInBounds_toArray, List.set_cons_zero, List.set_cons_succ])
          have HCL : Hid (OwnI Y2 D.heap.size (.slice Bc u.length cc) u) := ho5
          have HGC := Lib.hid hg5
          clear ho5 hg5
          refine wpE_br [8] (by kernel_rfl) ?_
          refine AllE.cons rfl rfl (fun K hK => ?_) AllE.nil
          go_simp
          refine hK.out _ _ (HSY2.out.alloc HSY2.out.size _) ?_
          clear hK K
          (try simp only [Act.put, List.setIfInBounds_toArray, List.set_cons_zero, List.set_cons_succ])
          generalize hX : World.alloc Y2 _ = Y3
          have HSY3 : Hid (Below wr.heap.size wr Y3) := by rw [← hX]; exact HSY2.out.alloc HSY2.out.size _
          have HXY3 : Hid (Below Y2.heap.size Y2 Y3) := by rw [← hX]; exact al_below _ _
          have HZY3 : Hid (Y3.heap.size = Y2.heap.size + 1) := by rw [← hX]; exact World.size_alloc _ _
          have HRN : Hid (RdI Y3 (.slice (some ⟨Y2.heap.size, 0, none⟩) 1 1) [(j : Int) + 1]) := by rw [← hX]; exact rdI_blk [(j : Int) + 1] (by simp) Y2
          clear hX
          refine wpE_br [9] (by kernel_rfl) ?_
          refine AllE.cons rfl rfl (fun K hK => ?_) AllE.nil
          refine wp_app_ints (.tmp 44) (.tmp 46) rfl D.heap.size _ u rfl (own_below HCL.out HXY3.out) _ [(j : Int) + 1] rfl HRN.out (by have := HUL.out; simp; omega) (Nat.le_trans HXY1.out.size (Nat.le_trans HGC.out.size HXY3.out.size)) ?_
          intro v5 Y4 ho5 hg5 _
          have HSY4 := Lib.hid (below_grown HSY3.out HBS.out (own_below HCL.out HXY3.out) hg5)
          refine hK.out _ _ HSY4.out ?_
          clear hK K
          (try simp only [Act.put, List.setIfInBounds_toArray, List.set_cons_zero, List.set_cons_succ])
          have HO5 : Hid (OwnI Y4 w₀.heap.size v5 (u ++ [(j : Int) + 1])) := own_base ho5 (by have := HBWR.out.size; have := HBS.out; omega)
          clear ho5 hg5
          obtain ⟨B5, n5, c5, rfl⟩ := own_sliceN HO5.out
          refine wpE_rest 11 (by kernel_rfl) ?_
          simp only [List.drop_succ_cons, List.drop_zero]
          have HCAP6 : Hid ((Ls2 ++ fromK (fromL I R wl k') u j).length + cF n0 k' ≤ 1000000) := by
            have h1 := fromK_len I R wl k' u j
            rw [HFA.out.n] at h1
            have h2 : (j + 1) * cF n0 k' ≤ n0 * cF n0 k' := Nat.mul_le_mul_right _ hlt
            rw [Nat.succ_mul] at h2
            have h3 := HCAP.out
            rw [cF] at h3
            have h4 := HCAP2.out
            rw [Hid, List.length_append]
            clear HCAP HCAP2
            generalize (fromK (fromL I R wl k') u j).length = x1 at h1 ⊢
            generalize j * cF n0 k' = x2 at h1 h2
            generalize n0 * cF n0 k' = x3 at h2 h3
            omega
          have HLEN6 : Hid ((u ++ [(j : Int) + 1]).length + k' = len) := by have := HLK.out; rw [Hid, List.length_append, List.length_singleton]; omega
          have HNZ6 : Hid (∀ x ∈ u ++ [(j : Int) + 1], x ≠ 0) := by
            intro x hx
            rcases List.mem_append.1 hx with hx | hx
            · exact HNZ.out x hx
            · rw [List.mem_singleton.1 hx]; omega
          have HG5 := Lib.hid (Gr.of_below HSY4.out HBWR.out.size)
          go_wp2_with fail
          refine (HIH.out k' rfl _ _ _ _ _ HLEN6.out HNZ6.out HO5.out (HBWR.out.trans HG5.out.1) (HLR.out.below HSY4.out) HCAP6.out).mono ?_
          rintro e Y9 ⟨⟨v6, rfl, hl6⟩, g6⟩
          have HL6 := Lib.hid hl6
          have HG6 := Lib.hid ((HGR.out.trans HG5.out).trans g6)
          have HP6 := Lib.hid (g6.vblk (HPR.out.below HSY4.out))
          have HQ6 := Lib.hid (g6.rblk (HQR.out.below HSY4.out))
          obtain ⟨A6, n6, c6, rfl⟩ := ownL_formN HL6.out
          have hnn : n0 ≤ 1000000 := HNN.out
          clear hl6 g6
          go_wp2_with fail
          refine NoPanic.normal ?_
          go_wp2_with fail
          go_roundw
          case rel => exact ⟨j + 1, by omega, by go_num, by rw [Hid, fromK_succ, ← List.append_assoc]; exact HL6.out, HG6.out, HP6.out, HQ6.out⟩
          case measure => simp [intOf]; omega
        · skip
          go_simp
          refine hK.out _ _ (HSY1.out.alloc HSY1.out.size _) ?_
          clear hK K
          (try simp only [Act.put, List.setIfInBounds_toArray, List.set_cons_zero, List.set_cons_succ])
          generalize hX : World.alloc Y1 _ = Y2
          have HSY2 : Hid (Below wr.heap.size wr Y2) := by rw [← hX]; exact HSY1.out.alloc HSY1.out.size _
          have HXY2 : Hid (Below Y1.heap.size Y1 Y2) := by rw [← hX]; exact al_below _ _
          have HZY2 : Hid (Y2.heap.size = Y1.heap.size + 1) := by rw [← hX]; exact World.size_alloc _ _
          have HRN : Hid (RdI Y2 (.slice (some ⟨Y1.heap.size, 0, none⟩) 1 1) [(j : Int) + 1]) := by rw [← hX]; exact rdI_blk [(j : Int) + 1] (by simp) Y1
          clear hX
          refine wpE_br [6] (by kernel_rfl) ?_
          refine AllE.cons rfl rfl (fun K hK => ?_) AllE.nil
          have HE0' := HE0
          clear HE0
          have HE0 : Hid (OwnI Y2 D.heap.size (.slice (some ⟨D.heap.size, 0, none⟩) 0 0) []) := own_below HE0'.out HXY2.out
          refine wp_app_ints (.tmp 42) (.tmp 43) rfl D.heap.size _ [] rfl HE0.out _ u rfl (HUR.out.rd.below HSY2.out) (by have := HUL.out; simp; omega) (Nat.le_trans HXY1.out.size HXY2.out.size) ?_
          intro vc Y3 ho5 hg5 _
          obtain ⟨_, Bc, cc, rfl⟩ := own_slice ho5
          have HSY3 := Lib.hid (below_grown HSY2.out HBS.out HE0.out hg5)
          refine hK.out _ _ HSY3.out ?_
          clear hK K
          (try simp only [Act.put, List.setIfInBounds_toArray, List.set_cons_zero, List.set_cons_succ])
          have HCL : Hid (OwnI Y3 D.heap.size (.slice Bc u.length cc) u) := ho5
          have HGC := Lib.hid hg5
          clear ho5 hg5
          have HRN3 : Hid (RdI Y3 (.slice (some ⟨Y1.heap.size, 0, none⟩) 1 1) [(j : Int) + 1]) := rd_far HRN.out HGC.out (fun e => by have e : D.heap.size = Y1.heap.size := Option.some.inj e; have := HZY1.out; omega)
          refine wpE_br [9] (by kernel_rfl) ?_
          refine AllE.cons rfl rfl (fun K hK => ?_) AllE.nil
          refine wp_app_ints (.tmp 44) (.tmp 46) rfl D.heap.size _ u rfl HCL.out _ [(j : Int) + 1] rfl HRN3.out (by have := HUL.out; simp; omega) (Nat.le_trans HXY1.out.size (Nat.le_trans HXY2.out.size HGC.out.size)) ?_
          intro v5 Y4 ho5 hg5 _
          have HSY4 := Lib.hid (below_grown HSY3.out HBS.out HCL.out hg5)
          refine hK.out _ _ HSY4.out ?_
          clear hK K
          (try simp only [Act.put, List.setIfInBounds_toArray, List.set_cons_zero, List.set_cons_succ])
          have HO5 : Hid (OwnI Y4 w₀.heap.size v5 (u ++ [(j : Int) + 1])) := own_base ho5 (by have := HBWR.out.size; have := HBS.out; omega)
          clear ho5 hg5
          obtain ⟨B5, n5, c5, rfl⟩ := own_sliceN HO5.out
          refine wpE_rest 11 (by kernel_rfl) ?_
          simp only [List.drop_succ_cons, List.drop_zero]
          have HCAP6 : Hid ((Ls2 ++ fromK (fromL I R wl k') u j).length + cF n0 k' ≤ 1000000) := by
            have h1 := fromK_len I R wl k' u j
            rw [HFA.out.n] at h1
            have h2 : (j + 1) * cF n0 k' ≤ n0 * cF n0 k' := Nat.mul_le_mul_right _ hlt
            rw [Nat.succ_mul] at h2
            have h3 := HCAP.out
            rw [cF] at h3
            have h4 := HCAP2.out
            rw [Hid, List.length_append]
            clear HCAP HCAP2
            generalize (fromK (fromL I R wl k') u j).length = x1 at h1 ⊢
            generalize j * cF n0 k' = x2 at h1 h2
            generalize n0 * cF n0 k' = x3 at h2 h3
            omega
          have HLEN6 : Hid ((u ++ [(j : Int) + 1]).length + k' = len) := by have := HLK.out; rw [Hid, List.length_append, List.length_singleton]; omega
          have HNZ6 : Hid (∀ x ∈ u ++ [(j : Int) + 1], x ≠ 0) := by
            intro x hx
            rcases List.mem_append.1 hx with hx | hx
            · exact HNZ.out x hx
            · rw [List.mem_singleton.1 hx]; omega
          have HG5 := Lib.hid (Gr.of_below HSY4.out HBWR.out.size)
          go_wp2_with fail
          refine (HIH.out k' rfl _ _ _ _ _ HLEN6.out HNZ6.out HO5.out (HBWR.out.trans HG5.out.1) (HLR.out.below HSY4.out) HCAP6.out).mono ?_
          rintro e Y9 ⟨⟨v6, rfl, hl6⟩, g6⟩
          have HL6 := Lib.hid hl6
          have HG6 := Lib.hid ((HGR.out.trans HG5.out).trans g6)
          have HP6 := Lib.hid (g6.vblk (HPR.out.below HSY4.out))
          have HQ6 := Lib.hid (g6.rblk (HQR.out.below HSY4.out))
          obtain ⟨A6, n6, c6, rfl⟩ := ownL_formN HL6.out
          have hnn : n0 ≤ 1000000 := HNN.out
          clear hl6 g6
          go_wp2_with fail
          refine NoPanic.normal ?_
          go_wp2_with fail
          go_roundw
          case rel => exact ⟨j + 1, by omega, by go_num, by rw [Hid, fromK_succ, ← List.append_assoc]; exact HL6.out, HG6.out, HP6.out, HQ6.out⟩
          case measure => simp [intOf]; omega
      · skip
        go_simp
        refine hK.out _ _ (HSD.out.alloc HSD.out.size _) ?_
        clear hK K
        (try simp only [Act.put, List.setIfInBounds_toArray, List.set_cons_zero, List.set_cons_succ])
        generalize hX : World.alloc D _ = Y1
        have HSY1 : Hid (Below wr.heap.size wr Y1) := by rw [← hX]; exact HSD.out.alloc HSD.out.size _
        have HXY1 : Hid (Below D.heap.size D Y1) := by rw [← hX]; exact al_below _ _
        have HZY1 : Hid (Y1.heap.size = D.heap.size + 1) := by rw [← hX]; exact World.size_alloc _ _
        have HRN : Hid (RdI Y1 (.slice (some ⟨D.heap.size, 0, none⟩) 1 1) [(j : Int) + 1]) := by rw [← hX]; exact rdI_blk [(j : Int) + 1] (by simp) D
        clear hX
        refine wpE_br [4] (by kernel_rfl) ?_
        refine AllE.cons rfl rfl (fun K hK => ?_) AllE.nil
        go_simp
        refine hK.out _ _ (HSY1.out.alloc HSY1.out.size _) ?_
        clear hK K
        (try simp only [Act.put, List.setIfInBounds_toArray, List.set_cons_zero, List.set_cons_succ])
        generalize hX : World.alloc Y1 _ = Y2
        have HSY2 : Hid (Below wr.heap.size wr Y2) := by rw [← hX]; exact HSY1.out.alloc HSY1.out.size _
        have HXY2 : Hid (Below Y1.heap.size Y1 Y2) := by rw [← hX]; exact al_below _ _
        have HZY2 : Hid (Y2.heap.size = Y1.heap.size + 1) := by rw [← hX]; exact World.size_alloc _ _
        have HE0 : Hid (OwnI Y2 Y1.heap.size (.slice (some ⟨Y1.heap.size, 0, none⟩) 0 0) []) := by rw [← hX]; exact own_newI Y1 _ _ rfl (Nat.le_refl _)
        have HBS : Hid (wr.heap.size ≤ Y1.heap.size) := HSY1.out.size
        clear hX
        refine wpE_br [6] (by kernel_rfl) ?_
        refine AllE.cons rfl rfl (fun K hK => ?_) AllE.nil
        refine wp_app_ints (.tmp 42) (.tmp 43) rfl Y1.heap.size _ [] rfl HE0.out _ u rfl (HUR.out.rd.below HSY2.out) (by have := HUL.out; simp; omega) HXY2.out.size ?_
        intro vc Y3 ho5 hg5 _
        obtain ⟨_, Bc, cc, rfl⟩ := own_slice ho5
        have HSY3 := Lib.hid (below_grown HSY2.out HBS.out HE0.out hg5)
        refine hK.out _ _ HSY3.out ?_
        clear hK K
        (try simp only [Act.put, List.setIfInBounds_toArray, List.set_cons_zero, List.set_cons_succ])
        have HCL : Hid (OwnI Y3 Y1.heap.size (.slice Bc u.length cc) u) := ho5
        have HGC := Lib.hid hg5
        clear ho5 hg5
        have HRN3 : Hid (RdI Y3 (.slice (some ⟨D.heap.size, 0, none⟩) 1 1) [(j : Int) + 1]) := rd_far (HRN.out.below HXY2.out) HGC.out (fun e => by have e : Y1.heap.size = D.heap.size := Option.some.inj e; have := HZY1.out; omega)
        refine wpE_br [9] (by kernel_rfl) ?_
        refine AllE.cons rfl rfl (fun K hK => ?_) AllE.nil
        refine wp_app_ints (.tmp 44) (.tmp 46) rfl Y1.heap.size _ u rfl HCL.out _ [(j : Int) + 1] rfl HRN3.out (by have := HUL.out; simp; omega) (Nat.le_trans HXY2.out.size HGC.out.size) ?_
        intro v5 Y4 ho5 hg5 _
        have HSY4 := Lib.hid (below_grown HSY3.out HBS.out HCL.out hg5)
        refine hK.out _ _ HSY4.out ?_
        clear hK K
        (try simp only [Act.put, List.setIfInBounds_toArray, List.set_cons_zero, List.set_cons_succ])
        have HO5 : Hid (OwnI Y4 w₀.heap.size v5 (u ++ [(j : Int) + 1])) := own_base ho5 (by have := HBWR.out.size; have := HBS.out; omega)
        clear ho5 hg5
        obtain ⟨B5, n5, c5, rfl⟩ := own_sliceN HO5.out
        refine wpE_rest 11 (by kernel_rfl) ?_
        simp only [List.drop_succ_cons, List.drop_zero]
        have HCAP6 : Hid ((Ls2 ++ fromK (fromL I R wl k') u j).length + cF n0 k' ≤ 1000000) := by
          have h1 := fromK_len I R wl k' u j
          rw [HFA.out.n] at h1
          have h2 : (j + 1) * cF n0 k' ≤ n0 * cF n0 k' := Nat.mul_le_mul_right _ hlt
          rw [Nat.succ_mul] at h2
          have h3 := HCAP.out
          rw [cF] at h3
          have h4 := HCAP2.out
          rw [Hid, List.length_append]
          clear HCAP HCAP2
          generalize (fromK (fromL I R wl k') u j).length = x1 at h1 ⊢
          generalize j * cF n0 k' = x2 at h1 h2
          generalize n0 * cF n0 k' = x3 at h2 h3
          omega
        have HLEN6 : Hid ((u ++ [(j : Int) + 1]).length + k' = len) := by have := HLK.out; rw [Hid, List.length_append, List.length_singleton]; omega
        have HNZ6 : Hid (∀ x ∈ u ++ [(j : Int) + 1], x ≠ 0) := by
          intro x hx
          rcases List.mem_append.1 hx with hx | hx
          · exact HNZ.out x hx
          · rw [List.mem_singleton.1 hx]; omega
        have HG5 := Lib.hid (Gr.of_below HSY4.out HBWR.out.size)
        go_wp2_with fail
        refine (HIH.out k' rfl _ _ _ _ _ HLEN6.out HNZ6.out HO5.out (HBWR.out.trans HG5.out.1) (HLR.out.below HSY4.out) HCAP6.out).mono ?_
        rintro e Y9 ⟨⟨v6, rfl, hl6⟩, g6⟩
        have HL6 := Lib.hid hl6
        have HG6 := Lib.hid ((HGR.out.trans HG5.out).trans g6)
        have HP6 := Lib.hid (g6.vblk (HPR.out.below HSY4.out))
        have HQ6 := Lib.hid (g6.rblk (HQR.out.below HSY4.out))
        obtain ⟨A6, n6, c6, rfl⟩ := ownL_formN HL6.out
        have hnn : n0 ≤ 1000000 := HNN.out
        clear hl6 g6
        go_wp2_with fail
        refine NoPanic.normal ?_
        go_wp2_with fail
        go_roundw
        case rel => exact ⟨j + 1, by omega, by go_num, by rw [Hid, fromK_succ, ← List.append_assoc]; exact HL6.out, HG6.out, HP6.out, HQ6.out⟩
        case measure => simp [intOf]; omega
    · obtain rfl : n0 = j := by omega
      have d2 : decide ((n0 : Int) + 1 ≤ (n0 : Int)) = false := by simp; omega
      have d2' : decide (n0 + 1 ≤ n0) = false := by simp
      have d2'' : decide (n0 < n0) = false := by simp
      have HLF : Hid (OwnL wr w₀.heap.size (.slice Al nl cl) (Ls ++ fromL I R wl (k' + 1) u)) := by rw [Hid, HFIN2.out, HFA.out.n]; exact HLR.out
      go_wp2_with fail
      go_ret
      exact ⟨⟨_, rfl, HLF.out⟩, HGR.out⟩
theorem from_any (HFA : Hid (FrArg w₀ I R wl A0 n0 c0 A1 n1 c1 A2 n2 c2 A3 n3 c3 A4 n4 c4 beg fin Aw nw cw)) (len : Nat) (hlen : len ≤ 24) :
    ∀ k, FromC w₀ I R wl A0 n0 c0 A1 n1 c1 A2 n2 c2 A3 n3 c3 A4 n4 c4 beg fin Aw nw cw len k
  | 0 => from_step HFA len hlen 0 (fun k' h => by omega)
  | k + 1 => from_step HFA len hlen (k + 1) (fun k' h => by
      have h : k = k' := by omega
      rw [← h]
      exact from_any HFA len hlen k)
end
end Go.Proofs.Ytdijlakeonionaa
