/-
  The reference 20: from.
-/
import Derived.Test.YtmejihlplbeekaaH4
import Derived.Test.YtmejihlplbeekaaG9
namespace Go.Proofs.Ytmejihlplbeekaa
open Go.ChangeShapes Go.WideShapes Go.ChangeAt Go.RowKit
/-- of the blocks below n, none but rows of lists from B on is changed -/
def FrL (n B : Nat) (w w' : World) : Prop := Below 0 w w' ∧ ∀ k, k < n → (∀ cs m, w.heap[k]? = some (.cells cs 23 m) → k < B) → w'.heap[k]? = w.heap[k]?
section
variable {n B : Nat} {w w1 w2 : World}
theorem FrL.refl (n B : Nat) (w : World) : FrL n B w w := ⟨Below.refl _ _, fun _ _ _ => rfl⟩
theorem FrL.trans (h : FrL n B w w1) (k : FrL n B w1 w2) : FrL n B w w2 := ⟨h.1.trans k.1, fun j h1 h4 => by
  have e := h.2 j h1 h4
  exact (k.2 j h1 (fun cs m hc => h4 cs m (by rw [← e]; exact hc))).trans e⟩
theorem FrL.size (h : FrL n B w w1) : w.heap.size ≤ w1.heap.size := h.1.size
theorem FrL.of_below (h : Below n w w1) : FrL n B w w1 := ⟨h.mono (Nat.zero_le _), fun k h1 _ => h.block k h1⟩
theorem FrL.mono {n' : Nat} (h : FrL n B w w1) (hn : n' ≤ n) : FrL n' B w w1 := ⟨h.1, fun k h1 h4 => h.2 k (by omega) h4⟩
theorem FrL.grownL (h : FrL n B w w1) {v : Value} {m : Nat} {us : List Value} (ho : w1.ownsRow B 23 1 v m us) (hg : w1.grownBy w2 v.ownBlock) (hn : n ≤ w1.heap.size) : FrL n B w w2 := by
  refine ⟨h.1.grown hg (Nat.zero_le _) (fun j _ => Nat.zero_le j), fun k h1 h4 => ?_⟩
  have e := h.2 k h1 h4
  rw [← e]
  refine hg.block k (by omega) fun he => ?_
  obtain ⟨cs, hc⟩ := row_type ho he.symm
  have hB := (World.ownsRow.lt ho k he.symm).1
  have := h4 cs (0, 0) (by rw [← e]; exact hc)
  omega
theorem FrL.inner (h : FrL n B w w1) (k : FrL w1.heap.size B w1 w2) (hn : n ≤ w1.heap.size) : FrL n B w w2 := h.trans (k.mono hn)
theorem FrL.below (h : FrL n B w w1) (hn : B ≤ n) : Below B w w1 :=
  ⟨h.1.os, h.1.tape, h.1.output, h.1.size, fun k hk => h.2 k (by omega) (fun _ _ _ => hk)⟩
theorem FrL.setBox (h : FrL n B w w1) (p : Addr) (u : Value) (hp : n ≤ p.block) : FrL n B w (w1.setCell p u) := by
  refine ⟨h.1.setCell (Nat.zero_le _) u, fun k h1 h4 => ?_⟩
  rw [← h.2 k h1 h4]
  exact Below.heap_setCell w1 p u k (fun e => by omega)
theorem FrL.cells (h : FrL n B w w1) {k : Nat} {cs : Array Value} {t : TypeId} {m : Nat × Nat} (hk : w.heap[k]? = some (.cells cs t m)) (ht : t ≠ 23) (hn : k < n) : w1.heap[k]? = some (.cells cs t m) :=
  (h.2 k hn (fun cs' m' hc => by rw [hk] at hc; cases hc; exact absurd rfl ht)).trans hk
theorem FrL.bls (h : FrL n B w w1) {g : Nat} {M : List Bool} (hk : Bls w g M) (hn : g < n) : Bls w1 g M := h.cells hk (by decide) hn
theorem FrL.ownI {base : Nat} {v : Value} {l : List Int} (h : FrL n B w w1) (ho : OwnI w base v l) (hn : w.heap.size ≤ n) : OwnI w1 base v l :=
  own_keep ho fun k cs m _ hk _ => (h.cells hk (by decide) (by have := (Array.getElem?_eq_some_iff.1 hk).1; omega)).trans hk.symm
end
/-- what the search of the reference reads: it lies in the world w₀ -/
structure REnv (w₀ : World) (va vf vin vall : Value) (gd : Nat) (D : List Int) (F : PFst) (xs : List Int) : Prop where
  fst : RdF w₀ (.agg #[.int .i64 F.states, va, vf]) F
  inp : RdI w₀ vin xs
  all : RdI w₀ vall (symsX F.arcs)
  dIn : Ins w₀ gd D
  dOk : DInv F xs D
  dAcc : ∀ c, PBox F xs c → ∀ u, AccP F xs c u → D.getD (ixP xs c.q.toNat c.i.toNat) 0 ≤ (u.length : Int)
  fin : FinOk F
  xl : xs.length ≤ 1000
  fl : F.final.length ≤ 1000000
def sCells (F : PFst) (sz : Nat) (va vf vin vall : Value) (gd M : Nat) (fv : Value) : Array Value := #[.int .i64 F.states, va, vf, vin, vall, .slice (some ⟨gd, 0, none⟩) sz sz, .int .i64 (M : Int), fv]
def SBlk (w : World) (b : Nat) (F : PFst) (sz : Nat) (va vf vin vall : Value) (gd M : Nat) (fv : Value) : Prop := w.heap[b]? = some (.cells (sCells F sz va vf vin vall gd M fv) 67 (0, 0))
section
variable {w w' : World} {b : Nat} {F : PFst} {sz : Nat} {va vf vin vall : Value} {gd M : Nat} {fv : Value}
theorem SBlk.lt (h : SBlk w b F sz va vf vin vall gd M fv) : b < w.heap.size := (Array.getElem?_eq_some_iff.1 h).1
theorem SBlk.same (h : SBlk w b F sz va vf vin vall gd M fv) (hb : w'.heap[b]? = w.heap[b]?) : SBlk w' b F sz va vf vin vall gd M fv := hb.trans h
theorem SBlk.below (h : SBlk w b F sz va vf vin vall gd M fv) (hb : Below w.heap.size w w') : SBlk w' b F sz va vf vin vall gd M fv := (hb.block b h.lt).trans h
theorem SBlk.cells (h : SBlk w b F sz va vf vin vall gd M fv) : w.cell? ⟨b, 0, none⟩ = some (.int .i64 F.states) ∧ w.cell? ⟨b, 1, none⟩ = some va ∧ w.cell? ⟨b, 2, none⟩ = some vf ∧ w.cell? ⟨b, 3, none⟩ = some vin ∧
    w.cell? ⟨b, 4, none⟩ = some vall ∧ w.cell? ⟨b, 5, none⟩ = some (.slice (some ⟨gd, 0, none⟩) sz sz) ∧ w.cell? ⟨b, 6, none⟩ = some (.int .i64 (M : Int)) ∧ w.cell? ⟨b, 7, none⟩ = some fv := by
  refine ⟨?_, ?_, ?_, ?_, ?_, ?_, ?_, ?_⟩ <;> rw [cell_of_row w b _ _ _ (0, 0) h] <;> rfl
theorem SBlk.free (h : SBlk w b F sz va vf vin vall gd M fv) (j : Nat) : w.frozen? ⟨b, j, none⟩ = false := by
  unfold SBlk at h
  simp [World.frozen?, h]
theorem SBlk.set7 (h : SBlk w b F sz va vf vin vall gd M fv) (u : Value) : SBlk (w.setCell ⟨b, 7, none⟩ u) b F sz va vf vin vall gd M u := by
  unfold SBlk at h ⊢
  simp [World.setCell, Array.getElem?_modify, h, sCells]
end
/-- what the search leaves: the lists Fs with E behind them, or more than M lists -/
def FPost (M : Nat) (Fs E Fs' : List (List Int)) : Prop := Fs'.length ≤ M + 1 ∧ ((Fs.length + E.length ≤ M ∧ Fs' = Fs ++ E) ∨ (M < Fs.length + E.length ∧ M < Fs'.length))
def FromC (w₀ : World) (va vf vin vall : Value) (gd M : Nat) (F : PFst) (xs : List Int) (k : Nat) : Prop :=
  ∀ (w : World) (gm : Nat) (vl fv : Value) (l : List Int) (Fs : List (List Int)) (Mk : List Bool), Below w₀.heap.size w₀ w → Bls w gm Mk → Mk.length = szP F xs → ClosedP F xs (mkS F xs Mk) → OwnI w w₀.heap.size vl l → l.length + k ≤ 1000 → OwnL w w₀.heap.size fv Fs → Fs.length ≤ M + 1 →
    Calls Try.prog 42 #[.agg (sCells F (szP F xs) va vf vin vall gd M fv), vl, .slice (some ⟨gm, 0, none⟩) (szP F xs) (szP F xs), .int .i64 (k : Int)] w fun e w' =>
      (∃ fv', e = .returned (.agg (sCells F (szP F xs) va vf vin vall gd M fv')) ∧ ∃ Fs', OwnL w' w₀.heap.size fv' Fs' ∧ FPost M Fs ((enumW (symsX F.arcs) k (AccS F xs (mkS F xs Mk))).map (l ++ ·)) Fs') ∧ FrL w.heap.size w₀.heap.size w w'
def ZBlk (w : World) (b : Nat) : Prop := w.heap[b]? = some (.cells #[.int .i64 0, .slice none 0 0, .slice none 0 0, .slice none 0 0, .slice none 0 0, .slice none 0 0, .int .i64 0, .slice none 0 0] 67 (0, 0))
section
variable {w w' : World} {b : Nat}
theorem ZBlk.lt (h : ZBlk w b) : b < w.heap.size := (Array.getElem?_eq_some_iff.1 h).1
theorem ZBlk.same (h : ZBlk w b) (hb : w'.heap[b]? = w.heap[b]?) : ZBlk w' b := hb.trans h
theorem ZBlk.below (h : ZBlk w b) (hb : Below w.heap.size w w') : ZBlk w' b := (hb.block b h.lt).trans h
theorem ZBlk.cells (h : ZBlk w b) : w.cell? ⟨b, 0, none⟩ = some (.int .i64 0) ∧ w.cell? ⟨b, 1, none⟩ = some (.slice none 0 0) ∧ w.cell? ⟨b, 2, none⟩ = some (.slice none 0 0) ∧ w.cell? ⟨b, 3, none⟩ = some (.slice none 0 0) ∧
    w.cell? ⟨b, 4, none⟩ = some (.slice none 0 0) ∧ w.cell? ⟨b, 5, none⟩ = some (.slice none 0 0) ∧ w.cell? ⟨b, 6, none⟩ = some (.int .i64 0) ∧ w.cell? ⟨b, 7, none⟩ = some (.slice none 0 0) := by
  refine ⟨?_, ?_, ?_, ?_, ?_, ?_, ?_, ?_⟩ <;> rw [cell_of_row w b _ _ _ (0, 0) h] <;> rfl
theorem ZBlk.free (h : ZBlk w b) (j : Nat) : w.frozen? ⟨b, j, none⟩ = false := by
  unfold ZBlk at h
  simp [World.frozen?, h]
end
theorem SBlk.store8 {w : World} {b : Nat} {F : PFst} {sz : Nat} {va vf vin vall : Value} {gd M : Nat} {fv : Value} (h : SBlk w b F sz va vf vin vall gd M fv) (fv' : Value) :
    SBlk ((((((((w.setCell ⟨b, 0, none⟩ (.int .i64 F.states)).setCell ⟨b, 1, none⟩ va).setCell ⟨b, 2, none⟩ vf).setCell ⟨b, 3, none⟩ vin).setCell ⟨b, 4, none⟩ vall).setCell ⟨b, 5, none⟩ (.slice (some ⟨gd, 0, none⟩) sz sz)).setCell ⟨b, 6, none⟩ (.int .i64 (M : Int))).setCell ⟨b, 7, none⟩ fv') b F sz va vf vin vall gd M fv' := by
  unfold SBlk at h ⊢
  simp [World.setCell, Array.getElem?_modify, h, sCells]
theorem OwnL.form {w : World} {B : Nat} {v : Value} {Ls : List (List Int)} (h : OwnL w B v Ls) : ∃ A c, v = .slice A Ls.length c := by
  obtain ⟨us, hus⟩ := h.row
  rcases hus.2 with ⟨h1, h2⟩ | ⟨g1, cap1, cur1, h1, _⟩
  · exact ⟨none, 0, by rw [h1, h2]⟩
  · exact ⟨_, _, h1⟩
theorem SBlk.app {w w' : World} {b : Nat} {F : PFst} {sz : Nat} {va vf vin vall : Value} {gd M : Nat} {fv v : Value} {B : Nat} {Ls : List (List Int)} (h : SBlk w b F sz va vf vin vall gd M fv) (hv : OwnL w B v Ls) (hg : w.grownBy w' v.ownBlock) : SBlk w' b F sz va vf vin vall gd M fv := by
  obtain ⟨us, hu⟩ := hv.row
  refine h.same (hg.block b h.lt fun e => ?_)
  obtain ⟨cs, hc⟩ := row_type hu e.symm
  unfold SBlk at h
  rw [h] at hc
  cases hc
theorem ZBlk.app {w w' : World} {b : Nat} {v : Value} {B : Nat} {Ls : List (List Int)} (h : ZBlk w b) (hv : OwnL w B v Ls) (hg : w.grownBy w' v.ownBlock) : ZBlk w' b := by
  obtain ⟨us, hu⟩ := hv.row
  refine h.same (hg.block b h.lt fun e => ?_)
  obtain ⟨cs, hc⟩ := row_type hu e.symm
  unfold ZBlk at h
  rw [h] at hc
  cases hc
theorem SBlk.facts7 {w : World} {b : Nat} {F : PFst} {sz : Nat} {va vf vin vall : Value} {gd M : Nat} {fv : Value} (h : SBlk w b F sz va vf vin vall gd M fv) : w.cell? ⟨b, 7, none⟩ = some fv ∧ w.frozen? ⟨b, 7, none⟩ = false ∧ b < w.heap.size := ⟨h.cells.2.2.2.2.2.2.2, h.free 7, h.lt⟩
theorem OwnL.far {w : World} {base b : Nat} {v u : Value} {Ls : List (List Int)} {j : Nat} (h : OwnL w base v Ls) {cs : Array Value} {t : TypeId} (hb : w.heap[b]? = some (.cells cs t (0, 0))) (h1 : t ≠ 23) (h2 : t ≠ 3) : OwnL (w.setCell ⟨b, j, none⟩ u) base v Ls :=
  h.keep fun k cs' t' m hk ht _ => Below.heap_setCell w ⟨b, j, none⟩ u k (fun e => by
    simp only at e
    rw [e, hb] at hk
    cases hk
    rcases ht with h | h
    · exact h1 h
    · exact h2 h)
theorem FPost.trans {M : Nat} {Fs E1 Fs2 E2 Fs3 : List (List Int)} (h : FPost M Fs E1 Fs2) (k : FPost M Fs2 E2 Fs3) : FPost M Fs (E1 ++ E2) Fs3 := by
  refine ⟨k.1, ?_⟩
  simp only [List.length_append]
  rcases h.2 with ⟨h1, h2⟩ | ⟨h1, h2⟩
  · have hl : Fs2.length = Fs.length + E1.length := by rw [h2, List.length_append]
    rcases k.2 with ⟨k1, k2⟩ | ⟨k1, k2⟩
    · exact .inl ⟨by omega, by rw [k2, h2, List.append_assoc]⟩
    · exact .inr ⟨by omega, k2⟩
  · rcases k.2 with ⟨k1, k2⟩ | ⟨k1, k2⟩
    · omega
    · exact .inr ⟨by omega, k2⟩
theorem enumX_whole (F : PFst) (xs : List Int) (V : Plc → Bool) (l : List Int) (k : Nat) :
    (enumW (symsX F.arcs) k (AccS F xs V)).map (l ++ ·) = (enumW (symsX F.arcs) 0 (AccS F xs V)).map (l ++ ·) ++ partW F xs V (symsX F.arcs) l k (symsX F.arcs).length := by
  cases k with
  | zero => simp [partW]
  | succ k =>
    rw [show enumW (symsX F.arcs) (k + 1) (AccS F xs V) = enumW (symsX F.arcs) 0 (AccS F xs V) ++ (symsX F.arcs).flatMap fun x => (enumW (symsX F.arcs) k (fun w => AccS F xs V (x :: w))).map (x :: ·) from rfl]
    rw [List.map_append, List.map_flatMap]
    simp only [partW, List.take_length]
    congr 2
    funext x
    rw [List.map_map]
    congr 1
    funext w
    simp
set_option maxHeartbeats 4000000 in
set_option maxRecDepth 100000 in
theorem from_step (w₀ : World) (va vf vin vall : Value) (gd M : Nat) (D : List Int) (F : PFst) (xs : List Int) (he : REnv w₀ va vf vin vall gd D F xs) (hM : M ≤ 900000) (k : Nat)
    (hrec : ∀ k', k = k' + 1 → FromC w₀ va vf vin vall gd M F xs k') : FromC w₀ va vf vin vall gd M F xs k := by
  intro w gm vl fv l Fs Mk hB hMk hMl hCl hl hlen hL hFM
  have HE := Lib.hid he
  have HREC := Lib.hid hrec
  obtain ⟨_, _, hee, ha, hf⟩ := he.fst
  cases hee
  obtain ⟨A, n, c, rfl, h1, h2, hn, hr⟩ := ha.op
  obtain ⟨A', n', c', rfl, h1', h2', hn', hr'⟩ := hf.op
  obtain ⟨Ax, nx, cx, rfl, h1x, h2x, hnx, hrx⟩ := he.inp.op
  obtain ⟨As, ns, cs, rfl, h1s, h2s, hns, hrs⟩ := he.all.op
  have hX := he.xl
  rw [hnx.out] at hX
  have HB := Lib.hid hB
  have HMK := Lib.hid hMk
  have HML := Lib.hid hMl
  have HCL := Lib.hid hCl
  obtain ⟨_, Al, cl, rfl⟩ := own_slice hl
  have HL := Lib.hid hl
  have HLE := Lib.hid hlen
  have HFL := Lib.hid hL
  have HFM := Lib.hid hFM
  have HD0 : Hid (D.length = szP F xs) := he.dOk.len
  obtain ⟨sz, hsz⟩ : ∃ sz, szP F xs = sz := ⟨_, rfl⟩
  have HSZ := Lib.hid hsz
  have hszb : sz ≤ 4100096 := by
    rw [← hsz, szP]
    have h3 : F.states.toNat * (xs.length + 1) ≤ 4096 * 1001 := Nat.mul_le_mul (by have := he.fin.st; omega) (by have := he.xl; omega)
    exact h3
  rw [hsz] at HD0 HML ⊢
  obtain ⟨n0, hn0⟩ : ∃ n0, w.heap.size = n0 := ⟨_, rfl⟩
  have HN0 := Lib.hid hn0
  have HGM : Hid (gm < n0) := by have := hMk.lt; unfold Hid; omega
  clear he hrec ha hf hr hrx hB hMk hMl hCl hl hlen hL hFM hsz
  obtain ⟨uf, cf, rfl⟩ : ∃ A c, fv = .slice A Fs.length c := by
    obtain ⟨us, hus⟩ := HFL.out.row
    rcases hus.2 with ⟨h1, h2⟩ | ⟨g1, cap1, cur1, h1, _⟩
    · exact ⟨none, 0, by rw [h1, h2]⟩
    · exact ⟨_, _, h1⟩
  obtain ⟨E, hE⟩ : ∃ E, (enumW (symsX F.arcs) k (AccS F xs (mkS F xs Mk))).map (l ++ ·) = E := ⟨_, rfl⟩
  rw [hE]
  have HEE := Lib.hid hE
  clear hE
  simp only [sCells]
  go_enter Try.func42, Try.ntmps42
  go_wp2_with fail
  generalize hw1 : World.alloc w _ = W1
  have HB1 : Hid (Below w.heap.size w W1) := by rw [← hw1]; exact (Below.refl _ _).alloc (Nat.le_refl _) _
  have HS1 : Hid (SBlk W1 n0 F sz (.slice A n c) (.slice A' n' c') (.slice Ax nx cx) (.slice As ns cs) gd M (.slice uf Fs.length cf)) := by rw [← hw1, ← hn0]; exact heap_alloc_new w _
  have hs1 : W1.heap.size = n0 + 1 := by rw [← hw1, ← hn0]; simp
  generalize hw2 : World.alloc W1 _ = W
  have HBW : Hid (Below n0 w W) := by rw [← hn0]; exact bchain HB1.out (by rw [← hw2]; exact (Below.refl _ _).alloc (Nat.le_refl _) _)
  have HSW : Hid (SBlk W n0 F sz (.slice A n c) (.slice A' n' c') (.slice Ax nx cx) (.slice As ns cs) gd M (.slice uf Fs.length cf)) := HS1.out.below (by rw [← hw2]; exact (Below.refl _ _).alloc (Nat.le_refl _) _)
  obtain ⟨br, hbr⟩ : ∃ br, n0 + 1 = br := ⟨_, rfl⟩
  have HRW : Hid (ZBlk W br) := by rw [← hw2, ← hbr, ← hs1]; exact heap_alloc_new W1 _
  have HBR : Hid (br = n0 + 1) := hbr.symm
  rw [hbr]
  clear hw1 hw2 hs1 hbr HB1 HS1
  have hb0 : Hid (w₀.heap.size ≤ n0) := by have := HB.out.size; have := HN0.out; unfold Hid; omega
  have HBL : Hid (Below w₀.heap.size w₀ W) := HB.out.trans (HBW.out.mono hb0.out)
  have HMW : Hid (Bls W gm Mk) := HMK.out.below (by rw [hn0]; exact HBW.out)
  have HDW : Hid (Ins W gd D) := HE.out.dIn.below HBL.out
  have HFLW := Lib.hid (HFL.out.below (by rw [hn0]; exact HBW.out))
  have HLW : Hid (OwnI W w₀.heap.size (.slice Al l.length cl) l) := own_below HL.out (by rw [hn0]; exact HBW.out)
  have HFRW : Hid (FrL n0 w₀.heap.size w W) := FrL.of_below HBW.out
  clear hn0 HFL
  refine (need_any W gm gd sz Mk D HMW.out HDW.out HML.out HD0.out (by omega)).mono ?_
  rintro e Wn ⟨⟨z, rfl, hz⟩, hWn⟩
  subst hWn
  have HZ := Lib.hid hz
  clear hz
  by_cases hzk : (k : Int) < z
  · have hd : decide ((k : Int) < z) = true := by simpa using hzk
    have HNIL : Hid (E = []) := by
      rw [Hid, ← HEE.out, enumW_nil]
      · rfl
      · rintro u hu ⟨c, hc, hac⟩
        have hb := mkS_box Mk c hc
        have h4 := HE.out.dAcc c hb u hac
        rw [mkS_iff hb] at hc
        have h5 := HZ.out _ (by rw [← HSZ.out]; exact hb.ix) hc
        omega
    clear hzk
    have hpo : FPost M Fs E Fs := ⟨HFM.out, by
      rw [HNIL.out]
      rcases Nat.lt_or_ge M Fs.length with h | h
      · exact .inr ⟨by simpa using h, h⟩
      · exact .inl ⟨by simpa using h, by simp⟩⟩
    have HPOST := Lib.hid hpo
    clear hpo
    obtain ⟨k0, k1, k2, k3, k4, k5, k6, k7⟩ := HSW.out.cells
    have hl0 := HSW.out.lt
    obtain ⟨r0, r1, r2, r3, r4, r5, r6, r7⟩ := HRW.out.cells
    have hfz := HRW.out.free
    have hl1 := HRW.out.lt
    go_wp2_with fail
    refine bodyPost_ret (v := .agg #[.int .i64 F.states, .slice A n c, .slice A' n' c', .slice Ax nx cx, .slice As ns cs, .slice (some ⟨gd, 0, none⟩) sz sz, .int .i64 M, (.slice uf Fs.length cf)]) ?_ rfl ?_
    · simp [results, Try.results42, go_sem, r0, r1, r2, r3, r4, r5, r6, r7]
    generalize hW8 : World.setCell _ _ _ = W8
    have hset : ∀ k, k ≠ br → W8.heap[k]? = Wn.heap[k]? := fun k hk => by
      rw [← hW8]
      iterate 8 (refine (Below.heap_setCell _ _ _ k hk).trans ?_)
      rfl
    have hfr : FrL n0 w₀.heap.size w W8 := by
      rw [← hW8]
      iterate 8 (refine FrL.setBox ?_ _ _ (by have := HBR.out; simp only; omega))
      exact HFRW.out
    rw [HN0.out]
    exact ⟨⟨_, rfl, Fs, HFLW.out.keep fun k cs t m hk ht _ => hset k (fun e => by
      rw [e, HRW.out] at hk
      cases hk
      rcases ht with h | h
      · exact absurd h (by decide)
      · exact absurd h (by decide)), HPOST.out⟩, hfr⟩
  have hd : decide ((k : Int) < z) = false := by simpa using hzk
  by_cases hfm : M < Fs.length
  · have hd2 : decide ((M : Int) < (Fs.length : Int)) = true := by simpa using hfm
    have HLT := Lib.hid hfm
    clear hfm hzk
    have hpo : FPost M Fs E Fs := ⟨HFM.out, .inr ⟨by have := HLT.out; omega, HLT.out⟩⟩
    have HPOST := Lib.hid hpo
    clear hpo
    obtain ⟨k0, k1, k2, k3, k4, k5, k6, k7⟩ := HSW.out.cells
    have hl0 := HSW.out.lt
    obtain ⟨r0, r1, r2, r3, r4, r5, r6, r7⟩ := HRW.out.cells
    have hfz := HRW.out.free
    have hl1 := HRW.out.lt
    go_wp2_with fail
    refine bodyPost_ret (v := .agg #[.int .i64 F.states, .slice A n c, .slice A' n' c', .slice Ax nx cx, .slice As ns cs, .slice (some ⟨gd, 0, none⟩) sz sz, .int .i64 M, (.slice uf Fs.length cf)]) ?_ rfl ?_
    · simp [results, Try.results42, go_sem, r0, r1, r2, r3, r4, r5, r6, r7]
    generalize hW8 : World.setCell _ _ _ = W8
    have hset : ∀ k, k ≠ br → W8.heap[k]? = Wn.heap[k]? := fun k hk => by
      rw [← hW8]
      iterate 8 (refine (Below.heap_setCell _ _ _ k hk).trans ?_)
      rfl
    have hfr : FrL n0 w₀.heap.size w W8 := by
      rw [← hW8]
      iterate 8 (refine FrL.setBox ?_ _ _ (by have := HBR.out; simp only; omega))
      exact HFRW.out
    rw [HN0.out]
    exact ⟨⟨_, rfl, Fs, HFLW.out.keep fun k cs t m hk ht _ => hset k (fun e => by
      rw [e, HRW.out] at hk
      cases hk
      rcases ht with h | h
      · exact absurd h (by decide)
      · exact absurd h (by decide)), HPOST.out⟩, hfr⟩
  have hd2 : decide ((M : Int) < (Fs.length : Int)) = false := by simpa using hfm
  have hd3 : decide (M < Fs.length) = false := by simpa using hfm
  have HFM2 : Hid (Fs.length ≤ M) := by unfold Hid; omega
  clear hfm hzk
  obtain ⟨k0, k1, k2, k3, k4, k5, k6, k7⟩ := HSW.out.cells
  have hl0 := HSW.out.lt
  go_wp2_with fail
  clear hd hd2 hd3 k0 k1 k2 k3 k4 k5 k6 k7 hl0
  go_loopw [10, 11] (fun v10 v11 wr => ∃ (j nq : Nat) (b : Bool), j ≤ n' ∧ v10 = .bool b ∧ v11 = .int .i64 j ∧ wr = Wn.drewN nq ∧ Hid (b = (F.final.take j).any fun t => mkS F xs Mk ⟨t, xs.length⟩)) (fun _ i _ => n' - (intOf i).toNat)
  case atStart => exact ⟨0, 0, false, Nat.zero_le _, rfl, rfl, rfl, rfl⟩
  case round =>
    obtain ⟨j, nq, b, hj, rfl, rfl, rfl, HBJ⟩ := hrel
    generalize hWd : World.drewN Wn nq = Wd
    have HSD : Hid (SBlk Wd n0 F sz (.slice A n c) (.slice A' n' c') (.slice Ax nx cx) (.slice As ns cs) gd M (.slice uf Fs.length cf)) := by rw [← hWd]; exact HSW.out
    have HMD : Hid (Bls Wd gm Mk) := by rw [← hWd]; exact HMW.out
    have HWD := Lib.hid hWd
    have hbd : Below w₀.heap.size w₀ Wd := by rw [← hWd]; exact below_drewN HBL.out _
    clear hWd
    obtain ⟨k0, k1, k2, k3, k4, k5, k6, k7⟩ := HSD.out.cells
    have hl0 := HSD.out.lt
    by_cases hlt : j < n'
    · obtain ⟨fb, fo, x, rfl, hfb, hdr, e0⟩ := (hr'.out j hlt).below hbd
      have hxm : x ∈ F.final := List.mem_of_mem_drop (by rw [hdr.out]; exact List.mem_cons_self)
      obtain ⟨hx0, hxS⟩ := HE.out.fin.right.2.2 x hxm
      have HTK : Hid (F.final.take (j + 1) = F.final.take j ++ [x]) := take_of_drop hdr.out
      obtain ⟨q, rfl⟩ : ∃ q : Nat, x = (q : Int) := ⟨x.toNat, by omega⟩
      obtain ⟨p2, hp2⟩ : ∃ p2 : Nat, (q : Int) * ((nx : Int) + 1) = (p2 : Int) := ⟨q * (nx + 1), by simp⟩
      have hix : p2 + nx = ixP xs q xs.length := by
        have e1 : p2 = q * (nx + 1) := by exact_mod_cast hp2.symm
        rw [ixP, hnx.out, e1]
      have hil : p2 + nx < sz := by
        rw [hix, ← HSZ.out, szP]; exact ixP_lt (by omega) (Nat.le_refl _)
      have hck := HMD.out.cell (j := p2 + nx) (by rw [HML.out]; exact hil)
      have hgml := HMD.out.lt
      have HNXT : Hid (((F.final.take (j + 1)).any fun t => mkS F xs Mk ⟨t, xs.length⟩) = (b || Mk.getD (p2 + nx) false)) := by
        rw [Hid, HTK.out, List.any_append, ← HBJ.out, hix]
        simp only [List.any_cons, List.any_nil, Bool.or_false]
        rw [mkS_at hxS (Nat.le_refl _)]
      clear hx0 hxS hxm hix
      obtain ⟨mv, hmv⟩ : ∃ mv, Mk.getD (p2 + nx) false = mv := ⟨_, rfl⟩
      rw [hmv] at hck HNXT
      clear hmv
      go_upto_region 8 with (fail)
      have hw1 : IntKind.i64.wrap ((nx : Int) + 1) = (nx : Int) + 1 := IntWalk.i64_in _ (by omega)
      have hw2 : IntKind.i64.wrap (p2 : Int) = (p2 : Int) := IntWalk.i64_in _ (by omega)
      have hw3 : IntKind.i64.wrap ((p2 : Int) + (nx : Int)) = (p2 : Int) + (nx : Int) := IntWalk.i64_in _ (by omega)
      refine wp_region_mix 17 [0, 1, 3, 4, 5, 6, 7, 8, 9, 10, 11, 12, 13, 14, 15, 16] [2] [(true, 0), (true, 1), (true, 2), (true, 3), (true, 4), (true, 5), (true, 6), (true, 7), (true, 8), (true, 9), (true, 10), (true, 11), (true, 12), (true, 13), (true, 14), (true, 15), (true, 16), (false, 17), (false, 18), (false, 19), (false, 20), (false, 21)] (fun w' => w' = Wd.drew) (by kernel_rfl) (by kernel_rfl) ?_
      rintro Z rfl
      refine ⟨rfl, ?_⟩
      have HS : Hid (∀ w' : World, w' = Wd.drew → w'.cell? ⟨n0, 2, none⟩ = some (.slice (some ⟨fb, fo, none⟩) n' c') ∧ w'.cell? ⟨n0, 3, none⟩ = some (.slice Ax nx cx) ∧ w'.cell? ⟨fb, fo + j, none⟩ = some (.int .i64 (q : Int))) := by
        rintro w' rfl
        exact ⟨k2, k3, e0⟩
      have HT : Hid (Wd.drew = Wd.drew) := rfl
      have ht1 : (0 : Int) ≤ (p2 : Int) + (nx : Int) := by omega
      have ht2 : (p2 : Int) + (nx : Int) < (sz : Int) := by omega
      have ht3 : ((p2 : Int) + (nx : Int)).toNat = p2 + nx := by omega
      cases b
      · iterate 17 (refine wpMix_q (v := ?_) rfl rfl (fun w' hS => ?_) ?_; rotate_left; (focus ((try obtain ⟨s0, s1, s2⟩ := HS.out _ (hS rfl)); clear hS; go_simp; try with_reducible rfl; done)); (try simp only [Act.put, List.setIfInBounds_toArray, List.set_cons_zero, List.set_cons_succ]))
        iterate 5 (refine wpMix_e rfl rfl (fun K hK => ?_); go_simp; refine hK.out _ _ (fun h => absurd h (by decide)) ?_; clear hK K; (try simp only [Act.put, List.setIfInBounds_toArray, List.set_cons_zero, List.set_cons_succ]))
        clear hw1 hw2 hw3 HS HT ht1 ht2 ht3
        refine wpMix_nil ?_
        refine NoPanic.normal ?_
        go_wp2_with fail
        go_roundw
        case rel => exact ⟨j + 1, nq + 1, mv, by omega, rfl, by go_num, by rw [← HWD.out]; rfl, by rw [Hid, HNXT.out]; rfl⟩
        case measure => simp [intOf]; omega
      · iterate 17 (first | (refine wpMix_q (v := ?_) rfl rfl (fun w' hS => ?_) ?_; rotate_left; (focus ((try obtain ⟨s0, s1, s2⟩ := HS.out _ (hS rfl)); clear hS; go_simp; try with_reducible rfl; done)); (try simp only [Act.put, List.setIfInBounds_toArray, List.set_cons_zero, List.set_cons_succ])) | (refine wpMix_qskip rfl rfl ?_; (try simp only [Act.put, List.setIfInBounds_toArray, List.set_cons_zero, List.set_cons_succ])))
        iterate 5 (first | (refine wpMix_e rfl rfl (fun K hK => ?_); go_simp; refine hK.out _ _ (fun h => absurd h (by decide)) ?_; clear hK K; (try simp only [Act.put, List.setIfInBounds_toArray, List.set_cons_zero, List.set_cons_succ])) | (refine wpMix_eskip rfl rfl (HT).out ?_; (try simp only [Act.put, List.setIfInBounds_toArray, List.set_cons_zero, List.set_cons_succ])))
        clear hw1 hw2 hw3 HS HT ht1 ht2 ht3
        refine wpMix_nil ?_
        refine NoPanic.normal ?_
        go_wp2_with fail
        go_roundw
        case rel => exact ⟨j + 1, nq + 1, true, by omega, rfl, by go_num, by rw [← HWD.out]; rfl, by rw [Hid, HNXT.out]; rfl⟩
        case measure => simp [intOf]; omega
    · obtain rfl : n' = j := by omega
      clear hlt
      have HAN : Hid (AccS F xs (mkS F xs Mk) [] ↔ b = true) := by
        have h := acc_nil (F := F) (xs := xs) (mkS_box Mk) HCL.out
        have hb := HBJ.out
        rw [List.take_of_length_le (by rw [hn'.out]; omega)] at hb
        rw [Hid, h, hb, List.any_eq_true]
      have HFLD : Hid (OwnL Wd w₀.heap.size (.slice uf Fs.length cf) Fs) := by rw [← HWD.out]; exact HFLW.out
      have HLD : Hid (OwnI Wd w₀.heap.size (.slice Al l.length cl) l) := by rw [← HWD.out]; exact HLW.out
      have HRD : Hid (ZBlk Wd br) := by rw [← HWD.out]; exact HRW.out
      have HFRD : Hid (FrL n0 w₀.heap.size w Wd) := by rw [← HWD.out]; exact ⟨below_drewN HFRW.out.1 _, HFRW.out.2⟩
      clear HBJ HWD
      go_upto_if 59 with (fail)
      clear hl0 k0 k1 k2 k3 k4 k5 k6 k7
      go_cut [] (fun wx => ∃ fv1 Fs1, Fs1 = Fs ++ (enumW (symsX F.arcs) 0 (AccS F xs (mkS F xs Mk))).map (l ++ ·) ∧ Hid (SBlk wx n0 F sz (.slice A n c) (.slice A' n' c') (.slice Ax nx cx) (.slice As ns cs) gd M fv1) ∧ Hid (OwnL wx w₀.heap.size fv1 Fs1) ∧ Hid (Fs1.length ≤ M + 1) ∧ Hid (FrL n0 w₀.heap.size w wx) ∧ Hid (ZBlk wx br))
      case first =>
        cases b
        · have HE0 : Hid (enumW (symsX F.arcs) 0 (AccS F xs (mkS F xs Mk)) = []) := by unfold Hid enumW; rw [if_neg (fun h => by have := HAN.out.1 h; cases this)]
          go_wp2_with fail
          go_meet
          exact ⟨_, Fs, by rw [HE0.out]; simp, HSD.out, HFLD.out, by have := HFM2.out; unfold Hid; omega, HFRD.out, HRD.out⟩
        · have HE0 : Hid (enumW (symsX F.arcs) 0 (AccS F xs (mkS F xs Mk)) = [[]]) := by unfold Hid enumW; rw [if_pos (HAN.out.2 rfl)]
          obtain ⟨k0, k1, k2, k3, k4, k5, k6, k7⟩ := HSD.out.cells
          have hl0 := HSD.out.lt
          have hfl3 : Fs.length ≤ 1000000 := by have := HFM2.out; omega
          have hBD : w₀.heap.size ≤ Wd.heap.size := by have h1 := HFRD.out.size; have := HB.out.size; omega
          go_wp2_with (at_builtin; refine wpList_app_word rfl (.tmp 61) (.tmp 63) rfl w₀.heap.size (.slice uf Fs.length cf) Fs rfl HFLD.out (.slice Al l.length cl) l HLD.out Fs.length (Lib.hid rfl) hfl3 hBD rfl ?_; intro g5 cap5 w5 ho5 hg5; have HS5 := Lib.hid (HSD.out.app HFLD.out hg5); obtain ⟨k57, f57, l57⟩ := HS5.out.facts7; have HO5 := Lib.hid ho5; have HG5 := Lib.hid hg5; clear ho5 hg5)
          clear k0 k1 k2 k3 k4 k5 k6 k7 hl0
          go_meet
          refine ⟨_, Fs ++ [l], by rw [HE0.out]; simp, HS5.out.set7 _, HO5.out.far HS5.out (by decide) (by decide), by have := HFM2.out; unfold Hid; simp; omega, ?_, ?_⟩
          · obtain ⟨us2, hus2⟩ := HFLD.out.row
            exact FrL.setBox (HFRD.out.grownL hus2 HG5.out (by have := HFRD.out.size; have := HN0.out; omega)) _ _ (Nat.le_refl _)
          · exact (Below.heap_setCell _ _ _ br (by have := HBR.out; simp only; omega)).trans (HRD.out.app HFLD.out HG5.out)
      case rest =>
        obtain ⟨fv1, Fs1, hFs1, HSC, HOC, HFC, HFRC, HZC⟩ := hcut
        have HWH : Hid (E = (enumW (symsX F.arcs) 0 (AccS F xs (mkS F xs Mk))).map (l ++ ·) ++ partW F xs (mkS F xs Mk) (symsX F.arcs) l k ns) := by rw [Hid, ← HEE.out, enumX_whole, hns.out]
        obtain ⟨E0, hE0⟩ : ∃ E0, (enumW (symsX F.arcs) 0 (AccS F xs (mkS F xs Mk))).map (l ++ ·) = E0 := ⟨_, rfl⟩
        rw [hE0] at HWH hFs1
        have HP0 : Hid (FPost M Fs E0 Fs1) := by
          refine ⟨HFC.out, ?_⟩
          rw [hFs1]
          rcases Nat.lt_or_ge M (Fs.length + E0.length) with h | h
          · exact .inr ⟨h, by simpa using h⟩
          · exact .inl ⟨h, rfl⟩
        have HPZ := Lib.hid (partW_zero F xs (mkS F xs Mk) (symsX F.arcs) l k)
        have HPS := Lib.hid (fun (k' j : Nat) (x : Int) (r : List Int) (h : (symsX F.arcs).drop j = x :: r) => partW_succ F xs (mkS F xs Mk) l k' j h)
        clear hE0 hFs1 HSD HMD HAN HFLD HLD HRD HFRD HSW HRW HFLW HFRW HMW HDW HLW HBL HBW HZ HEE hbd
        obtain ⟨k0, k1, k2, k3, k4, k5, k6, k7⟩ := HSC.out.cells
        have hl0 := HSC.out.lt
        go_wp2_with fail
        clear hl0 k0 k1 k2 k3 k4 k5 k6 k7
        go_loopg [12] ns (fun gk v12 wr => ∃ (j : Nat) (fv2 : Value) (Fs2 : List (List Int)), j ≤ ns ∧ gk = ns - j ∧ v12 = .int .i64 j ∧ Hid (SBlk wr n0 F sz (.slice A n c) (.slice A' n' c') (.slice Ax nx cx) (.slice As ns cs) gd M fv2) ∧ Hid (OwnL wr w₀.heap.size fv2 Fs2) ∧ Hid (FPost M Fs (E0 ++ partW F xs (mkS F xs Mk) (symsX F.arcs) l k j) Fs2) ∧ Hid (FrL n0 w₀.heap.size w wr) ∧ Hid (ZBlk wr br))
        case atStart => exact ⟨0, fv1, Fs1, Nat.zero_le _, rfl, rfl, HSC.out, HOC.out, by rw [HPZ.out, List.append_nil]; exact HP0.out, HFRC.out, HZC.out⟩
        case round =>
          obtain ⟨j, fv2, Fs2, hj, hg2, rfl, HSW, HFLW, HPO, HFRW, HRW⟩ := hrel
          have HG2 := Lib.hid hg2
          obtain ⟨u2, c2, rfl⟩ := HFLW.out.form
          clear hg2 HSC HOC HP0 HFRC HZC
          by_cases hjk : j < ns ∧ 0 < k
          · obtain ⟨k', rfl⟩ : ∃ k', k = k' + 1 := ⟨k - 1, by omega⟩
            have hbw : Below w₀.heap.size w₀ wr := HB.out.trans (HFRW.out.below hb0.out)
            obtain ⟨sb, so, x, rfl, hsb, hsd, se0⟩ := (hrs.out j hjk.1).below hbw
            have HX0 : Hid (0 < x) := by
              obtain ⟨h0, a, ha, hax⟩ := mem_symsX.1 (List.mem_of_mem_drop (by rw [hsd.out]; exact List.mem_cons_self) : x ∈ symsX F.arcs)
              have := (HE.out.fin.good.tgt a ha).2.2.2.2
              unfold Hid
              omega
            have HBWr := Lib.hid hbw
            have HLw : Hid (OwnI wr w₀.heap.size (.slice Al l.length cl) l) := HFRW.out.ownI HL.out (by rw [HN0.out]; exact Nat.le_refl _)
            have HMKw : Hid (Bls wr gm Mk) := HFRW.out.bls HMK.out HGM.out
            have hkp : (0 : Int) < (k' : Int) + 1 := by omega
            have hll : ([] : List Int).length + l.length ≤ 300000000 := Nat.le_trans (by rw [List.length_nil, Nat.zero_add]; exact Nat.le_trans (Nat.le_add_right _ _) HLE.out) (by decide)
            have hl1 : l.length ≤ 1000000 := Nat.le_trans (Nat.le_trans (Nat.le_add_right _ _) HLE.out) (by decide)
            have hbs : wr.heap.size ≤ wr.heap.size := Nat.le_refl _
            have hjn := hjk.1
            clear hbw hjk
            obtain ⟨k0, k1, k2, k3, k4, k5, k6, k7⟩ := HSW.out.cells
            have hl0 := HSW.out.lt
            go_upto_region 17 with (at_builtin; first
              | (refine wpList_app_ints rfl (.tmp 77) (.tmp 78) rfl wr.heap.size (.slice none 0 0) [] rfl (World.ownsRow_nil _ _ _ _) (.slice Al l.length cl) l rfl HLw.out.rd hll hbs ?_; intro v6 w6 ho6 hg6 hor6; have HO6 : Hid (OwnI w6 wr.heap.size v6 l) := ho6; obtain ⟨_, A6, c6, rfl⟩ := own_slice HO6.out; have HB6 : Hid (Below wr.heap.size wr w6) := (Below.refl _ _).grown hg6 (Nat.le_refl _) (fun j hj => by cases hj); clear ho6 hg6 hor6; have hs6 : wr.heap.size ≤ w6.heap.size := HB6.out.size; obtain ⟨k0, k1, k2, k3, k4, k5, k6, k7⟩ := (HSW.out.below HB6.out).cells; have hl06 : n0 < w6.heap.size := Nat.lt_of_lt_of_le HSW.out.lt hs6; have se6 := (HB6.out.cell (p := ⟨sb, so + j, none⟩) hsb).trans se0; have hsb6 : sb < w6.heap.size := Nat.lt_of_lt_of_le hsb hs6)
              | (refine wpList_app_int rfl (.tmp 80) (.tmp 86) rfl wr.heap.size (.slice A6 l.length c6) l rfl HO6.out x l.length (Lib.hid rfl) hl1 hs6 rfl ?_; intro g7 c7 w7 ho7 hgg7 hg7; have HO7 := Lib.hid ho7; have HB7 : Hid (Below wr.heap.size wr w7) := HB6.out.grown hg7 hs6 (fun j hj => (World.ownsRow.lt HO6.out j hj).1); clear ho7 hgg7 hg7)
              | fail)
            clear k0 k1 k2 k3 k4 k5 k6 k7 hl0 hl06 se6 hsb6 hs6 hkp hbs hll
            have HS7 := Lib.hid (HSW.out.below HB7.out)
            have HZ7 := Lib.hid (HRW.out.below HB7.out)
            have HFL7 := Lib.hid (HFLW.out.below HB7.out)
            have HMK7 := Lib.hid (HMKw.out.below HB7.out)
            have HBW7 : Hid (Below w₀.heap.size w₀ w7) := HBWr.out.trans (HB7.out.mono (by have := HBWr.out.size; exact this))
            have HFR7 : Hid (FrL n0 w₀.heap.size w w7) := HFRW.out.trans (FrL.of_below (HB7.out.mono (by have := HFRW.out.size; have := HN0.out; omega)))
            have hse7 := (HB7.out.cell (p := ⟨sb, so + j, none⟩) hsb).trans se0
            have HSB7 : Hid (w7.cell? ⟨sb, so + j, none⟩ = some (.int .i64 x) ∧ sb < w7.heap.size) := ⟨hse7, by have := HB7.out.size; omega⟩
            clear se0 hse7 hsb HO6 HB6
            have hkw1 : IntKind.i64.wrap ((k' : Int) + 1 - 1) = (k' : Int) := by
              have h : k' ≤ 1000 := Nat.le_of_lt (Nat.lt_of_lt_of_le (Nat.lt_succ_self k') (Nat.le_trans (Nat.le_add_left _ _) HLE.out))
              rw [show (k' : Int) + 1 - 1 = (k' : Int) by omega]
              exact IntWalk.i64_in _ (by omega)
            have hkw2 : IntKind.i64.wrap (k' : Int) = (k' : Int) := by
              have h : k' ≤ 1000 := Nat.le_of_lt (Nat.lt_of_lt_of_le (Nat.lt_succ_self k') (Nat.le_trans (Nat.le_add_left _ _) HLE.out))
              exact IntWalk.i64_in _ (by omega)
            have hj0 : (0 : Int) ≤ (j : Int) := by omega
            have hj1 : (j : Int) < (ns : Int) := by omega
            refine wp_region_ord 15 [0, 1, 2, 3, 4, 5, 6, 7, 8, 9, 10, 11, 12, 13, 14] [] [0, 1, 2, 3, 4, 5, 6, 7, 8, 9, 10, 11, 13, 14] [12, 15, 16] (fun w' => Below w7.heap.size w7 w') (by kernel_rfl) (by kernel_rfl) ?_
            rintro Z hZ
            have HSD : Hid (Below w7.heap.size w7 Z) := by rw [hZ]; exact (Below.refl _ _).drew
            clear hZ
            refine ⟨HSD.out, ?_⟩
            have HS : Hid (∀ w' : World, Below w7.heap.size w7 w' → (w'.cell? ⟨n0, 0, none⟩ = some (.int .i64 F.states) ∧ w'.cell? ⟨n0, 1, none⟩ = some (.slice A n c) ∧ w'.cell? ⟨n0, 2, none⟩ = some (.slice A' n' c') ∧ w'.cell? ⟨n0, 3, none⟩ = some (.slice Ax nx cx) ∧
                w'.cell? ⟨n0, 4, none⟩ = some (.slice (some ⟨sb, so, none⟩) ns cs) ∧ w'.cell? ⟨n0, 5, none⟩ = some (.slice (some ⟨gd, 0, none⟩) sz sz) ∧ w'.cell? ⟨n0, 6, none⟩ = some (.int .i64 (M : Int)) ∧ w'.cell? ⟨n0, 7, none⟩ = some (.slice u2 Fs2.length c2)) ∧ w'.cell? ⟨sb, so + j, none⟩ = some (.int .i64 x)) := by
              intro w' h
              exact ⟨(HS7.out.below h).cells, (h.cell (p := ⟨sb, so + j, none⟩) HSB7.out.2).trans HSB7.out.1⟩
            iterate 14 (refine wpHead_cons (v := ?_) rfl rfl (fun w' hS => ?_) ?_; rotate_left; (focus ((try obtain ⟨⟨s0, s1, s2, s3, s4, s5, s6, s7⟩, s8⟩ := HS.out _ (hS rfl)); clear hS; go_simp; try with_reducible rfl; done)); (try simp only [Act.put, List.setIfInBounds_toArray, List.set_cons_zero, List.set_cons_succ]))
            clear hj0 hj1 hkw1 hkw2
            refine wpHead_nil ?_
            refine wpTail_cons rfl rfl (fun K hK => ?_)
            go_simp
            have hwr := written_any w₀ Z _ _ F xs gm Mk x (HBW7.out.trans (HSD.out.mono (by have := HBW7.out.size; exact this))) HE.out.fst HE.out.inp (HMK7.out.below HSD.out) (by rw [HSZ.out]; exact HML.out) HE.out.fin.good HE.out.fin.right HE.out.fin.st HE.out.xl
            rw [HSZ.out] at hwr
            refine hwr.mono ?_
            rintro e w8 ⟨g8, rfl, hg8, M8, V8, hm8, hl8, hw8, hs8, hb8⟩
            clear hwr
            refine hK.out _ _ (fun _ => bchain HSD.out hb8) ?_
            clear hK K
            (try simp only [Act.put, List.setIfInBounds_toArray, List.set_cons_zero, List.set_cons_succ])
            have HB8 : Hid (Below w7.heap.size w7 w8) := bchain HSD.out hb8
            have HS8 := Lib.hid (HS7.out.below HB8.out)
            have HZ8 := Lib.hid (HZ7.out.below HB8.out)
            have HFL8 := Lib.hid (HFL7.out.below HB8.out)
            have HO8 : Hid (OwnI w8 w₀.heap.size (.slice (some ⟨g7, 0, none⟩) (l.length + 1) c7) (l ++ [x])) := own_below (own_base HO7.out (by have := HBWr.out.size; exact this)) HB8.out
            have HBW8 : Hid (Below w₀.heap.size w₀ w8) := HBW7.out.trans (HB8.out.mono (by have := HBW7.out.size; exact this))
            have HFR8 : Hid (FrL n0 w₀.heap.size w w8) := HFR7.out.trans (FrL.of_below (HB8.out.mono (by have := HFR7.out.size; have := HN0.out; omega)))
            have HM8 := Lib.hid hm8
            have HL8 := Lib.hid hl8
            have HW8 := Lib.hid hw8
            have HSP8 := Lib.hid hs8
            clear hg8 hm8 hl8 hw8 hs8 hb8 HS HSD HS7 HZ7 HFL7 HMK7 HBW7 HFR7 HSB7 HO7
            refine wpTail_cons rfl rfl (fun K hK => ?_)
            go_simp
            have hfc := HREC.out k' rfl w8 g8 (.slice (some ⟨g7, 0, none⟩) (l.length + 1) c7) (.slice u2 Fs2.length c2) (l ++ [x]) Fs2 M8 HBW8.out HM8.out (by rw [HSZ.out]; exact HL8.out) HSP8.out.2.2.1 HO8.out (by have := HLE.out; simp; omega) HFL8.out HPO.out.1
            simp only [sCells, HSZ.out] at hfc
            refine hfc.mono ?_
            rintro e w9 ⟨⟨fv9, rfl, Fs9, hl9, hp9⟩, hfr9⟩
            obtain ⟨u9, c9, rfl⟩ := hl9.form
            have HL9 := Lib.hid hl9
            have HP9 := Lib.hid hp9
            have HFR9 := Lib.hid hfr9
            refine hK.out _ _ (fun h => absurd h (by decide)) ?_
            clear hK K hfc hl9 hp9 hfr9
            (try simp only [Act.put, List.setIfInBounds_toArray, List.set_cons_zero, List.set_cons_succ])
            have HS9 : Hid (SBlk w9 n0 F sz (.slice A n c) (.slice A' n' c') (.slice Ax nx cx) (.slice (some ⟨sb, so, none⟩) ns cs) gd M (.slice u2 Fs2.length c2)) := HFR9.out.cells HS8.out (by decide) HS8.out.lt
            have HZ9 : Hid (ZBlk w9 br) := HFR9.out.cells HZ8.out (by decide) HZ8.out.lt
            refine wpTail_rest 16 rfl ?_
            simp only [List.drop_succ_cons, List.drop_zero]
            obtain ⟨k0, k1, k2, k3, k4, k5, k6, k7⟩ := HS9.out.cells
            have hl0 := HS9.out.lt
            have hfz := HS9.out.free
            go_wp2_with fail
            refine NoPanic.normal ?_
            go_wp2_with fail
            generalize hW8 : World.setCell _ _ _ = W8
            have hset : ∀ k, k ≠ n0 → W8.heap[k]? = w9.heap[k]? := fun k hk => by
              rw [← hW8]
              iterate 8 (refine (Below.heap_setCell _ _ _ k hk).trans ?_)
              rfl
            have HSET := Lib.hid hset
            have HS10 : Hid (SBlk W8 n0 F sz (.slice A n c) (.slice A' n' c') (.slice Ax nx cx) (.slice (some ⟨sb, so, none⟩) ns cs) gd M (.slice u9 Fs9.length c9)) := by rw [← hW8]; exact HS9.out.store8 _
            have HF10 : Hid (FrL n0 w₀.heap.size w W8) := by
              rw [← hW8]
              iterate 8 (refine FrL.setBox ?_ _ _ (by exact Nat.le_refl _))
              exact HFR8.out.inner HFR9.out (by have := HFR8.out.size; have := HN0.out; omega)
            clear hW8 hset hl0 hfz k0 k1 k2 k3 k4 k5 k6 k7
            go_roundg (ns - (j + 1))
            case measure => rw [HG2.out]; omega
            case rel =>
              refine ⟨j + 1, _, Fs9, by omega, rfl, by go_num, HS10.out, HL9.out.keep fun k cs t m hk ht _ => HSET.out k (fun e => by
                rw [e, HS9.out] at hk
                cases hk
                rcases ht with h | h
                · exact absurd h (by decide)
                · exact absurd h (by decide)), ?_, HF10.out, (HSET.out br (by have := HBR.out; omega)).trans HZ9.out⟩
              rw [HPS.out k' j x _ hsd.out, ← List.append_assoc]
              refine HPO.out.trans ?_
              have hex : (enumW (symsX F.arcs) k' (fun w => AccS F xs (mkS F xs Mk) (x :: w))).map ((l ++ [x]) ++ ·) = (enumW (symsX F.arcs) k' (AccS F xs (mkS F xs M8))).map ((l ++ [x]) ++ ·) := by
                rw [enumW_congr (fun u => (acc_cons (mkS_box Mk) HCL.out HX0.out HW8.out u).trans (HSP8.out.acc u).symm)]
              rw [hex]
              exact HP9.out
          · have hpo : FPost M Fs E Fs2 := by
              rw [HWH.out]
              have he : partW F xs (mkS F xs Mk) (symsX F.arcs) l k ns = partW F xs (mkS F xs Mk) (symsX F.arcs) l k j := by
                by_cases hk0 : k = 0
                · subst hk0; rfl
                · rw [show j = ns by omega]
              rw [he]
              exact HPO.out
            have hkk : decide ((0 : Int) < (k : Int)) = decide (0 < k) := by simp
            by_cases hlt : j < ns
            · have hk0 : k = 0 := by omega
              subst hk0
              have HPOST := Lib.hid hpo
              clear hpo
              obtain ⟨k0, k1, k2, k3, k4, k5, k6, k7⟩ := HSW.out.cells
              have hl0 := HSW.out.lt
              obtain ⟨r0, r1, r2, r3, r4, r5, r6, r7⟩ := HRW.out.cells
              have hfz := HRW.out.free
              have hl1 := HRW.out.lt
              go_wp2_with fail
              refine bodyPost_ret (v := .agg #[.int .i64 F.states, .slice A n c, .slice A' n' c', .slice Ax nx cx, .slice As ns cs, .slice (some ⟨gd, 0, none⟩) sz sz, .int .i64 M, (.slice u2 Fs2.length c2)]) ?_ rfl ?_
              · simp [results, Try.results42, go_sem, r0, r1, r2, r3, r4, r5, r6, r7]
              generalize hW8 : World.setCell _ _ _ = W8
              have hset : ∀ k, k ≠ br → W8.heap[k]? = wr.heap[k]? := fun k hk => by
                rw [← hW8]
                iterate 8 (refine (Below.heap_setCell _ _ _ k hk).trans ?_)
                rfl
              have hfr : FrL n0 w₀.heap.size w W8 := by
                rw [← hW8]
                iterate 8 (refine FrL.setBox ?_ _ _ (by have := HBR.out; simp only; omega))
                exact HFRW.out
              rw [HN0.out]
              exact ⟨⟨_, rfl, Fs2, HFLW.out.keep fun k cs t m hk ht _ => hset k (fun e => by
                rw [e, HRW.out] at hk
                cases hk
                rcases ht with h | h
                · exact absurd h (by decide)
                · exact absurd h (by decide)), HPOST.out⟩, hfr⟩
            · skip
              have HPOST := Lib.hid hpo
              clear hpo
              obtain ⟨k0, k1, k2, k3, k4, k5, k6, k7⟩ := HSW.out.cells
              have hl0 := HSW.out.lt
              obtain ⟨r0, r1, r2, r3, r4, r5, r6, r7⟩ := HRW.out.cells
              have hfz := HRW.out.free
              have hl1 := HRW.out.lt
              go_wp2_with fail
              refine bodyPost_ret (v := .agg #[.int .i64 F.states, .slice A n c, .slice A' n' c', .slice Ax nx cx, .slice As ns cs, .slice (some ⟨gd, 0, none⟩) sz sz, .int .i64 M, (.slice u2 Fs2.length c2)]) ?_ rfl ?_
              · simp [results, Try.results42, go_sem, r0, r1, r2, r3, r4, r5, r6, r7]
              generalize hW8 : World.setCell _ _ _ = W8
              have hset : ∀ k, k ≠ br → W8.heap[k]? = wr.heap[k]? := fun k hk => by
                rw [← hW8]
                iterate 8 (refine (Below.heap_setCell _ _ _ k hk).trans ?_)
                rfl
              have hfr : FrL n0 w₀.heap.size w W8 := by
                rw [← hW8]
                iterate 8 (refine FrL.setBox ?_ _ _ (by have := HBR.out; simp only; omega))
                exact HFRW.out
              rw [HN0.out]
              exact ⟨⟨_, rfl, Fs2, HFLW.out.keep fun k cs t m hk ht _ => hset k (fun e => by
                rw [e, HRW.out] at hk
                cases hk
                rcases ht with h | h
                · exact absurd h (by decide)
                · exact absurd h (by decide)), HPOST.out⟩, hfr⟩
theorem from_any (w₀ : World) (va vf vin vall : Value) (gd M : Nat) (D : List Int) (F : PFst) (xs : List Int) (he : REnv w₀ va vf vin vall gd D F xs) (hM : M ≤ 900000) (k : Nat) : FromC w₀ va vf vin vall gd M F xs k := by
  induction k with
  | zero => exact from_step w₀ va vf vin vall gd M D F xs he hM 0 (fun k' h => by cases h)
  | succ k ih => exact from_step w₀ va vf vin vall gd M D F xs he hM (k + 1) (fun k' h => by cases h; exact ih)
end Go.Proofs.Ytmejihlplbeekaa
