/-
  Spellings.
-/
import Derived.Test.YtokbclpdpegicaaWP4
namespace Go.Proofs.Ytokbclpdpegicaa
open Go.ChangeShapes Go.WideShapes Go.ChangeAt Go.RowKit
def FineT (us : List PU) (ws : List Int) (R : Nat → Bool) : Prop := (∀ k, k ≤ ws.length → ∀ j, ((etab us ws R k).getD j []).length ≤ 500) ∧ (sortT ((etab us ws R ws.length).getD 0 [])).Pairwise (· ≠ ·)
def RetL (us : List PU) (ws : List Int) (m : Nat) (e : Ending) (w' : World) : Prop := ∃ v' M, e = .returned v' ∧ GoodR us ws M ∧ RdS w' v' ((sortT ((etab us ws (fun i => M.getD i false) ws.length).getD 0 [])).take m)
theorem RdS.take {w : World} {A : Option Addr} {n c k : Nat} {xs : List ByteArray} (h : RdS w (.slice A n c) xs) (hk : k ≤ n) : RdS w (.slice A k c) (xs.take k) := by
  obtain ⟨A', c', he, h1, h2, h3, h4⟩ := h
  cases he
  have hl : (xs.take k).length = k := by simp; omega
  refine ⟨A, c, by rw [hl], by rw [hl]; omega, h2, by simp, fun hn => ?_⟩
  rw [hl] at hn
  obtain ⟨b, off, rfl, hb, hc⟩ := h4 (by omega)
  refine ⟨b, off, rfl, hb, fun j u hu => hc j u ?_⟩
  rw [List.map_take, List.getElem?_take] at hu
  split at hu
  · exact hu
  · cases hu
/-- rows of cells that hold no texts stand -/
def Kc (X w : World) : Prop := X.heap.size ≤ w.heap.size ∧ ∀ (b : Nat) (cs : Array Value) (t : TypeId) (fr : Nat × Nat), X.heap[b]? = some (Obj.cells cs t fr) → t ≠ 9 → w.heap[b]? = X.heap[b]?
theorem Kc.refl (X : World) : Kc X X := ⟨Nat.le_refl _, fun _ _ _ _ _ _ => rfl⟩
theorem Kc.trans {X Y Z : World} (h : Kc X Y) (k : Kc Y Z) : Kc X Z := ⟨Nat.le_trans h.1 k.1, fun b cs t fr hb ht => by
  have h1 := h.2 b cs t fr hb ht
  exact (k.2 b cs t fr (h1.trans hb) ht).trans h1⟩
theorem Kc.below {X Y : World} (h : Below X.heap.size X Y) : Kc X Y := ⟨h.size, fun b _ _ _ hb _ => h.block b (Array.getElem?_eq_some_iff.1 hb).1⟩
theorem Kc.row {X Y : World} {base : Nat} {v : Value} {l : List ByteArray} (ho : OwnS X base v l) (hg : X.grownBy Y v.ownBlock) : Kc X Y := ⟨hg.size, fun b cs t fr hb ht => hg.block b (Array.getElem?_eq_some_iff.1 hb).1 fun e => by
  obtain ⟨cs', hc⟩ := row_type ho e.symm
  rw [hc] at hb
  simp only [Option.some.injEq, Obj.cells.injEq] at hb
  exact ht hb.2.1.symm⟩
theorem Kc.map {X Y : World} {B n : Nat} {D : DataW Unit} (hm : X.ownsMap Try.prog 3 slR B n D) (hg : X.grownBy Y (some B)) : Kc X Y := ⟨hg.size, fun b cs t fr hb ht => hg.block b (Array.getElem?_eq_some_iff.1 hb).1 fun e => by
  obtain ⟨es, cl, he, _⟩ := hm
  cases e
  rw [he] at hb
  cases hb⟩
theorem Kc.cell {X Y : World} (h : Kc X Y) {b : Nat} {cs : Array Value} {t : TypeId} (hb : X.heap[b]? = some (.cells cs t (0, 0))) (ht : t ≠ 9) (j : Nat) : Y.cell? ⟨b, j, none⟩ = cs[j]? := cell_of_row Y b j cs t (0, 0) ((h.2 b cs t (0, 0) hb ht).trans hb)
theorem Sp.kc {w w1 w2 : World} {B gM base n N : Nat} {M : List Bool} {L : Nat → List ByteArray} {V : Nat → Value} (h : Sp w B gM base n N M L V) {v : Value} {l : List ByteArray} (ho : OwnS w base v l) (hg : w.grownBy w1 v.ownBlock) (hg2 : w1.grownBy w2 (some B)) : Kc w w2 := by
  obtain ⟨D, h1, _⟩ := h.m.map
  have hBv : some B ≠ v.ownBlock := fun e => by
    have := (ho.lt B e.symm).1
    have := h.m.bb
    omega
  exact (Kc.row ho hg).trans (Kc.map (h1.kept hg hBv) hg2)
theorem grown2 {W w w1 w2 : World} {B base : Nat} {v : Value} {l : List ByteArray} (hb : Below W.heap.size W w) (ho : OwnS w base v l) (hbase : W.heap.size ≤ base) (hg : w.grownBy w1 v.ownBlock) (hg2 : w1.grownBy w2 (some B)) (hB : W.heap.size ≤ B) : Below W.heap.size W w2 :=
  (hb.grown hg hb.size (fun j hj => Nat.le_trans hbase (ho.lt j hj).1)).grown hg2 (Nat.le_trans hb.size hg.size) (fun j hj => by cases hj; exact hB)
set_option maxHeartbeats 8000000 in
set_option maxRecDepth 100000 in
theorem spellings_any (v vw : Value) (o : PO) (ws : List Int) (mo : Nat) (w : World) (hv : RdO w v o) (hso : SmO o) (hgd : ∀ p ∈ o.units, GoodU p) (hw : RdI w vw ws) (hlen1 : 1 ≤ ws.length) (hlen : ws.length ≤ 24) (hmo : 1 ≤ mo) (hmo2 : mo ≤ 1000000)
    (hfine : ∀ M, GoodR o.units ws M → FineT o.units ws fun i => M.getD i false) :
    Calls Try.prog 21 #[v, vw, .int .i64 mo] w fun e w' => RetL o.units ws mo e w' ∧ Below w.heap.size w w' := by
  have HV := Lib.hid hv
  obtain ⟨vu, vl, rfl, hu, hl⟩ := hv
  obtain ⟨A, n, c, rfl, hnc, hcm, HN, HR⟩ := hu.op
  obtain ⟨B, m, d, rfl, _, _, _, _⟩ := hl.op
  obtain ⟨Aw, nw, cw, rfl, hnw, _, HNW, _⟩ := hw.op
  have HSO := Lib.hid hso
  have HGD := Lib.hid hgd
  have hn2 : n ≤ 1048576 := by rw [← HN.out]; exact hso.units
  have HFT := Lib.hid hfine
  have hn1 : 1 ≤ nw := by rw [← HNW.out]; exact hlen1
  have hn24 : nw ≤ 24 := by rw [← HNW.out]; exact hlen
  clear hfine hlen1 hlen
  have HRI := Lib.hid hw
  clear hu hl hso hw hgd
  have hmm := @run_makeMap Try.prog
  have d0 : ((nw : Int) == 0) = false := by simp; omega
  have d0' : (nw == 0) = false := by simp; omega
  have d1 : decide ((24 : Int) < (nw : Int)) = false := by simp; omega
  have dm : decide ((mo : Int) ≤ 0) = false := by simp; omega
  have dm' : decide (mo ≤ 0) = false := by simp; omega
  have dm2 : decide (mo = 0) = false := by simp; omega
  go_enter Try.func21, Try.ntmps21
  go_upto_region 1 with (fail)
  generalize hW : World.alloc w _ = W
  have HBW : Hid (Below w.heap.size w W) := by rw [← hW]; repeat (first | assumption | exact Below.refl _ _ | refine Below.alloc ?_ (by first | omega | (simp; done) | (simp; omega)) _ | refine Below.drew ?_ | refine below_drewN ?_ _ | refine Below.setCell ?_ (by first | omega | (simp; done) | (simp; omega)) _)
  have z0 : W.cell? ⟨w.heap.size, 0, none⟩ = some (.string o.name) := by rw [← hW]; simp [go_sem]
  have z2 : W.cell? ⟨w.heap.size, 2, none⟩ = some (.slice B m d) := by rw [← hW]; simp [go_sem]
  have z1 : W.cell? ⟨w.heap.size, 1, none⟩ = some (.slice A n c) := by rw [← hW]; simp [go_sem]
  have hgW : w.heap.size < W.heap.size := by rw [← hW]; simp
  have HZ : Hid (∀ W' : World, Below W.heap.size W W' → W'.cell? ⟨w.heap.size, 0, none⟩ = some (.string o.name) ∧ W'.cell? ⟨w.heap.size, 1, none⟩ = some (.slice A n c) ∧ W'.cell? ⟨w.heap.size, 2, none⟩ = some (.slice B m d)) := fun W' h => ⟨cell_keep hgW z0 h, cell_keep hgW z1 h, cell_keep hgW z2 h⟩
  have HRW : Hid (∀ W' : World, Below W.heap.size W W' → ∀ k, k < n → UAt W' A o.units k) := fun W' h k hk => ((HR.out k hk).below HBW.out).below h
  have HV : Hid (∀ W' : World, Below W.heap.size W W' → RdO W' (.agg #[.string o.name, .slice A n c, .slice B m d]) o) := fun W' h => (HV.out.below HBW.out).below h
  have HRI : Hid (∀ W' : World, Below W.heap.size W W' → RdI W' (.slice Aw nw cw) ws) := fun W' h => (HRI.out.below HBW.out).below h
  have HBO : Hid (∀ W' : World, Below W.heap.size W W' → Below w.heap.size w W') := fun W' h => bchain HBW.out h
  clear hW HR HBW hgW z0 z1 z2
  have HUN : Hid (∀ k, k < n → ∃ p, o.units[k]? = some p) := fun k hk => ⟨_, List.getElem?_eq_getElem (by rw [HN.out]; exact hk)⟩
  generalize hg : w.heap.size = g at HZ HBO ⊢
  have HG := Lib.hid hg
  clear hg
  go_wp2_with (refine wpList_first rfl (.tmp 29) (.tmp 31) (.tmp 32) rfl nw (by omega) _ rfl rfl rfl ?_; intro w2 hs2 hb2; have HS2 := Lib.hid hs2; have HB2 := Lib.hid hb2; clear hs2 hb2; obtain ⟨z0, z1, z2⟩ := HZ.out w2 HB2.out)
  refine (begins_any _ _ o ws _ (HV.out w2 HB2.out) HSO.out HGD.out (HRI.out w2 HB2.out) (by rw [HNW.out]; exact hn24)).mono ?_
  rintro e w4 ⟨⟨gM, M, rfl, hgb, hbls, hgr⟩, hb⟩
  have HML : Hid (M.length = nw + 1) := by rw [Hid, hgr.len, HNW.out]
  have HGR := Lib.hid hgr
  have hFT := HFT.out M hgr
  obtain ⟨R, hR⟩ : ∃ R : Nat → Bool, (fun i => M.getD i false) = R := ⟨_, rfl⟩
  rw [hR] at hFT
  have HR := Lib.hid hR
  have HFT := Lib.hid hFT
  have HB4 : Hid (Below W.heap.size W w4) := bchain HB2.out hb
  obtain ⟨V0, HSP⟩ : ∃ V0, Hid (Sp w4 W.heap.size gM (W.heap.size + 1) 1 nw M (tabL nw 0 (etab o.units ws R 0)) V0) := ⟨_, (Sp.congr ⟨HS2.out.below hb, hbls⟩ fun i hi => (tabL_zero nw (etab o.units ws R 0) i hi).symm)⟩
  clear hR hFT hgr hgb hb HS2 hbls z0 z1 z2 hmm
  rw [HNW.out]
  go_wp2_with fail
  clear d0 d0' d1 dm dm' dm2
  go_loopg [9] nw (fun gk i wr => ∃ (k : Nat) (x : Int) (q : Nat) (V : Nat → Value), k ≤ nw ∧ gk = nw - k ∧ i = .int .i64 x ∧ x + 1 + k = nw ∧ q ≤ 1 + 1000 * k ∧ Hid (Sp wr W.heap.size gM (W.heap.size + 1) q nw M (tabL nw k (etab o.units ws R k)) V) ∧ Hid (Below W.heap.size W wr))
  case atStart => exact ⟨0, _, 1, V0, Nat.zero_le _, rfl, rfl, by omega, by omega, HSP.out, HB4.out⟩
  case round =>
    obtain ⟨k, x, q, V, hk, hgk, rfl, hx, hq, HP, HB⟩ := hrel
    have HGK := Lib.hid hgk
    clear hgk HSP
    by_cases hkn : k < nw
    · obtain ⟨a, rfl⟩ : ∃ a : Nat, x = (a : Int) := ⟨x.toNat, by omega⟩
      have HAK : Hid (a + 1 + k = nw) := by rw [Hid]; omega
      have hak : a < nw := by omega
      clear hx
      obtain ⟨z0, z1, z2⟩ := HZ.out wr HB.out
      have hz0 : (0 : Int) ≤ (a : Int) := by omega
      obtain ⟨fin, hfin⟩ : ∃ fin, (if R a = true then endR o.units (ws.drop a) (etab o.units ws R k) o.units [] else []) = fin := ⟨_, rfl⟩
      have HFN : Hid (etab o.units ws R (k + 1) = fin :: etab o.units ws R k) := by
        rw [Hid, etab, HNW.out, show nw - (k + 1) = a by have := HAK.out; omega, hfin]
      have HFL : Hid (fin.length ≤ 500) := by
        have := HFT.out.1 (k + 1) (by rw [HNW.out]; omega) 0
        rw [HFN.out] at this
        exact this
      have HFI := Lib.hid hfin
      clear hfin
      go_wp2_with fail
      clear z0 z1 z2
      generalize hwo : wr = wo at HP HB ⊢
      clear hwo
      go_loopg [47] n (fun gk i wr => ∃ (j q : Nat) (V : Nat → Value) (cur : List ByteArray), j ≤ n ∧ gk = n - j ∧ i = .int .i64 j ∧ Hid (q ≤ 1 + 1000 * k + cur.length) ∧ Hid (fin = if R a = true then endR o.units (ws.drop a) (etab o.units ws R k) (o.units.drop j) cur else cur) ∧ Hid (Sp wr W.heap.size gM (W.heap.size + 1) q nw M (upd (tabL nw k (etab o.units ws R k)) a cur) V) ∧ Hid (Below W.heap.size W wr))
      case atStart =>
        refine ⟨0, q, V, [], Nat.zero_le _, rfl, rfl, by simpa [Hid] using hq, ?_, ?_, HB.out⟩
        · rw [Hid, ← HFI.out]; rfl
        · refine HP.out.congr fun i hi => ?_
          by_cases hia : i = a
          · subst hia; rw [upd_same, tabL_at nw k i HAK.out]
          · rw [upd_other _ _ _ hia]
      case round =>
        obtain ⟨j, q, V, cur, hj, hgk, rfl, HQ, HC, HP, HB3⟩ := hrel
        have HGJ := Lib.hid hgk
        clear hgk
        by_cases hlt : j < n
        · obtain ⟨p, hp⟩ := HUN.out j hlt
          obtain ⟨b, off, B2, m2, c2, hA, hbl, c0, c1, hrd, hnp⟩ := (HRW.out wr HB3.out j hlt).op hp
          subst hA
          have hdk : o.units.drop j = p :: o.units.drop (j + 1) := by
            rw [List.drop_eq_getElem_cons (by rw [HN.out]; exact hlt)]
            congr 1
            rw [List.getElem?_eq_getElem (by rw [HN.out]; exact hlt)] at hp
            exact Option.some.inj hp
          have HGP := Lib.hid (HGD.out p (List.mem_of_getElem? hp))
          have hgs : p.g.size ≤ 1048576 := HSO.out.graph p (List.mem_of_getElem? hp)
          have hm3 : m2 ≤ 3 := by have := HGP.out.2.2; rw [hnp.out] at this; exact this
          have djn : decide (j < n) = true := by simpa using hlt
          have HCC : Hid (fin = if R a = true then endR o.units (ws.drop a) (etab o.units ws R k) (o.units.drop (j + 1)) (if preR (ws.drop a) p.s = true then growR o.units p ((etab o.units ws R k).getD (p.s.length - 1) []) cur else cur) else cur) := by rw [Hid, HC.out, hdk, endR]
          clear HC hdk hp
          go_wp2_with fail
          generalize hX : World.alloc wr _ = X
          have x0 : X.cell? ⟨wr.heap.size, 0, none⟩ = some (.string p.g) := by rw [← hX]; simp [go_sem]
          have x1 : X.cell? ⟨wr.heap.size, 1, none⟩ = some (.slice B2 m2 c2) := by rw [← hX]; simp [go_sem]
          have HXU : Hid (X.heap[wr.heap.size]? = some (.cells #[.string p.g, .slice B2 m2 c2] 49 (0, 0))) := by rw [← hX]; exact heap_alloc_new wr _
          have HXB : Hid (Below wr.heap.size wr X) := by rw [← hX]; exact (Below.refl _ _).alloc (Nat.le_refl _) _
          have HRX : Hid (RdI X (.slice B2 m2 c2) p.s) := hrd.out.below HXB.out
          have HPX : Hid (Sp X W.heap.size gM (W.heap.size + 1) q nw M (upd (tabL nw k (etab o.units ws R k)) a cur) V) := HP.out.below HXB.out
          have HBX : Hid (Below W.heap.size W X) := bchain HB3.out HXB.out
          have mc := HPX.out.marks.cell (j := a) (by rw [HML.out]; omega)
          have han0 : (0 : Int) ≤ (a : Int) := by omega
          have han1 : (a : Int) < (nw : Int) + 1 := by omega
          have hbu : wr.heap.size < X.heap.size := (Array.getElem?_eq_some_iff.1 HXU.out).1
          generalize hbu' : wr.heap.size = bu at x0 x1 HXU hbu ⊢
          clear hX c0 c1 hrd HP HXB hbu'
          cases hma : M.getD a false
          · rw [hma] at mc
            have HC2 : Hid (fin = if R a = true then endR o.units (ws.drop a) (etab o.units ws R k) (o.units.drop (j + 1)) cur else cur) := by
              have hRa : R a = false := by rw [← HR.out]; exact hma
              rw [Hid, HCC.out, hRa]
              rfl
            clear HCC
            go_quiet (fail)
            go_wp2_with fail
            go_roundg (n - (j + 1))
            case measure => have := HGJ.out; omega
            case rel => exact ⟨j + 1, q, V, cur, by omega, rfl, by go_num, HQ.out, HC2.out, (HPX.out).below (below_drewN (Below.refl _ _) _), below_drewN HBX.out _⟩
          rw [hma] at mc
          have hRa : R a = true := by rw [← HR.out]; exact hma
          by_cases hnx : a + m2 ≤ nw
          rotate_left
          · have HC2 : Hid (fin = if R a = true then endR o.units (ws.drop a) (etab o.units ws R k) (o.units.drop (j + 1)) cur else cur) := by
              rw [Hid, HCC.out, preR_short (by rw [List.length_drop, HNW.out, hnp.out]; omega)]
              rfl
            have dnx : decide ((nw : Int) < (a : Int) + (m2 : Int)) = true := by simp; omega
            have dnx2 : decide (nw < a + m2) = true := by simp; omega
            clear HCC hnx hRa
            go_quiet (fail)
            go_wp2_with fail
            go_roundg (n - (j + 1))
            case measure => have := HGJ.out; omega
            case rel => exact ⟨j + 1, q, V, cur, by omega, rfl, by go_num, HQ.out, HC2.out, (HPX.out).below (below_drewN (Below.refl _ _) _), below_drewN HBX.out _⟩
          have dnx : decide ((nw : Int) < (a : Int) + (m2 : Int)) = false := by simp; omega
          have dnx2 : decide (nw < a + m2) = false := by simp; omega
          have hca : ¬ (cw = a) := by omega
          have i1 : (a : Int) ≤ (a : Int) + (m2 : Int) := by omega
          have i2 : (a : Int) + (m2 : Int) ≤ (cw : Int) := by omega
          have HVX := ((HRI.out X HBX.out).drop (k := a) (by omega)).take (k := m2) (by omega)
          rw [if_neg hca] at HVX
          have HVX := Lib.hid HVX
          have HSB : Hid (preR (ws.drop a) p.s = sameB ((ws.drop a).take m2) p.s) := by rw [Hid, preR_same, hnp.out, Bool.eq_iff_iff, sameB_iff, sameB_iff]; exact eq_comm
          cases hsb : sameB ((ws.drop a).take m2) p.s
          · have HC2 : Hid (fin = if R a = true then endR o.units (ws.drop a) (etab o.units ws R k) (o.units.drop (j + 1)) cur else cur) := by
              rw [Hid, HCC.out, HSB.out, hsb]
              rfl
            clear HCC HSB hRa
            go_quiet (first | (go_at_call 29; exact Calls.quiet_of (equal_any _ _ _ p.s _ HVX.out HRX.out)))
            go_wp2_with fail
            go_roundg (n - (j + 1))
            case measure => have := HGJ.out; omega
            case rel => exact ⟨j + 1, q, V, cur, by omega, rfl, by go_num, HQ.out, HC2.out, (HPX.out).below (below_drewN (Below.refl _ _) _), below_drewN HBX.out _⟩
          · have HC2 : Hid (fin = endR o.units (ws.drop a) (etab o.units ws R k) (o.units.drop (j + 1)) (growR o.units p ((etab o.units ws R k).getD (m2 - 1) []) cur)) := by
              rw [Hid, HCC.out, HSB.out, hsb, if_pos hRa, if_pos rfl, hnp.out]
            have hg1 : 1 ≤ m2 := by have := HGP.out.2.1; rw [hnp.out] at this; exact this
            clear HCC HSB hRa
            go_quiet (first | (go_at_call 29; exact Calls.quiet_of (equal_any _ _ _ p.s _ HVX.out HRX.out)))
            clear hsb
            generalize hY : World.drewN X _ = Y
            have HYX : Hid (Below X.heap.size X Y) := by rw [← hY]; exact below_drewN (Below.refl _ _) _
            clear hY mc x0 x1
            have HPY := Lib.hid (HPX.out.below HYX.out)
            have HBY : Hid (Below W.heap.size W Y) := bchain HBX.out HYX.out
            have HYU : Hid (Y.heap[bu]? = some (.cells #[.string p.g, .slice B2 m2 c2] 49 (0, 0))) := (HYX.out.block bu hbu).trans HXU.out
            obtain ⟨l3, hl3⟩ : ∃ l3, (etab o.units ws R k).getD (m2 - 1) [] = l3 := ⟨_, rfl⟩
            have hL3 : upd (tabL nw k (etab o.units ws R k)) a cur (a + m2) = l3 := by
              rw [upd_other _ _ _ (by omega), tabL_end nw k a m2 HAK.out hg1, hl3]
            have hlen3 : l3.length ≤ 500 := by rw [← hl3]; exact HFT.out.1 k (by rw [HNW.out]; omega) _
            have HSZ : Hid (SzT k l3) := by rw [Hid, ← hl3]; exact etab_sz _ _ _ HSO.out.graph k _
            have hown3 := HPY.out.m.own (a + m2) hnx
            rw [hL3] at hown3
            rw [hl3] at HC2
            obtain ⟨A3, n3, c3, hV3, _, _, HN3, _⟩ := hown3.rd.op
            have HL3 := Lib.hid hL3
            have HV3 := Lib.hid hV3
            have hn3 : n3 ≤ 500 := by rw [← HN3.out]; exact hlen3
            have hq1 : q ≤ 1000000 := by
              have h1 := HQ.out
              have h2 := HFL.out
              have h3 := growR_len o.units p l3 cur
              have h4 := endR_len o.units (ws.drop a) (etab o.units ws R k) (o.units.drop (j + 1)) (growR o.units p l3 cur)
              rw [← HC2.out] at h4
              omega
            clear hl3 hL3 hlen3 hown3 hV3 HPX
            go_wp2_with (at_lookup; refine wpList_look rfl (.tmp 77) (.tmp 78) rfl HPY.out (a + m2) hnx (by omega) hq1 _ HV3.out rfl rfl ?_; intro _)
            go_loopg [81] n3 (fun gk i wr => ∃ (x q : Nat) (V : Nat → Value) (cur : List ByteArray), x ≤ n3 ∧ gk = n3 - x ∧ i = .int .i64 x ∧ Hid (q ≤ 1 + 1000 * k + cur.length) ∧ Hid (V (a + m2) = .slice A3 n3 c3) ∧ Hid (fin = endR o.units (ws.drop a) (etab o.units ws R k) (o.units.drop (j + 1)) (growR o.units p (l3.drop x) cur)) ∧ Hid (Sp wr W.heap.size gM (W.heap.size + 1) q nw M (upd (tabL nw k (etab o.units ws R k)) a cur) V) ∧ Hid (Kc Y wr) ∧ Hid (Below W.heap.size W wr))
            case atStart => exact ⟨0, q, V, cur, Nat.zero_le _, rfl, rfl, HQ.out, HV3.out, HC2.out, HPY.out, Kc.refl _, HBY.out⟩
            case round =>
              obtain ⟨x, q, V, cur, hx, hgk, rfl, HQ, HV3, HC2, HPY, HKC, HB5⟩ := hrel
              have HGX := Lib.hid hgk
              clear hgk
              by_cases hlx : x < n3
              · have hown3 := HPY.out.m.own (a + m2) hnx
                have hL3 : upd (tabL nw k (etab o.units ws R k)) a cur (a + m2) = l3 := by rw [upd_other _ _ _ (by omega), ← upd_other (tabL nw k (etab o.units ws R k)) a [] (show a + m2 ≠ a by omega)]; rw [← HL3.out, upd_other _ _ _ (by omega), upd_other _ _ _ (by omega)]
                rw [hL3, HV3.out] at hown3
                obtain ⟨_, _, _, he, _, _, _, HR3⟩ := hown3.rd.op
                cases he
                obtain ⟨b3, off3, e3, hA3, hb3, hd3, e0⟩ := HR3.out x hlx
                subst hA3
                have hes : e3.size ≤ 25165824 := by
                  have := HSZ.out e3 (List.mem_of_mem_drop (by rw [hd3.out]; exact List.mem_cons_self))
                  have := HAK.out
                  omega
                have HC3 : Hid (fin = endR o.units (ws.drop a) (etab o.units ws R k) (o.units.drop (j + 1)) (growR o.units p (l3.drop (x + 1)) (if o.units.any (overB (p.g ++ e3) p.g) = true then cur else cur ++ [p.g ++ e3]))) := by rw [Hid, HC2.out, hd3.out, growR]
                have y0 : wr.cell? ⟨bu, 0, none⟩ = some (.string p.g) := HKC.out.cell HYU.out (by decide) 0
                obtain ⟨z0, z1, z2⟩ := HZ.out wr HB5.out
                have hcs : (p.g ++ e3).size ≤ 67108864 := by rw [ByteArray.size_append]; omega
                have HCS := Lib.hid hcs
                clear hd3 HC2 hown3 hL3 hcs
                go_wp2_with fail
                refine (taken_any _ o (p.g ++ e3) p.g _ (HV.out wr HB5.out) HSO.out HCS.out).mono ?_
                rintro e w5 ⟨rfl, hb⟩
                have HP5 := Lib.hid (HPY.out.below hb)
                have HK5 : Hid (Kc Y w5) := HKC.out.trans (Kc.below hb)
                have HB6 : Hid (Below W.heap.size W w5) := bchain HB5.out hb
                clear hb z0 z1 z2 y0 e0 HPY HKC HB5
                cases htk : o.units.any (overB (p.g ++ e3) p.g)
                · have HC4 : Hid (fin = endR o.units (ws.drop a) (etab o.units ws R k) (o.units.drop (j + 1)) (growR o.units p (l3.drop (x + 1)) (cur ++ [p.g ++ e3]))) := by rw [Hid, HC3.out, htk]; rfl
                  have hcl : (cur ++ [p.g ++ e3]).length ≤ 500 := by
                    have h2 := HFL.out
                    have h3 := growR_len o.units p (l3.drop (x + 1)) (cur ++ [p.g ++ e3])
                    have h4 := endR_len o.units (ws.drop a) (etab o.units ws R k) (o.units.drop (j + 1)) (growR o.units p (l3.drop (x + 1)) (cur ++ [p.g ++ e3]))
                    rw [← HC4.out] at h4
                    omega
                  rw [List.length_append, List.length_singleton] at hcl
                  have HQ2 : Hid (q + 1 ≤ 1 + 1000 * k + (cur ++ [p.g ++ e3]).length) := by have := HQ.out; rw [Hid, List.length_append, List.length_singleton]; omega
                  have hq2 : q ≤ 1000000 := by have := HQ.out; omega
                  have hown5 := HP5.out.m.own a (by omega)
                  rw [upd_same] at hown5
                  obtain ⟨Aa, na, ca, hVa, _, _, _, _⟩ := hown5.rd.op
                  have HVA := Lib.hid hVa
                  rw [hVa] at hown5
                  have HO5 := Lib.hid hown5
                  have HCL : Hid (cur.length ≤ 1000000) := by rw [Hid]; omega
                  have hbs : W.heap.size + 1 ≤ w5.heap.size := by
                    have := HP5.out.m.bb
                    obtain ⟨D, h1, _⟩ := HP5.out.m.map
                    have := h1.lt
                    omega
                  clear HC3 htk hcl hown5 hVa
                  go_wp2_with (first | (at_lookup; refine wpList_look rfl (.tmp 96) (.tmp 97) rfl HP5.out a (by omega) (by omega) hq2 _ HVA.out rfl rfl ?_; intro hback; have HBK := Lib.hid hback; clear hback) | (at_builtin; refine wpList_app_at rfl (.tmp 98) (.tmp 100) rfl (W.heap.size + 1) _ cur rfl HO5.out (p.g ++ e3) HCL.out hbs rfl ?_; intro v' w6 hown6 hg6 hloc6; have HO6 := Lib.hid hown6; have HG6 := Lib.hid hg6; have HL6 := Lib.hid hloc6; clear hown6 hg6 hloc6) | (at_mapUpdate; refine wpList_back rfl (.tmp 94) (.tmp 95) (.tmp 101) rfl HBK.out rfl rfl rfl (by rw [HVA.out]; exact HG6.out) HO6.out (by rw [HVA.out]; exact HL6.out) ?_; intro w7 hsp7 hg7; have HP7 := Lib.hid hsp7; have HG7 := Lib.hid hg7; clear hsp7 hg7))
                  have HK7 : Hid (Kc Y w7) := HK5.out.trans (HP5.out.kc HO5.out HG6.out HG7.out)
                  have HB7 : Hid (Below W.heap.size W w7) := grown2 HB6.out HO5.out (Nat.le_succ _) HG6.out HG7.out (Nat.le_refl _)
                  have HP8 : Hid (Sp w7 W.heap.size gM (W.heap.size + 1) (q + 1) nw M (upd (tabL nw k (etab o.units ws R k)) a (cur ++ [p.g ++ e3])) (upd V a v')) := by rw [Hid, ← upd_upd _ a cur]; exact HP7.out
                  go_roundg (n3 - (x + 1))
                  case measure => have := HGX.out; omega
                  case rel => exact ⟨x + 1, q + 1, _, _, by omega, rfl, by go_num, HQ2.out, by rw [Hid, upd_other _ _ _ (by omega)]; exact HV3.out, HC4.out, HP8.out, HK7.out, HB7.out⟩
                · have HC4 : Hid (fin = endR o.units (ws.drop a) (etab o.units ws R k) (o.units.drop (j + 1)) (growR o.units p (l3.drop (x + 1)) cur)) := by rw [Hid, HC3.out, htk]; rfl
                  clear HC3 htk
                  go_wp2_with fail
                  go_roundg (n3 - (x + 1))
                  case measure => have := HGX.out; omega
                  case rel => exact ⟨x + 1, q, V, cur, by omega, rfl, by go_num, HQ.out, HV3.out, HC4.out, HP5.out, HK5.out, HB6.out⟩
              · have HC4 : Hid (fin = if R a = true then endR o.units (ws.drop a) (etab o.units ws R k) (o.units.drop (j + 1)) cur else cur) := by
                  have hRa : R a = true := by rw [← HR.out]; exact hma
                  rw [Hid, HC2.out, if_pos hRa, List.drop_of_length_le (l := l3) (by rw [HN3.out]; omega)]
                  rfl
                clear HC2
                go_wp2_with fail
                go_roundg (n - (j + 1))
                case measure => have := HGJ.out; omega
                case rel => exact ⟨j + 1, q, V, cur, by omega, rfl, by go_num, HQ.out, HC4.out, HPY.out, HB5.out⟩
        · have djn : decide (j < n) = false := by simpa using hlt
          have HFC : Hid (fin = cur) := by
            rw [Hid, HC.out, List.drop_of_length_le (l := o.units) (by rw [HN.out]; omega)]
            split <;> rfl
          have HP2 : Hid (Sp wr W.heap.size gM (W.heap.size + 1) q nw M (tabL nw (k + 1) (etab o.units ws R (k + 1))) V) := by
            refine HP.out.congr fun i hi => ?_
            rw [HFN.out, HFC.out]
            exact tabL_next nw k a HAK.out _ _ i
          have hq2 : q ≤ 1 + 1000 * (k + 1) := by
            have h1 := HQ.out
            have h2 := HFL.out
            rw [HFC.out] at h2
            omega
          clear HC
          go_wp2_with fail
          go_roundg (nw - (k + 1))
          case measure => have := HGK.out; have := HAK.out; omega
          case rel => exact ⟨k + 1, _, q, V, by have := HAK.out; omega, rfl, rfl, by have := HAK.out; omega, hq2, HP2.out, HB3.out⟩
    · obtain rfl : k = nw := by omega
      obtain rfl : x = -1 := by omega
      have hL0 : tabL k k (etab o.units ws R k) 0 = (etab o.units ws R k).getD 0 [] := by unfold tabL; rw [if_neg (by omega), show 0 + k - k = 0 by omega]
      have hown := HP.out.m.own 0 (Nat.zero_le _)
      have hE : ((etab o.units ws R k).getD 0 []).length ≤ 500 := HFT.out.1 k (by rw [HNW.out]; exact Nat.le_refl _) 0
      have hS : (sortT ((etab o.units ws R k).getD 0 [])).Pairwise (· ≠ ·) := by have := HFT.out.2; rw [HNW.out] at this; exact this
      have HRL : Hid (∀ v' w', RdS w' v' ((sortT ((etab o.units ws R k).getD 0 [])).take mo) → RetL o.units ws mo (.returned v') w') := fun v' w' h => ⟨v', M, rfl, HGR.out, by rw [HR.out, HNW.out]; exact h⟩
      rw [hL0] at hown
      generalize (etab o.units ws R k).getD 0 [] = E0 at hown hE hS HRL
      obtain ⟨A0, n0, c0, hV0, _, _, HN0, _⟩ := hown.rd.op
      have HV0 := Lib.hid hV0
      rw [hV0] at hown
      have HO0 : Hid (RdS wr (.slice A0 n0 c0) E0) := hown.rd
      have hq1 : q ≤ 1000000 := by omega
      have HSS := Lib.hid hS
      have HEL := Lib.hid hE
      clear hL0 hown hV0 hx hS hE
      go_wp2_with (at_lookup; refine wpList_look rfl (.tmp 104) (.const (.int .i64 0)) rfl HP.out 0 (Nat.zero_le _) (by omega) hq1 _ HV0.out rfl rfl ?_; intro _)
      refine (values_any A0 n0 c0 _).mono ?_
      rintro e w5 ⟨rfl, rfl⟩
      have hAL : Below wr.heap.size wr (wr.alloc (.cells #[.slice A0 n0 c0] 43)) := (Below.refl _ _).alloc (Nat.le_refl _) _
      have HAL := Lib.hid hAL
      clear hAL
      go_wp2_with fail
      refine (ssorted_any wr.heap.size A0 n0 c0 E0 (by have := HEL.out; omega) _ (Boxed.new _ _ _) (HO0.out.below HAL.out)).mono ?_
      rintro e w6 ⟨⟨v6, rfl, ho⟩, hb⟩
      have HB6 : Hid (Below W.heap.size W w6) := bchain (bchain HB.out HAL.out) hb
      obtain ⟨A6, n6, c6, rfl, hnc6, _, HN6, _⟩ := ho.rd.op
      have HO6 := Lib.hid ho.rd
      clear ho hb
      go_wp2_with fail
      refine (compact_any _ (sortT E0) (by rw [sortT_len]; have := HEL.out; omega) HSS.out _ HO6.out).mono ?_
      rintro e w7 ⟨rfl, nq, rfl⟩
      have HB7 : Hid (Below W.heap.size W (w6.drewN nq)) := below_drewN HB6.out _
      have hn6 : n6 ≤ 500 := by rw [← HN6.out, sortT_len]; exact HEL.out
      obtain ⟨z, hz, hzl, hzt⟩ : ∃ z : Nat, min (mo : Int) (n6 : Int) = (z : Int) ∧ z ≤ n6 ∧ z = min mo n6 := ⟨min mo n6, by omega, by omega, rfl⟩
      have hz2 : (if (n6 : Int) < (mo : Int) then (n6 : Int) else (mo : Int)) = (z : Int) := by split <;> omega
      have i1 : (0 : Int) ≤ (z : Int) := by omega
      have i2 : (z : Int) ≤ (c6 : Int) := by omega
      have HZT := Lib.hid hzt
      have HT7 : Hid (RdS (w6.drewN nq) (.slice A6 z c6) ((sortT E0).take z)) := (HO6.out.below (below_drewN (Below.refl _ _) _)).take hzl
      have HTT : Hid ((sortT E0).take z = (sortT E0).take mo) := by
        rw [Hid, hzt]
        by_cases h : mo ≤ n6
        · rw [Nat.min_eq_left h]
        · rw [Nat.min_eq_right (by omega), List.take_of_length_le (by rw [HN6.out]; exact Nat.le_refl _), List.take_of_length_le (by rw [HN6.out]; omega)]
      clear hzt
      go_wp2_with fail
      go_ret
      exact ⟨HRL.out _ _ (by rw [← HTT.out]; exact HT7.out), by rw [HG.out]; exact HBO.out _ HB7.out⟩
end Go.Proofs.Ytokbclpdpegicaa
