/-
  Spell of orthographies.
-/
import Derived.Test.YtokbclpdpegicaaW19
namespace Go.Proofs.Ytokbclpdpegicaa
open Go.Shelf Go.ChangeShapes Go.WideShapes Go.ChangeAt Go.RowKit
/-- the builder in block b holds the text t -/
def Bd (w : World) (B b : Nat) (t : ByteArray) : Prop := Lib.IsBuilder 69 5 B b (Lib.byteCells t.data.toList) w
theorem builderAt_below {w w' : World} {B b : Nat} {p : Value} {bs : List Value} (h : Lib.BuilderAt 69 5 B b p bs w) (hb : Below w.heap.size w w') : Lib.BuilderAt 69 5 B b p bs w' := by
  have hlt := h.lt
  obtain ⟨hB, v, h1, h2, h3⟩ := h
  exact ⟨hB, v, (hb.block b hlt).trans h1, own_below h2 hb, h3⟩
theorem Bd.below {w w' : World} {B b : Nat} {t : ByteArray} (h : Bd w B b t) (hb : Below w.heap.size w w') : Bd w' B b t := by
  rcases h with h | h
  · exact .inl (builderAt_below h hb)
  · exact .inr (builderAt_below h hb)
theorem bd_new (w : World) : Bd (w.alloc (.cells #[.pointer none, .slice none 0 0] 69)) w.heap.size w.heap.size ByteArray.empty := Lib.fresh_isBuilder _ _ w
theorem bd_write {w : World} {B b : Nat} {t s : ByteArray} (h : Bd w B b t) (hl : t.size + s.size ≤ 140737488355328) (hB : B ≤ w.heap.size) :
    Calls Try.prog 41 #[.pointer (some ⟨b, 0, none⟩), .string s] w fun e w' => e = .returned (.tuple #[.int .i64 s.size, .nilIface]) ∧ Bd w' B b (t ++ s) ∧ Below B w w' := by
  refine (writeString_any B b _ s w h (by rw [Lib.byteCells_length, Array.length_toList]; exact hl) hB).mono ?_
  rintro e w' ⟨rfl, h1, h2⟩
  refine ⟨rfl, .inr ?_, h2⟩
  have : Lib.byteCells (t ++ s).data.toList = Lib.byteCells t.data.toList ++ Lib.strCells s := by
    rw [Lib.strCells_eq, ← Lib.byteCells_append, ByteArray.data_append, Array.toList_append]
  rw [this]
  exact h1
theorem bd_text {w : World} {B b : Nat} {t : ByteArray} (h : Bd w B b t) (hB : B ≤ w.heap.size) :
    Calls Try.prog 42 #[.pointer (some ⟨b, 0, none⟩)] w fun e w' => e = .returned (.string t) ∧ Below B w w' := by
  refine (Builder_String_any B b _ w h hB).mono ?_
  rintro e w' ⟨rfl, h2⟩
  exact ⟨by simp, h2⟩
set_option maxHeartbeats 4000000 in
set_option maxRecDepth 100000 in
theorem spell_any (v vw : Value) (o : PO) (ws : List Int) (w : World) (hv : RdO w v o) (hso : SmO o) (hgd : ∀ p ∈ o.units, GoodU p) (hw : RdI w vw ws) (hlen : ws.length ≤ 1000000000) :
    Calls Try.prog 26 #[v, vw] w fun e w' => RetT (spellF o.units ws) e ∧ Below w.heap.size w w' := by
  have HV := Lib.hid hv
  obtain ⟨vu, vl, rfl, hu, hl⟩ := hv
  obtain ⟨A, n, c, rfl, hnc, hcm, HN, HR⟩ := hu.op
  obtain ⟨B, m, d, rfl, _, _, _, _⟩ := hl.op
  obtain ⟨Aw, nw, cw, rfl, hnw, _, HNW, _⟩ := hw.op
  have HSO := Lib.hid hso
  have HGD := Lib.hid hgd
  have hn2 : n ≤ 1048576 := by rw [← HN.out]; exact hso.units
  rw [HNW.out] at hlen
  have HRI := Lib.hid hw
  clear hu hl hso hw hgd
  by_cases h0 : nw = 0
  · have HF : Hid (spellF o.units ws = (ByteArray.empty, 0, 4)) := by rw [Hid, spellF, HNW.out, if_pos h0]
    subst h0
    go_enter Try.func26, Try.ntmps26
    go_wp2_with fail
    go_ret3
    exact ⟨by rw [HF.out]; rfl, by repeat (first | assumption | exact Below.refl _ _ | refine Below.alloc ?_ (by first | omega | (simp; done) | (simp; omega)) _ | refine Below.drew ?_ | refine below_drewN ?_ _ | refine Below.setCell ?_ (by first | omega | (simp; done) | (simp; omega)) _)⟩
  have d0 : ((nw : Int) == 0) = false := by simp; omega
  have d0' : (nw == 0) = false := by simp; omega
  by_cases h24 : 24 < nw
  · have HF : Hid (spellF o.units ws = (ByteArray.empty, 0, 5)) := by rw [Hid, spellF, HNW.out, if_neg h0, if_pos h24]
    have d1 : decide ((24 : Int) < (nw : Int)) = true := by simp; omega
    go_enter Try.func26, Try.ntmps26
    go_wp2_with fail
    go_ret3
    exact ⟨by rw [HF.out]; rfl, by repeat (first | assumption | exact Below.refl _ _ | refine Below.alloc ?_ (by first | omega | (simp; done) | (simp; omega)) _ | refine Below.drew ?_ | refine below_drewN ?_ _ | refine Below.setCell ?_ (by first | omega | (simp; done) | (simp; omega)) _)⟩
  have HF : Hid (spellF o.units ws = spellR o.units ws 25 0 ByteArray.empty) := by rw [Hid, spellF, HNW.out, if_neg h0, if_neg h24]
  have d1 : decide ((24 : Int) < (nw : Int)) = false := by simp; omega
  have hw24 : nw ≤ 24 := by omega
  go_enter Try.func26, Try.ntmps26
  go_upto_region 1 with (fail)
  generalize hW : World.alloc w _ = W
  have HBW : Hid (Below w.heap.size w W) := by rw [← hW]; repeat (first | assumption | exact Below.refl _ _ | refine Below.alloc ?_ (by first | omega | (simp; done) | (simp; omega)) _ | refine Below.drew ?_ | refine below_drewN ?_ _ | refine Below.setCell ?_ (by first | omega | (simp; done) | (simp; omega)) _)
  have z0 : W.cell? ⟨w.heap.size, 0, none⟩ = some (.string o.name) := by rw [← hW]; simp [go_sem]
  have z2 : W.cell? ⟨w.heap.size, 2, none⟩ = some (.slice B m d) := by rw [← hW]; simp [go_sem]
  have z1 : W.cell? ⟨w.heap.size, 1, none⟩ = some (.slice A n c) := by rw [← hW]; simp [go_sem]
  have hgW : w.heap.size < W.heap.size := by rw [← hW]; simp
  have HZ : Hid (∀ W' : World, Below W.heap.size W W' → W'.cell? ⟨w.heap.size, 0, none⟩ = some (.string o.name) ∧ W'.cell? ⟨w.heap.size, 1, none⟩ = some (.slice A n c) ∧ W'.cell? ⟨w.heap.size, 2, none⟩ = some (.slice B m d)) := fun W' h => ⟨cell_keep hgW z0 h, cell_keep hgW z1 h, cell_keep hgW z2 h⟩
  have HRW : Hid (∀ W' : World, Below W.heap.size W W' → ∀ k, k < n → UAt W' A o.units k) := fun W' h k hk => ((HR.out k hk).below HBW.out).below h
  have HV : Hid (∀ W' : World, Below W.heap.size W W' → RdO W' (.agg #[.string o.name, .slice A n c, .slice B m d]) o) := fun W' h => (HV.out.below HBW.out).below h
  have HRI : Hid (∀ W' : World, Below W.heap.size W W' → RdI W' (.slice Aw nw cw) ws) := fun W' h => (HRI.out.below HBW.out).below h
  have HBO : Hid (∀ W' : World, Below W.heap.size W W' → Below w.heap.size w W') := fun W' h => bchain HBW.out h
  clear hW HR HBW hgW z0 z1 z2
  have HUN : Hid (∀ k, k < n → ∃ p, o.units[k]? = some p) := fun k hk => ⟨_, List.getElem?_eq_getElem (by rw [HN.out]; exact hk)⟩
  generalize hg : w.heap.size = g at HZ HBO ⊢
  have HG := Lib.hid hg
  clear hg
  go_wp2_with fail
  clear d0 d0' d1
  generalize hX : World.alloc W _ = X
  have HBX : Hid (Below W.heap.size W X) := by rw [← hX]; exact (Below.refl _ _).alloc (Nat.le_refl _) _
  have HBD : Hid (Bd X W.heap.size W.heap.size ByteArray.empty) := by rw [← hX]; exact bd_new W
  clear hX
  go_loopw [8] (fun i wr => ∃ (a f : Nat) (t : ByteArray), a ≤ nw ∧ i = .int .i64 a ∧ nw < f + a ∧ Hid (spellF o.units ws = spellR o.units ws f a t) ∧ Hid (t.size ≤ a * 1048576) ∧ Hid (Bd wr W.heap.size W.heap.size t) ∧ Hid (Below W.heap.size W wr)) (fun i _ => nw - (intOf i).toNat)
  case atStart => exact ⟨0, 25, _, Nat.zero_le _, rfl, by omega, HF.out, Nat.zero_le _, HBD.out, HBX.out⟩
  case round =>
    obtain ⟨a, f, t, ha, rfl, hf, HP, HT, HD, HB⟩ := hrel
    clear HF HBX HBD
    obtain ⟨f, rfl⟩ : ∃ f', f = f' + 1 := ⟨f - 1, by omega⟩
    have hbw : W.heap.size ≤ wr.heap.size := HB.out.size
    by_cases hla : a < nw
    · have HP2 : Hid (spellF o.units ws = if bestF o.units (ws.drop a) < 0 then (ByteArray.empty, a, 20) else spellR o.units ws f (a + (uS o.units (bestF o.units (ws.drop a))).length) (t ++ uG o.units (bestF o.units (ws.drop a)))) := by
        rw [Hid, HP.out, spellR, if_pos (by rw [HNW.out]; exact hla)]
      have dl : decide (a < nw) = true := by simpa using hla
      have ha0 : (0 : Int) ≤ (a : Int) := by omega
      have ha1 : (a : Int) ≤ (nw : Int) := by omega
      clear HP
      go_wp2_with fail
      refine wp_region_ord 4 [0, 1, 2, 3] [] [0, 1, 2, 3] [4, 5] (fun w' => Below wr.heap.size wr w') (by kernel_rfl) (by kernel_rfl) ?_
      rintro D hD
      have HSD : Hid (Below wr.heap.size wr D) := by rw [hD]; exact (Below.refl _ _).drew
      clear hD
      refine ⟨HSD.out, ?_⟩
      have HS : Hid (∀ w' : World, Below wr.heap.size wr w' → w'.cell? ⟨g, 0, none⟩ = some (.string o.name) ∧ w'.cell? ⟨g, 1, none⟩ = some (.slice A n c) ∧ w'.cell? ⟨g, 2, none⟩ = some (.slice B m d)) := fun w' h => HZ.out w' (bchain HB.out h)
      iterate 4 (refine wpHead_cons (v := ?_) rfl rfl (fun w' hS => ?_) ?_; rotate_left; (focus ((try obtain ⟨s0, s1, s2⟩ := HS.out _ (hS rfl)); clear hS; go_simp; try with_reducible rfl; done)); (try simp only [Act.put, List.setIfInBounds_toArray, List.set_cons_zero, List.set_cons_succ]))
      refine wpHead_nil ?_
      refine wpTail_cons rfl rfl (fun K hK => ?_)
      go_simp
      refine (unit_any _ _ o (ws.drop a) _ (HV.out _ (bchain HB.out HSD.out)) HSO.out ((HRI.out _ (bchain HB.out HSD.out)).drop ha) (by rw [List.length_drop, HNW.out]; omega)).mono ?_
      rintro e Y ⟨rfl, hb⟩
      refine hK.out _ _ (fun _ => bchain HSD.out hb) ?_
      clear hK K
      (try simp only [Act.put, List.setIfInBounds_toArray, List.set_cons_zero, List.set_cons_succ])
      have HXY := Lib.hid (bchain HSD.out hb)
      clear hb
      refine wpTail_rest 5 rfl ?_
      simp only [List.drop_succ_cons, List.drop_zero]
      go_wp2_with fail
      refine NoPanic.normal ?_
      have HBY : Hid (Below W.heap.size W Y) := bchain HB.out HXY.out
      have HDY : Hid (Bd Y W.heap.size W.heap.size t) := HD.out.below HXY.out
      have hby : W.heap.size ≤ Y.heap.size := HBY.out.size
      rcases bestF_range o.units (ws.drop a) with h | ⟨j, p, h, hp, hpr⟩
      · have HP3 : Hid (spellF o.units ws = (ByteArray.empty, a, 20)) := by rw [Hid, HP2.out, h, if_pos (by decide)]
        rw [h]
        clear HP2 h
        go_wp2_with fail
        go_ret3
        exact ⟨by rw [HP3.out]; rfl, by rw [HG.out]; exact HBO.out _ HBY.out⟩
      · have HP3 : Hid (spellF o.units ws = spellR o.units ws f (a + p.s.length) (t ++ p.g)) := by rw [Hid, HP2.out, h, if_neg (by omega), uS_at hp, uG_at hp]
        rw [h]
        have hjn : j < n := by rw [← HN.out]; exact (List.getElem?_eq_some_iff.1 hp).1
        obtain ⟨b, off, B2, m2, c2, hA, hbl, c0, c1, hrd, hnp⟩ := (HRW.out Y HBY.out j hjn).op hp
        subst hA
        have hgs : p.g.size ≤ 1048576 := HSO.out.graph p (List.mem_of_getElem? hp)
        have hts := HT.out
        have hpl := preR_len hpr
        have hgp := (HGD.out p (List.mem_of_getElem? hp)).2.1
        rw [List.length_drop, HNW.out, hnp.out] at hpl
        rw [hnp.out] at hgp
        have hj0 : (0 : Int) ≤ (j : Int) := by omega
        have hj1 : (j : Int) < (n : Int) := by omega
        have dj : decide ((j : Int) < 0) = false := by simp
        have HT2 : Hid ((t ++ p.g).size ≤ (a + m2) * 1048576) := by rw [Hid, ByteArray.size_append]; omega
        have htl : t.size ≤ 33554432 := by omega
        rw [hnp.out] at HP3
        have HPJ := Lib.hid hp
        clear HP2 h hp hpr HT hts hrd
        obtain ⟨z0, z1, z2⟩ := HZ.out Y HBY.out
        go_wp2_with fail
        refine (bd_write HDY.out (s := p.g) (by omega) hby).mono ?_
        rintro e w4 ⟨rfl, hd4, hb4⟩
        have HD4 := Lib.hid hd4
        have HB4 : Hid (Below W.heap.size W w4) := HBY.out.trans hb4
        clear hd4 hb4 c0 c1 z0 z1 z2
        obtain ⟨b', off', B3, m3, c3, hA, hbl', _, c1, _, hnp'⟩ := (HRW.out w4 HB4.out j hjn).op HPJ.out
        cases hA
        obtain ⟨z0, z1, z2⟩ := HZ.out w4 HB4.out
        obtain rfl : m3 = m2 := by rw [← hnp.out, ← hnp'.out]
        go_wp2_with fail
        go_roundw
        case rel => exact ⟨a + m3, f, _, by omega, by go_num, by omega, HP3.out, HT2.out, HD4.out, HB4.out⟩
        case measure => simp [intOf]; omega
    · have HP2 : Hid (spellF o.units ws = (t, 0, 0)) := by rw [Hid, HP.out, spellR, if_neg (by rw [HNW.out]; exact hla)]
      have dl : decide (a < nw) = false := by simpa using hla
      clear HP
      go_wp2_with fail
      refine (bd_text HD.out hbw).mono ?_
      rintro e w4 ⟨rfl, hb4⟩
      have HB4 : Hid (Below W.heap.size W w4) := HB.out.trans hb4
      clear hb4
      go_wp2_with fail
      go_ret3
      exact ⟨by rw [HP2.out]; rfl, by rw [HG.out]; exact HBO.out _ HB4.out⟩
end Go.Proofs.Ytokbclpdpegicaa
