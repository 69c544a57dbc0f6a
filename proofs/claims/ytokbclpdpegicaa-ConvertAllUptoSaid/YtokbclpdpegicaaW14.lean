/-
  Units of the reference of orthographies.
-/
import Derived.Test.YtokbclpdpegicaaWP1
namespace Go.Proofs.Ytokbclpdpegicaa
open Go.ChangeShapes Go.WideShapes Go.ChangeAt Go.RowKit
theorem tl_size (s : ByteArray) (a : Nat) (h : a ≤ s.size) : (tl s a).size = s.size - a := by rw [tl, ByteArray.size_extract]; omega
theorem beg_le {s t : ByteArray} (h : begB s t = true) : t.size ≤ s.size := by
  rw [begB] at h
  by_cases hc : t.size ≤ s.size
  · exact hc
  · rw [if_neg hc] at h; cases h
set_option maxHeartbeats 4000000 in
set_option maxRecDepth 100000 in
theorem units17_any (v : Value) (o : PO) (s : ByteArray) (w : World) (hv : RdO w v o) (hso : SmO o) (hg : ∀ p ∈ o.units, GoodU p) (hs : s.size ≤ 67108864) :
    Calls Try.prog 43 #[v, .string s] w fun e w' => (∃ v', e = .returned (.tuple #[v', .int .i64 (unitsF o.units s).2]) ∧ OwnI w' w.heap.size v' (unitsF o.units s).1) ∧ Below w.heap.size w w' := by
  have HV := Lib.hid hv
  have HSO := Lib.hid hso
  have HGD := Lib.hid hg
  obtain ⟨vu, vl, rfl, hu, hl⟩ := hv
  obtain ⟨A, n, c, rfl, hnc, hcm, HN, HR⟩ := hu.op
  obtain ⟨B, m, d, rfl, _, _, _, _⟩ := hl.op
  clear hu hl hso hg
  go_enter Try.func43, Try.ntmps43
  go_upto_region 1 with (fail)
  generalize hW : World.alloc w _ = W
  have HBW : Hid (Below w.heap.size w W) := by rw [← hW]; repeat (first | assumption | exact Below.refl _ _ | refine Below.alloc ?_ (by first | omega | (simp; done) | (simp; omega)) _ | refine Below.drew ?_ | refine below_drewN ?_ _ | refine Below.setCell ?_ (by first | omega | (simp; done) | (simp; omega)) _)
  have z0 : W.cell? ⟨w.heap.size, 0, none⟩ = some (.string o.name) := by rw [← hW]; simp [go_sem]
  have z1 : W.cell? ⟨w.heap.size, 1, none⟩ = some (.slice A n c) := by rw [← hW]; simp [go_sem]
  have z2 : W.cell? ⟨w.heap.size, 2, none⟩ = some (.slice B m d) := by rw [← hW]; simp [go_sem]
  have hgW : w.heap.size < W.heap.size := by rw [← hW]; simp
  have HZ : Hid (∀ W' : World, Below W.heap.size W W' → W'.cell? ⟨w.heap.size, 0, none⟩ = some (.string o.name) ∧ W'.cell? ⟨w.heap.size, 1, none⟩ = some (.slice A n c) ∧ W'.cell? ⟨w.heap.size, 2, none⟩ = some (.slice B m d)) := fun W' h => ⟨cell_keep hgW z0 h, cell_keep hgW z1 h, cell_keep hgW z2 h⟩
  have HRW : Hid (∀ k, k < n → UAt W A o.units k) := fun k hk => (HR.out k hk).below HBW.out
  have HV : Hid (RdO W (.agg #[.string o.name, .slice A n c, .slice B m d]) o) := HV.out.below HBW.out
  have HBO : Hid (∀ W' : World, Below W.heap.size W W' → Below w.heap.size w W') := fun W' h => bchain HBW.out h
  have hle : w.heap.size ≤ W.heap.size := by omega
  clear hW HR z0 z1 z2 HBW hgW
  generalize hg : w.heap.size = g at HZ HBO hle ⊢
  have HG := Lib.hid hg
  clear hg
  go_wp2_with fail
  go_loopw [6, 7, 8] (fun v i _ wr => ∃ (a f : Nat) (l : List Int), a ≤ s.size ∧ i = .int .i64 a ∧ Hid (l.length ≤ a) ∧ s.size < f + a ∧ Hid (unitsF o.units s = (l ++ (unitsR o.units s f a).1, (unitsR o.units s f a).2)) ∧ Hid (OwnI wr W.heap.size v l) ∧ Hid (Below W.heap.size W wr)) (fun _ i _ _ => s.size - (intOf i).toNat)
  case atStart => exact ⟨0, s.size + 1, [], Nat.zero_le _, rfl, Nat.le_refl _, by omega, rfl, World.ownsRow_nil _ _ _ _, Below.refl _ _⟩
  case round =>
    obtain ⟨a, f, l, ha, rfl, HLN, hf, HU, HO, HB⟩ := hrel
    obtain ⟨Av, nv, cv, rfl, _, _, HNV, _⟩ := HO.out.rd.op
    obtain ⟨f, rfl⟩ : ∃ f', f = f' + 1 := ⟨f - 1, by omega⟩
    by_cases hlt : a < s.size
    · have HT : Hid ((tl s a).size ≤ 67108864) := by rw [Hid, tl_size s a ha]; omega
      go_wp2_with fail
      refine wp_region_ord 4 [0, 1, 2, 3] [] [0, 1, 2, 3] [4, 5] (fun w' => Below wr.heap.size wr w') (by kernel_rfl) (by kernel_rfl) ?_
      rintro D hD
      have HSD : Hid (Below wr.heap.size wr D) := by rw [hD]; exact (Below.refl _ _).drew
      clear hD
      refine ⟨HSD.out, ?_⟩
      have HS : Hid (∀ w' : World, Below wr.heap.size wr w' → w'.cell? ⟨g, 0, none⟩ = some (.string o.name) ∧ w'.cell? ⟨g, 1, none⟩ = some (.slice A n c) ∧ w'.cell? ⟨g, 2, none⟩ = some (.slice B m d)) := fun w' h => HZ.out w' (bchain HB.out h)
      have hal : (a : Int) ≤ (s.size : Int) := by omega
      have ha0 : (0 : Int) ≤ (a : Int) := by omega
      iterate 4 (refine wpHead_cons (v := ?_) rfl rfl (fun w' hS => ?_) ?_; rotate_left; (focus ((try obtain ⟨s0, s1, s2⟩ := HS.out _ (hS rfl)); clear hS; go_simp; try with_reducible rfl; done)); (try simp only [Act.put, List.setIfInBounds_toArray, List.set_cons_zero, List.set_cons_succ]))
      refine wpHead_nil ?_
      refine wpTail_cons rfl rfl (fun K hK => ?_)
      go_simp
      refine (longest_any _ o (tl s a) _ (HV.out.below (bchain HB.out HSD.out)) HSO.out HT.out).mono ?_
      rintro e Y ⟨rfl, hb⟩
      refine hK.out _ _ (fun _ => bchain HSD.out hb) ?_
      clear hK K
      (try simp only [Act.put, List.setIfInBounds_toArray, List.set_cons_zero, List.set_cons_succ])
      have HXY := Lib.hid (bchain HSD.out hb)
      clear hb
      refine wpTail_rest 5 rfl ?_
      simp only [List.drop_succ_cons, List.drop_zero]
      go_wp2_with fail
      refine NoPanic.normal ?_
      have HBY : Hid (Below W.heap.size W Y) := bchain HB.out HXY.out
      have HOY : Hid (OwnI Y W.heap.size (.slice Av nv cv) l) := own_below HO.out HXY.out
      rcases longF_range o.units (tl s a) with h | ⟨j, p, h, hp, hbg⟩
      · have HU2 : Hid (unitsF o.units s = (l, a)) := by rw [Hid, HU.out, unitsR, if_pos hlt, if_pos (by rw [h]; decide)]; simp
        rw [h]
        clear h HU
        go_wp2_with fail
        go_ret2
        exact ⟨⟨_, by rw [HU2.out]; rfl, by rw [HU2.out, HG.out]; exact own_base HOY.out hle⟩, by rw [HG.out]; exact HBO.out _ HBY.out⟩
      · have HU2 : Hid (unitsF o.units s = ((l ++ [(j : Int)]) ++ (unitsR o.units s f (a + p.g.size)).1, (unitsR o.units s f (a + p.g.size)).2)) := by
          rw [Hid, HU.out, unitsR, if_pos hlt, if_neg (by rw [h]; omega), h]
          simp [hp]
        rw [h]
        have hsz := beg_le hbg
        rw [tl_size s a ha] at hsz
        have hg0 := (HGD.out p (List.mem_of_getElem? hp)).1
        have hjn : j < n := by rw [← HN.out]; exact (List.getElem?_eq_some_iff.1 hp).1
        have hnv : nv ≤ 200000000 := by have := HLN.out; have := HNV.out; omega
        obtain ⟨b, off, B3, m3, c3, p', hA, hbl, hdr, e0, _, _⟩ := HRW.out j hjn
        subst hA
        have hpp : p' = p := by
          have := congrArg (fun l => l[0]?) hdr.out
          simp only [List.getElem?_drop, Nat.add_zero, List.getElem?_cons_zero] at this
          rw [hp] at this
          exact (Option.some.inj this).symm
        subst hpp
        have E0 := Lib.hid e0
        have hjl : W.heap.size ≤ Y.heap.size := HBY.out.size
        obtain ⟨z0, z1, z2⟩ := HZ.out Y HBY.out
        have dj : decide ((j : Int) < 0) = false := by simp
        clear h HU hdr e0 hbg hp z0 z1 z2
        go_wp2_with (at_builtin; refine wpList_app_int2 rfl (.tmp 22) (.tmp 24) rfl W.heap.size (.slice Av nv cv) l rfl HOY.out (j : Int) nv HNV (by omega) hjl rfl ?_; intro g' cap' w9 ho hge hg; have HO9 := Lib.hid ho; have HG9 := Lib.hid hg; have HB9 : Hid (Below W.heap.size W w9) := HBY.out.grown hg HBY.out.size (fun j hj => (World.ownsRow.lt HOY.out j hj).1); clear ho hg; obtain ⟨z0, z1, z2⟩ := HZ.out w9 HB9.out; have e0 := cell_keep hbl E0.out HB9.out)
        go_roundw
        case rel => exact ⟨a + p'.g.size, f, l ++ [(j : Int)], by omega, by go_num, by rw [Hid, List.length_append]; have := HLN.out; simp; omega, by omega, HU2.out, HO9.out, HB9.out⟩
        case measure => simp [intOf]; omega
    · have HU2 : Hid (unitsF o.units s = (l, a)) := by rw [Hid, HU.out, unitsR, if_neg hlt]; simp
      go_wp2_with fail
      go_ret2
      exact ⟨⟨_, by rw [HU2.out]; rfl, by rw [HU2.out, HG.out]; exact own_base HO.out hle⟩, by rw [HG.out]; exact HBO.out _ HB.out⟩
end Go.Proofs.Ytokbclpdpegicaa
