/-
  Units of orthographies.
-/
import Derived.Test.YtokbclpdpegicaaWP2
namespace Go.Proofs.Ytokbclpdpegicaa
open Go.ChangeShapes Go.WideShapes Go.ChangeAt Go.RowKit
set_option maxHeartbeats 4000000 in
set_option maxRecDepth 100000 in
theorem units_any (v : Value) (o : PO) (s : ByteArray) (w : World) (hv : RdO w v o) (hso : SmO o) (hg : ∀ p ∈ o.units, GoodU p) (hs : s.size ≤ 67108864) :
    Calls Try.prog 31 #[v, .string s] w fun e w' => (∃ v', e = .returned (.tuple #[v', .int .i64 (unitsF o.units s).2]) ∧ OwnI w' w.heap.size v' (unitsF o.units s).1) ∧ Below w.heap.size w w' := by
  have HSO := Lib.hid hso
  have HGD := Lib.hid hg
  obtain ⟨vu, vl, rfl, hu, hl⟩ := hv
  obtain ⟨A, n, c, rfl, hnc, hcm, HN, HR⟩ := hu.op
  obtain ⟨B, m, d, rfl, _, _, _, _⟩ := hl.op
  have hn2 : n ≤ 1048576 := by rw [← HN.out]; exact hso.units
  clear hu hl hso hg
  go_enter Try.func31, Try.ntmps31
  go_upto_region 1 with (fail)
  generalize hW : World.alloc w _ = W
  have HBW : Hid (Below w.heap.size w W) := by rw [← hW]; repeat (first | assumption | exact Below.refl _ _ | refine Below.alloc ?_ (by first | omega | (simp; done) | (simp; omega)) _ | refine Below.drew ?_ | refine below_drewN ?_ _ | refine Below.setCell ?_ (by first | omega | (simp; done) | (simp; omega)) _)
  have z1 : W.cell? ⟨w.heap.size, 1, none⟩ = some (.slice A n c) := by rw [← hW]; simp [go_sem]
  have hgW : w.heap.size < W.heap.size := by rw [← hW]; simp
  have HZ : Hid (∀ W' : World, Below W.heap.size W W' → W'.cell? ⟨w.heap.size, 1, none⟩ = some (.slice A n c)) := fun W' h => cell_keep hgW z1 h
  have HRW : Hid (∀ W' : World, Below W.heap.size W W' → ∀ k, k < n → UAt W' A o.units k) := fun W' h k hk => ((HR.out k hk).below HBW.out).below h
  have HBO : Hid (∀ W' : World, Below W.heap.size W W' → Below w.heap.size w W') := fun W' h => bchain HBW.out h
  have hle : w.heap.size ≤ W.heap.size := by omega
  clear hW HR HBW hgW
  generalize hg : w.heap.size = g at HZ HBO hle z1 ⊢
  have HG := Lib.hid hg
  clear hg
  have HU : Hid (∀ k p r, o.units.drop k = p :: r → o.units[k]? = some p) := fun k p r h => by
    have := congrArg (fun l => l[0]?) h
    simpa [List.getElem?_drop] using this
  go_step3
  go_wp2_with fail
  clear z1
  go_loopg [6, 17] n (fun gk mo i wr => ∃ k q : Nat, k ≤ n ∧ q ≤ 1048576 ∧ gk = n - k ∧ i = .int .i64 k ∧ mo = .int .i64 q ∧ Hid (∀ p ∈ o.units.take k, p.g.size ≤ q) ∧ Hid (Below W.heap.size W wr))
  case atStart => exact ⟨0, 0, Nat.zero_le _, by omega, rfl, rfl, rfl, by simp [Hid], Below.refl _ _⟩
  case round =>
    obtain ⟨k, q, hk, hq, hgk, rfl, rfl, HM, HB⟩ := hrel
    have HGK := Lib.hid hgk
    clear hgk
    by_cases hlt : k < n
    · obtain ⟨b, off, B2, m2, c2, p, hA, hbl, hdr, c0, c1, _⟩ := HRW.out wr HB.out k hlt
      subst hA
      have hgs : p.g.size ≤ 1048576 := HSO.out.graph p (List.mem_of_mem_drop (by rw [hdr.out]; exact List.mem_cons_self))
      have HTK : Hid (o.units.take (k + 1) = o.units.take k ++ [p]) := by
        have := HU.out k p _ hdr.out
        rw [Hid, List.take_add_one, this]; rfl
      have HX : Hid (∀ x : Nat, q ≤ x → p.g.size ≤ x → ∀ p' ∈ o.units.take (k + 1), p'.g.size ≤ x) := by
        intro x h1 h2 p' hp'
        rw [HTK.out] at hp'
        rcases List.mem_append.1 hp' with h | h
        · exact Nat.le_trans (HM.out p' h) h1
        · rw [List.mem_singleton.1 h]; exact h2
      clear hdr HTK
      by_cases hmx : (q : Int) < (p.g.size : Int)
      · go_wp2_with fail
        go_roundg (n - (k + 1))
        case measure => have := HGK.out; omega
        case rel => exact ⟨k + 1, p.g.size, by omega, hgs, rfl, by go_num, rfl, HX.out _ (by omega) (by omega), HB.out.alloc HB.out.size _⟩
      · go_wp2_with fail
        go_roundg (n - (k + 1))
        case measure => have := HGK.out; omega
        case rel => exact ⟨k + 1, q, by omega, hq, rfl, by go_num, rfl, HX.out _ (by omega) (by omega), HB.out.alloc HB.out.size _⟩
    · have HMO : Hid (∀ p ∈ o.units, p.g.size ≤ q) := fun p hp => HM.out p (by rw [List.take_of_length_le (by rw [HN.out]; omega)]; exact hp)
      clear HM HGK
      go_wp2_with fail
      go_step3
      go_wp2_with fail
      generalize hwo : wr = wo at HB ⊢
      clear hwo
      go_loopg [9, 10] s.size (fun gk v i wr => ∃ (a f : Nat) (l : List Int), a ≤ s.size ∧ gk = s.size - a ∧ i = .int .i64 a ∧ Hid (l.length ≤ a) ∧ s.size < f + a ∧ Hid (unitsF o.units s = (l ++ (unitsR o.units s f a).1, (unitsR o.units s f a).2)) ∧ Hid (OwnI wr W.heap.size v l) ∧ Hid (Below W.heap.size W wr))
      case atStart => exact ⟨0, s.size + 1, [], Nat.zero_le _, rfl, rfl, Nat.le_refl _, by omega, rfl, World.ownsRow_nil _ _ _ _, HB.out⟩
      case round =>
        obtain ⟨a, f, l, ha, hgk, rfl, HLN, hf, HU1, HO, HB1⟩ := hrel
        have HGA := Lib.hid hgk
        clear hgk
        obtain ⟨Av, nv, cv, rfl, _, _, HNV, _⟩ := HO.out.rd.op
        obtain ⟨f, rfl⟩ : ∃ f', f = f' + 1 := ⟨f - 1, by omega⟩
        by_cases hla : a < s.size
        · obtain ⟨c3, hc3, hcq, hci⟩ : ∃ c3 : Nat, a + c3 ≤ s.size ∧ (∀ x : Nat, x ≤ q → x ≤ s.size - a → x ≤ c3) ∧ (if (s.size : Int) - (a : Int) < (q : Int) then (s.size : Int) - (a : Int) else (q : Int)) = (c3 : Int) := by
            by_cases h : (s.size : Int) - (a : Int) < (q : Int)
            · exact ⟨s.size - a, by omega, fun x _ h2 => h2, by rw [if_pos h]; omega⟩
            · exact ⟨q, by omega, fun x h1 _ => h1, by rw [if_neg h]⟩
          have HC3 : Hid (∀ p ∈ o.units, begB (tl s a) p.g = true → p.g.size ≤ c3) := fun p hp hb => hcq _ (HMO.out p hp) (by have := beg_le hb; rw [tl_size s a ha] at this; exact this)
          have HUa : Hid (unitsF o.units s = if longF o.units (tl s a) < 0 then (l, a) else (l ++ ((longF o.units (tl s a)) :: (unitsR o.units s f (a + ((o.units[(longF o.units (tl s a)).toNat]?).map fun p => p.g.size).getD 0)).1), (unitsR o.units s f (a + ((o.units[(longF o.units (tl s a)).toNat]?).map fun p => p.g.size).getD 0)).2)) := by
            rw [Hid, HU1.out, unitsR, if_pos hla]
            split <;> simp
          clear hcq HU1
          go_wp2_with fail
          clear hci
          generalize hwo : wr = wo at HO HB1 ⊢
          clear hwo
          go_loopg [9, 10, 11] c3 (fun gk v2 a2 n2 wx => ∃ c4 : Nat, v2 = .slice Av nv cv ∧ a2 = .int .i64 a ∧ a + c4 ≤ s.size ∧ gk = c4 ∧ n2 = .int .i64 c4 ∧ Hid (∀ p ∈ o.units, begB (tl s a) p.g = true → p.g.size ≤ c4) ∧ Hid (Below wo.heap.size wo wx))
          case atStart => exact ⟨c3, rfl, rfl, hc3, rfl, rfl, HC3.out, Below.refl _ _⟩
          case round =>
            obtain ⟨c4, rfl, rfl, hc4, hgk, rfl, HC4, HB2⟩ := hrel
            have HGC := Lib.hid hgk
            clear hgk HC3
            by_cases h0 : 0 < c4
            · have HB2W : Hid (Below W.heap.size W wr) := bchain HB1.out HB2.out
              have z1 := HZ.out wr HB2W.out
              go_wp2_with fail
              clear z1
              generalize hwo : wr = wq at HB2 HB2W ⊢
              clear hwo
              go_loopg [9, 10, 44] n (fun gk v2 a2 i wx => ∃ k : Nat, v2 = .slice Av nv cv ∧ a2 = .int .i64 a ∧ k ≤ n ∧ gk = n - k ∧ i = .int .i64 k ∧ Hid (∀ (j : Nat) (p : PU), j < k → o.units[j]? = some p → p.g ≠ s.extract a (a + c4)) ∧ Hid (Below wq.heap.size wq wx))
              case atStart => exact ⟨0, rfl, rfl, Nat.zero_le _, rfl, rfl, fun j p h => absurd h (by omega), Below.refl _ _⟩
              case round =>
                obtain ⟨k, rfl, rfl, hk, hgk, rfl, HNE, HB3⟩ := hrel
                have HGK2 := Lib.hid hgk
                clear hgk
                by_cases hlt : k < n
                · have HB3W : Hid (Below W.heap.size W wr) := bchain HB2W.out HB3.out
                  obtain ⟨b, off, B2, m2, c2, p, hA, hbl, hdr, c0, c1, _⟩ := HRW.out wr HB3W.out k hlt
                  subst hA
                  have HPK := Lib.hid (HU.out k p _ hdr.out)
                  have hgs : p.g.size ≤ 1048576 := HSO.out.graph p (List.mem_of_mem_drop (by rw [hdr.out]; exact List.mem_cons_self))
                  clear hdr
                  have i0 : (0 : Int) ≤ (a : Int) := by omega
                  have i1 : (a : Int) ≤ (a : Int) + (c4 : Int) := by omega
                  have i2 : (a : Int) + (c4 : Int) ≤ (s.size : Int) := by omega
                  by_cases hpe : p.g = s.extract a (a + c4)
                  · have hbq : (p.g.toList == (s.extract a (a + c4)).toList) = true := by rw [bytes_beq]; simpa using hpe
                    have HPE := Lib.hid hpe
                    clear hpe
                    go_wp2_with fail
                    go_quiet (fail)
                    generalize hX : World.drewN (World.alloc wr _) _ = X
                    have HXB : Hid (Below wr.heap.size wr X) := by rw [← hX]; exact below_drewN ((Below.refl _ _).alloc (Nat.le_refl _) _) _
                    clear hX
                    obtain ⟨hbg, hsz⟩ := beg_of_eq hc4 HPE.out
                    have hL : longF o.units (tl s a) = k := longF_eq HPK.out hbg (fun q' hq' hb' => by rw [hsz]; exact HC4.out q' hq' hb') fun j q' hj hq' hb' => by
                      have h1 := HC4.out q' (List.mem_of_getElem? hq') hb'
                      have h2 : q'.g.size ≠ c4 := fun h => HNE.out j q' hj hq' (eq_of_beg hc4 hb' h)
                      omega
                    have HU2 : Hid (unitsF o.units s = ((l ++ [(k : Int)]) ++ (unitsR o.units s f (a + c4)).1, (unitsR o.units s f (a + c4)).2)) := by
                      rw [Hid, HUa.out, if_neg (by rw [hL]; omega), hL, Int.toNat_natCast, HPK.out]
                      simp [hsz]
                    have HOX : Hid (OwnI X W.heap.size (.slice Av nv cv) l) := own_below HO.out (bchain (bchain HB2.out HB3.out) HXB.out)
                    have HBX : Hid (Below W.heap.size W X) := bchain HB3W.out HXB.out
                    have hjl : W.heap.size ≤ X.heap.size := HBX.out.size
                    have hnv : nv ≤ 200000000 := by have := HLN.out; have := HNV.out; omega
                    clear c0 c1 hbg hsz hL HUa hbq HNE HC4 HPE
                    go_wp2_with (at_builtin; refine wpList_app_int2 rfl (.tmp 58) (.tmp 60) rfl W.heap.size (.slice Av nv cv) l rfl HOX.out (k : Int) nv HNV (by omega) hjl rfl ?_; intro g' cap' w9 ho hge hg; have HO9 := Lib.hid ho; have HG9 := Lib.hid hg; have HB9 : Hid (Below W.heap.size W w9) := HBX.out.grown hg HBX.out.size (fun j hj => (World.ownsRow.lt HOX.out j hj).1); clear ho hg)
                    go_roundg (s.size - (a + c4))
                    case measure => have := HGA.out; omega
                    case rel => exact ⟨a + c4, f, l ++ [(k : Int)], by omega, rfl, by go_num, by rw [Hid, List.length_append]; have := HLN.out; simp; omega, by omega, HU2.out, HO9.out, HB9.out⟩
                  · have hbq : (p.g.toList == (s.extract a (a + c4)).toList) = false := by rw [bytes_beq]; simpa using hpe
                    have HPE := Lib.hid hpe
                    clear hpe
                    go_wp2_with fail
                    go_quiet (fail)
                    go_wp2_with fail
                    go_roundg (n - (k + 1))
                    case measure => have := HGK2.out; omega
                    case rel => exact ⟨k + 1, rfl, rfl, by omega, rfl, by go_num, fun j p' hj hp' => by
                      by_cases hjk : j < k
                      · exact HNE.out j p' hjk hp'
                      · obtain rfl : j = k := by omega
                        rw [HPK.out] at hp'
                        cases hp'
                        exact HPE.out, (by first | exact below_drewN (HB3.out.alloc HB3.out.size _) _ | exact HB3.out.alloc HB3.out.size _)⟩
                · have HNA : Hid (∀ p ∈ o.units, p.g ≠ s.extract a (a + c4)) := fun p hp => by
                    obtain ⟨j, hj, he⟩ := List.getElem_of_mem hp
                    exact HNE.out j p (by rw [HN.out] at hj; omega) (by rw [List.getElem?_eq_getElem hj, he])
                  have HC5 : Hid (∀ p ∈ o.units, begB (tl s a) p.g = true → p.g.size ≤ c4 - 1) := fun p hp hb => by
                    have h1 := HC4.out p hp hb
                    have h2 : p.g.size ≠ c4 := fun h => HNA.out p hp (eq_of_beg hc4 hb h)
                    omega
                  have HB3O : Hid (Below wo.heap.size wo wr) := bchain HB2.out HB3.out
                  clear HNE HC4
                  go_wp2_with fail
                  go_roundg (c4 - 1)
                  case measure => have := HGC.out; omega
                  case rel => exact ⟨c4 - 1, rfl, rfl, by omega, rfl, by rw [Int.natCast_sub (by omega)]; rfl, HC5.out, HB3O.out⟩
            · have HL : Hid (longF o.units (tl s a) = -1) := longF_none fun p hp => by
                by_cases hb : begB (tl s a) p.g = true
                · have h1 := HC4.out p hp hb
                  have h2 := (HGD.out p hp).1
                  omega
                · simpa using hb
              have HU2 : Hid (unitsF o.units s = (l, a)) := by rw [Hid, HUa.out, HL.out, if_pos (by decide)]
              have HB2W : Hid (Below W.heap.size W wr) := bchain HB1.out HB2.out
              have HOY : Hid (OwnI wr W.heap.size (.slice Av nv cv) l) := own_below HO.out HB2.out
              clear HC4 HUa
              go_wp2_with fail
              try rw [Exit.noGoto_ret]
              go_ret2
              exact ⟨⟨_, by rw [HU2.out]; rfl, by rw [HU2.out, HG.out]; exact own_base HOY.out hle⟩, by rw [HG.out]; exact HBO.out _ HB2W.out⟩
        · have HU2 : Hid (unitsF o.units s = (l, a)) := by rw [Hid, HU1.out, unitsR, if_neg hla]; simp
          go_wp2_with fail
          try rw [Exit.noGoto_ret]
          go_ret2
          exact ⟨⟨_, by rw [HU2.out]; rfl, by rw [HU2.out, HG.out]; exact own_base HO.out hle⟩, by rw [HG.out]; exact HBO.out _ HB1.out⟩
end Go.Proofs.Ytokbclpdpegicaa
