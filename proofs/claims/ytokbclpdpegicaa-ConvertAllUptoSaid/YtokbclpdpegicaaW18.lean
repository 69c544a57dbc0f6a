/-
  Spell of the reference of orthographies.
-/
import Derived.Test.YtokbclpdpegicaaW17
namespace Go.Proofs.Ytokbclpdpegicaa
open Go.ChangeShapes Go.WideShapes Go.ChangeAt Go.RowKit
/-- a call returns a text and two numbers -/
def RetT (r : ByteArray × Nat × Int) (e : Ending) : Prop := e = .returned (.tuple #[.string r.1, .int .i64 r.2.1, .int .i64 r.2.2])
theorem uG_at {us : List PU} {j : Nat} {p : PU} (h : us[j]? = some p) : uG us (j : Int) = p.g := by rw [uG, Int.toNat_natCast, h]; rfl
theorem uS_at {us : List PU} {j : Nat} {p : PU} (h : us[j]? = some p) : uS us (j : Int) = p.s := by rw [uS, Int.toNat_natCast, h]; rfl
theorem UAt.op {w : World} {A : Option Addr} {us : List PU} {k : Nat} {p : PU} (h : UAt w A us k) (hp : us[k]? = some p) : ∃ b off B m cm, A = some ⟨b, off, none⟩ ∧ b < w.heap.size ∧ w.cell? ⟨b, off + k * 2, none⟩ = some (.string p.g) ∧ w.cell? ⟨b, off + k * 2 + 1, none⟩ = some (.slice B m cm) ∧ Hid (RdI w (.slice B m cm) p.s) ∧ Hid (p.s.length = m) := by
  obtain ⟨b, off, B, m, cm, p', rfl, h1, h2, h3, h4, h5⟩ := h
  have hpp : p' = p := by
    have := congrArg (fun l => l[0]?) h2.out
    simp only [List.getElem?_drop, Nat.add_zero, List.getElem?_cons_zero] at this
    rw [hp] at this
    exact (Option.some.inj this).symm
  subst hpp
  obtain ⟨_, _, _, he, _, _, hn, _⟩ := h5.out.op
  cases he
  exact ⟨b, off, B, m, cm, rfl, h1, h3, h4, h5, hn⟩
set_option maxHeartbeats 4000000 in
set_option maxRecDepth 100000 in
theorem spell17_any (v vw : Value) (o : PO) (ws : List Int) (w : World) (hv : RdO w v o) (hso : SmO o) (hgd : ∀ p ∈ o.units, GoodU p) (hw : RdI w vw ws) (hlen : ws.length ≤ 1000000000) :
    Calls Try.prog 28 #[v, vw] w fun e w' => RetT (spellF o.units ws) e ∧ Below w.heap.size w w' := by
  obtain ⟨vu, vl, rfl, hu, hl⟩ := hv
  obtain ⟨A, n, c, rfl, hnc, hcm, HN, HR⟩ := hu.op
  obtain ⟨B, m, d, rfl, _, _, _, _⟩ := hl.op
  obtain ⟨Aw, nw, cw, rfl, hnw, _, HNW, _⟩ := hw.op
  have HSO := Lib.hid hso
  have HGD := Lib.hid hgd
  have hn2 : n ≤ 1048576 := by rw [← HN.out]; exact hso.units
  rw [HNW.out] at hlen
  have HRI := Lib.hid hw
  clear hu hl hso hw hgd
  by_cases h0 : nw = 0
  · have HF : Hid (spellF o.units ws = (ByteArray.empty, 0, 4)) := by rw [Hid, spellF, HNW.out, if_pos h0]
    subst h0
    go_enter Try.func28, Try.ntmps28
    go_wp2_with fail
    go_ret3
    exact ⟨by rw [HF.out]; rfl, by repeat (first | assumption | exact Below.refl _ _ | refine Below.alloc ?_ (by first | omega | (simp; done) | (simp; omega)) _ | refine Below.drew ?_ | refine below_drewN ?_ _ | refine Below.setCell ?_ (by first | omega | (simp; done) | (simp; omega)) _)⟩
  have d0 : ((nw : Int) == 0) = false := by simp; omega
  have d0' : (nw == 0) = false := by simp; omega
  by_cases h24 : 24 < nw
  · have HF : Hid (spellF o.units ws = (ByteArray.empty, 0, 5)) := by rw [Hid, spellF, HNW.out, if_neg h0, if_pos h24]
    have d1 : decide ((24 : Int) < (nw : Int)) = true := by simp; omega
    go_enter Try.func28, Try.ntmps28
    go_wp2_with fail
    go_ret3
    exact ⟨by rw [HF.out]; rfl, by repeat (first | assumption | exact Below.refl _ _ | refine Below.alloc ?_ (by first | omega | (simp; done) | (simp; omega)) _ | refine Below.drew ?_ | refine below_drewN ?_ _ | refine Below.setCell ?_ (by first | omega | (simp; done) | (simp; omega)) _)⟩
  have HF : Hid (spellF o.units ws = spellR o.units ws 25 0 ByteArray.empty) := by rw [Hid, spellF, HNW.out, if_neg h0, if_neg h24]
  have d1 : decide ((24 : Int) < (nw : Int)) = false := by simp; omega
  have hw24 : nw ≤ 24 := by omega
  go_enter Try.func28, Try.ntmps28
  go_upto_region 1 with (fail)
  generalize hW : World.alloc w _ = W
  have HBW : Hid (Below w.heap.size w W) := by rw [← hW]; repeat (first | assumption | exact Below.refl _ _ | refine Below.alloc ?_ (by first | omega | (simp; done) | (simp; omega)) _ | refine Below.drew ?_ | refine below_drewN ?_ _ | refine Below.setCell ?_ (by first | omega | (simp; done) | (simp; omega)) _)
  have z1 : W.cell? ⟨w.heap.size, 1, none⟩ = some (.slice A n c) := by rw [← hW]; simp [go_sem]
  have hgW : w.heap.size < W.heap.size := by rw [← hW]; simp
  have HZ : Hid (∀ W' : World, Below W.heap.size W W' → W'.cell? ⟨w.heap.size, 1, none⟩ = some (.slice A n c)) := fun W' h => cell_keep hgW z1 h
  have HRW : Hid (∀ W' : World, Below W.heap.size W W' → ∀ k, k < n → UAt W' A o.units k) := fun W' h k hk => ((HR.out k hk).below HBW.out).below h
  have HRI : Hid (∀ W' : World, Below W.heap.size W W' → RdI W' (.slice Aw nw cw) ws) := fun W' h => (HRI.out.below HBW.out).below h
  have HBO : Hid (∀ W' : World, Below W.heap.size W W' → Below w.heap.size w W') := fun W' h => bchain HBW.out h
  clear hW HR HBW hgW z1
  have HUN : Hid (∀ k, k < n → ∃ p, o.units[k]? = some p) := fun k hk => ⟨_, List.getElem?_eq_getElem (by rw [HN.out]; exact hk)⟩
  generalize hg : w.heap.size = g at HZ HBO ⊢
  have HG := Lib.hid hg
  clear hg
  go_wp2_with fail
  clear d0 d0' d1
  go_loopg [7, 8] nw (fun gk s i wr => ∃ (a f : Nat) (t : ByteArray), a ≤ nw ∧ gk = nw - a ∧ s = .string t ∧ i = .int .i64 a ∧ nw < f + a ∧ Hid (spellF o.units ws = spellR o.units ws f a t) ∧ Hid (t.size ≤ a * 1048576) ∧ Hid (Below W.heap.size W wr))
  case atStart => exact ⟨0, 25, _, Nat.zero_le _, rfl, rfl, rfl, by omega, HF.out, Nat.zero_le _, Below.refl _ _⟩
  case round =>
    obtain ⟨a, f, t, ha, hgk, rfl, rfl, hf, HP, HT, HB⟩ := hrel
    have HGA := Lib.hid hgk
    clear hgk HF
    obtain ⟨f, rfl⟩ : ∃ f', f = f' + 1 := ⟨f - 1, by omega⟩
    by_cases hla : a < nw
    · have HP2 : Hid (spellF o.units ws = if bestF o.units (ws.drop a) < 0 then (ByteArray.empty, a, 20) else spellR o.units ws f (a + (uS o.units (bestF o.units (ws.drop a))).length) (t ++ uG o.units (bestF o.units (ws.drop a)))) := by
        rw [Hid, HP.out, spellR, if_pos (by rw [HNW.out]; exact hla)]
      have dl : decide (a < nw) = true := by simpa using hla
      clear HP
      go_wp2_with fail
      generalize hwo : wr = wo at HB ⊢
      clear hwo
      go_loopg [9, 10] n (fun gk b i wr => ∃ (k : Nat) (bi : Int) (q : Nat), k ≤ n ∧ gk = n - k ∧ i = .int .i64 k ∧ b = .int .i64 bi ∧ Hid (bestF o.units (ws.drop a) = bestR (ws.drop a) (o.units.drop k) k bi q) ∧ Hid (bi = -1 ∨ ∃ j : Nat, j < k ∧ bi = j ∧ ∃ p, o.units[j]? = some p ∧ p.s.length = q) ∧ Hid (Below wo.heap.size wo wr))
      case atStart => exact ⟨0, -1, 0, Nat.zero_le _, rfl, rfl, rfl, rfl, .inl rfl, Below.refl _ _⟩
      case round =>
        obtain ⟨k, bi, q, hk, hgk, rfl, rfl, HQ, HJ, HB2⟩ := hrel
        have HGK := Lib.hid hgk
        clear hgk
        have HBW : Hid (Below W.heap.size W wr) := bchain HB.out HB2.out
        have z1 := HZ.out wr HBW.out
        by_cases hlt : k < n
        · obtain ⟨p, hp⟩ := HUN.out k hlt
          obtain ⟨b, off, B2, m2, c2, hA, hbl, c0, c1, hrd, hnp⟩ := (HRW.out wr HBW.out k hlt).op hp
          subst hA
          have hdk : o.units.drop k = p :: o.units.drop (k + 1) := by
            rw [List.drop_eq_getElem_cons (by rw [HN.out]; exact hlt)]
            congr 1
            rw [List.getElem?_eq_getElem (by rw [HN.out]; exact hlt)] at hp
            exact Option.some.inj hp
          have HPK := Lib.hid hp
          have HQ2 : Hid (bestF o.units (ws.drop a) = if preR (ws.drop a) p.s = true ∧ (bi < 0 ∨ q < p.s.length) then bestR (ws.drop a) (o.units.drop (k + 1)) (k + 1) k p.s.length else bestR (ws.drop a) (o.units.drop (k + 1)) (k + 1) bi q) := by rw [Hid, HQ.out, hdk]; rfl
          have hk0 : (0 : Int) ≤ (k : Int) := by omega
          have hk1 : (k : Int) < (n : Int) := by omega
          clear HQ hdk hp
          have C0 := Lib.hid c0
          have C1 := Lib.hid c1
          go_wp2_with fail
          clear z1 c0 c1
          have HS : Hid (∀ w' : World, Below wr.heap.size wr w' → w'.cell? ⟨g, 1, none⟩ = some (.slice (some ⟨b, off, none⟩) n c) ∧ w'.cell? ⟨b, off + k * 2, none⟩ = some (.string p.g) ∧ w'.cell? ⟨b, off + k * 2 + 1, none⟩ = some (.slice B2 m2 c2)) := fun w' h => ⟨HZ.out w' (bchain HBW.out h), cell_keep hbl C0.out h, cell_keep hbl C1.out h⟩
          cases hpre : preR (ws.drop a) p.s
          · have HQ3 : Hid (bestF o.units (ws.drop a) = bestR (ws.drop a) (o.units.drop (k + 1)) (k + 1) bi q) := by rw [Hid, HQ2.out, hpre, if_neg (by simp)]
            clear HQ2
            refine wp_region_mix 26 [0, 1, 2, 3, 4, 5, 6, 7, 8, 9, 10, 11, 12, 13, 14, 15, 16, 17, 18, 19, 20, 21, 22, 23, 24, 25] [] [(true, 0), (true, 1), (true, 2), (true, 3), (true, 4), (true, 5), (true, 6), (false, 7), (true, 8), (true, 9), (true, 10), (true, 11), (true, 12), (true, 13), (true, 14), (true, 15), (true, 16), (true, 17), (true, 18), (true, 19), (true, 20), (true, 21), (true, 22), (true, 23), (true, 24), (true, 25), (false, 26), (false, 27), (false, 28)] (fun w' => Below wr.heap.size wr w') (by kernel_rfl) (by kernel_rfl) ?_
            rintro D hD
            have HSD : Hid (Below wr.heap.size wr D) := by rw [hD]; exact (Below.refl _ _).drew
            clear hD
            refine ⟨HSD.out, ?_⟩
            iterate 7 (refine wpMix_q (v := ?_) rfl rfl (fun w' hS => ?_) ?_; rotate_left; (focus ((try obtain ⟨s0, s1, s2⟩ := HS.out _ (hS rfl)); clear hS; go_simp; try with_reducible rfl; done)); (try simp only [Act.put, List.setIfInBounds_toArray, List.set_cons_zero, List.set_cons_succ]))
            refine wpMix_e rfl rfl (fun K hK => ?_)
            go_simp
            refine (starts_any _ B2 m2 c2 a p.g ws p.s _ (HRI.out D (bchain HBW.out HSD.out)) (hrd.out.below HSD.out) (by rw [HNW.out]; omega) (by rw [HNW.out]; exact hw24)).mono ?_
            rintro e Y ⟨rfl, hb⟩
            refine hK.out _ _ (fun _ => bchain HSD.out hb) ?_
            clear hK K
            (try simp only [Act.put, List.setIfInBounds_toArray, List.set_cons_zero, List.set_cons_succ])
            have HSY := Lib.hid (bchain HSD.out hb)
            clear hb
            rw [hpre]
            clear hpre
            (refine wpMix_q (v := ?_) rfl rfl (fun w' hS => ?_) ?_; rotate_left; (focus ((try obtain ⟨s0, s1, s2⟩ := HS.out _ (hS rfl)); clear hS; go_simp; try with_reducible rfl; done)); (try simp only [Act.put, List.setIfInBounds_toArray, List.set_cons_zero, List.set_cons_succ]))
            iterate 17 (refine wpMix_qskip rfl rfl ?_; (try simp only [Act.put, List.setIfInBounds_toArray, List.set_cons_zero, List.set_cons_succ]))
            iterate 2 (refine wpMix_eskip rfl rfl (HSY).out ?_; (try simp only [Act.put, List.setIfInBounds_toArray, List.set_cons_zero, List.set_cons_succ]))
            (refine wpMix_e rfl rfl (fun K hK => ?_); go_simp; refine hK.out _ _ (fun h => absurd h (by decide)) ?_; clear hK K; (try simp only [Act.put, List.setIfInBounds_toArray, List.set_cons_zero, List.set_cons_succ]))
            refine wpMix_nil ?_
            refine NoPanic.normal ?_
            go_wp2_with fail
            go_roundg (n - (k + 1))
            case measure => have := HGK.out; omega
            case rel => exact ⟨k + 1, bi, q, by omega, rfl, by go_num, rfl, HQ3.out, HJ.out.imp id fun ⟨j, h1, h2⟩ => ⟨j, by omega, h2⟩, bchain HB2.out HSY.out⟩
          rcases HJ.out with h | ⟨j, hj, h, pj, hpj, hq⟩
          · subst h
            have HQ3 : Hid (bestF o.units (ws.drop a) = bestR (ws.drop a) (o.units.drop (k + 1)) (k + 1) k p.s.length) := by rw [Hid, HQ2.out, if_pos ⟨hpre, .inl (by omega)⟩]
            clear HQ2
            refine wp_region_mix 26 [0, 1, 2, 3, 4, 5, 6, 7, 8, 9, 10, 11, 12, 13, 14, 15, 16, 17, 18, 19, 20, 21, 22, 23, 24, 25] [] [(true, 0), (true, 1), (true, 2), (true, 3), (true, 4), (true, 5), (true, 6), (false, 7), (true, 8), (true, 9), (true, 10), (true, 11), (true, 12), (true, 13), (true, 14), (true, 15), (true, 16), (true, 17), (true, 18), (true, 19), (true, 20), (true, 21), (true, 22), (true, 23), (true, 24), (true, 25), (false, 26), (false, 27), (false, 28)] (fun w' => Below wr.heap.size wr w') (by kernel_rfl) (by kernel_rfl) ?_
            rintro D hD
            have HSD : Hid (Below wr.heap.size wr D) := by rw [hD]; exact (Below.refl _ _).drew
            clear hD
            refine ⟨HSD.out, ?_⟩
            iterate 7 (refine wpMix_q (v := ?_) rfl rfl (fun w' hS => ?_) ?_; rotate_left; (focus ((try obtain ⟨s0, s1, s2⟩ := HS.out _ (hS rfl)); clear hS; go_simp; try with_reducible rfl; done)); (try simp only [Act.put, List.setIfInBounds_toArray, List.set_cons_zero, List.set_cons_succ]))
            refine wpMix_e rfl rfl (fun K hK => ?_)
            go_simp
            refine (starts_any _ B2 m2 c2 a p.g ws p.s _ (HRI.out D (bchain HBW.out HSD.out)) (hrd.out.below HSD.out) (by rw [HNW.out]; omega) (by rw [HNW.out]; exact hw24)).mono ?_
            rintro e Y ⟨rfl, hb⟩
            refine hK.out _ _ (fun _ => bchain HSD.out hb) ?_
            clear hK K
            (try simp only [Act.put, List.setIfInBounds_toArray, List.set_cons_zero, List.set_cons_succ])
            have HSY := Lib.hid (bchain HSD.out hb)
            clear hb
            rw [hpre]
            clear hpre
            iterate 4 (refine wpMix_q (v := ?_) rfl rfl (fun w' hS => ?_) ?_; rotate_left; (focus ((try obtain ⟨s0, s1, s2⟩ := HS.out _ (hS rfl)); clear hS; go_simp; try with_reducible rfl; done)); (try simp only [Act.put, List.setIfInBounds_toArray, List.set_cons_zero, List.set_cons_succ]))
            iterate 14 (refine wpMix_qskip rfl rfl ?_; (try simp only [Act.put, List.setIfInBounds_toArray, List.set_cons_zero, List.set_cons_succ]))
            (refine wpMix_eskip rfl rfl (HSY).out ?_; (try simp only [Act.put, List.setIfInBounds_toArray, List.set_cons_zero, List.set_cons_succ]))
            iterate 2 (refine wpMix_e rfl rfl (fun K hK => ?_); go_simp; refine hK.out _ _ (fun h => absurd h (by decide)) ?_; clear hK K; (try simp only [Act.put, List.setIfInBounds_toArray, List.set_cons_zero, List.set_cons_succ]))
            refine wpMix_nil ?_
            refine NoPanic.normal ?_
            go_wp2_with fail
            go_roundg (n - (k + 1))
            case measure => have := HGK.out; omega
            case rel => exact ⟨k + 1, k, p.s.length, by omega, rfl, by go_num, rfl, HQ3.out, .inr ⟨k, by omega, rfl, p, HPK.out, rfl⟩, bchain HB2.out HSY.out⟩
          · subst h
            obtain ⟨b', off', B3, m3, c3, hA, hbl', _, e1, _, hnj⟩ := (HRW.out wr HBW.out j (by omega)).op hpj
            cases hA
            have HS : Hid (∀ w' : World, Below wr.heap.size wr w' → (w'.cell? ⟨g, 1, none⟩ = some (.slice (some ⟨b, off, none⟩) n c) ∧ w'.cell? ⟨b, off + k * 2, none⟩ = some (.string p.g) ∧ w'.cell? ⟨b, off + k * 2 + 1, none⟩ = some (.slice B2 m2 c2)) ∧ w'.cell? ⟨b, off + j * 2 + 1, none⟩ = some (.slice B3 m3 c3)) := fun w' h => ⟨HS.out w' h, cell_keep hbl' e1 h⟩
            have HJK := Lib.hid hpj
            have dj : decide ((j : Int) < 0) = false := by simp
            have hj0 : (0 : Int) ≤ (j : Int) := by omega
            have hj1 : (j : Int) < (n : Int) := by omega
            clear e1 hpj
            by_cases hsz : m3 < m2
            · have d2 : decide (m3 < m2) = true := by simpa using hsz
              have d3 : decide ((m3 : Int) < (m2 : Int)) = true := by simpa using hsz
              have HQ3 : Hid (bestF o.units (ws.drop a) = bestR (ws.drop a) (o.units.drop (k + 1)) (k + 1) k p.s.length) := by rw [Hid, HQ2.out, if_pos ⟨hpre, .inr (by rw [hnp.out, ← hq, hnj.out]; exact hsz)⟩]
              clear HQ2 hq hsz
              refine wp_region_mix 26 [0, 1, 2, 3, 4, 5, 6, 7, 8, 9, 10, 11, 12, 13, 14, 15, 16, 17, 18, 19, 20, 21, 22, 23, 24, 25] [] [(true, 0), (true, 1), (true, 2), (true, 3), (true, 4), (true, 5), (true, 6), (false, 7), (true, 8), (true, 9), (true, 10), (true, 11), (true, 12), (true, 13), (true, 14), (true, 15), (true, 16), (true, 17), (true, 18), (true, 19), (true, 20), (true, 21), (true, 22), (true, 23), (true, 24), (true, 25), (false, 26), (false, 27), (false, 28)] (fun w' => Below wr.heap.size wr w') (by kernel_rfl) (by kernel_rfl) ?_
              rintro D hD
              have HSD : Hid (Below wr.heap.size wr D) := by rw [hD]; exact (Below.refl _ _).drew
              clear hD
              refine ⟨HSD.out, ?_⟩
              iterate 7 (refine wpMix_q (v := ?_) rfl rfl (fun w' hS => ?_) ?_; rotate_left; (focus ((try obtain ⟨⟨s0, s1, s2⟩, s3⟩ := HS.out _ (hS rfl)); clear hS; go_simp; try with_reducible rfl; done)); (try simp only [Act.put, List.setIfInBounds_toArray, List.set_cons_zero, List.set_cons_succ]))
              refine wpMix_e rfl rfl (fun K hK => ?_)
              go_simp
              refine (starts_any _ B2 m2 c2 a p.g ws p.s _ (HRI.out D (bchain HBW.out HSD.out)) (hrd.out.below HSD.out) (by rw [HNW.out]; omega) (by rw [HNW.out]; exact hw24)).mono ?_
              rintro e Y ⟨rfl, hb⟩
              refine hK.out _ _ (fun _ => bchain HSD.out hb) ?_
              clear hK K
              (try simp only [Act.put, List.setIfInBounds_toArray, List.set_cons_zero, List.set_cons_succ])
              have HSY := Lib.hid (bchain HSD.out hb)
              clear hb
              rw [hpre]
              clear hpre
              iterate 18 (refine wpMix_q (v := ?_) rfl rfl (fun w' hS => ?_) ?_; rotate_left; (focus ((try obtain ⟨⟨s0, s1, s2⟩, s3⟩ := HS.out _ (hS rfl)); clear hS; go_simp; try with_reducible rfl; done)); (try simp only [Act.put, List.setIfInBounds_toArray, List.set_cons_zero, List.set_cons_succ]))
              iterate 3 (refine wpMix_e rfl rfl (fun K hK => ?_); go_simp; refine hK.out _ _ (fun h => absurd h (by decide)) ?_; clear hK K; (try simp only [Act.put, List.setIfInBounds_toArray, List.set_cons_zero, List.set_cons_succ]))
              refine wpMix_nil ?_
              refine NoPanic.normal ?_
              go_wp2_with fail
              go_roundg (n - (k + 1))
              case measure => have := HGK.out; omega
              case rel => exact ⟨k + 1, k, p.s.length, by omega, rfl, by go_num, rfl, HQ3.out, .inr ⟨k, by omega, rfl, p, HPK.out, rfl⟩, bchain HB2.out HSY.out⟩
            · have d2 : decide (m3 < m2) = false := by simpa using hsz
              have d3 : decide ((m3 : Int) < (m2 : Int)) = false := by simpa using hsz
              have HQ3 : Hid (bestF o.units (ws.drop a) = bestR (ws.drop a) (o.units.drop (k + 1)) (k + 1) j q) := by
                rw [Hid, HQ2.out, if_neg]
                rintro ⟨_, h | h⟩
                · omega
                · rw [hnp.out, ← hq, hnj.out] at h; exact hsz h
              have HJQ := Lib.hid hq
              clear HQ2 hq hsz
              refine wp_region_mix 26 [0, 1, 2, 3, 4, 5, 6, 7, 8, 9, 10, 11, 12, 13, 14, 15, 16, 17, 18, 19, 20, 21, 22, 23, 24, 25] [] [(true, 0), (true, 1), (true, 2), (true, 3), (true, 4), (true, 5), (true, 6), (false, 7), (true, 8), (true, 9), (true, 10), (true, 11), (true, 12), (true, 13), (true, 14), (true, 15), (true, 16), (true, 17), (true, 18), (true, 19), (true, 20), (true, 21), (true, 22), (true, 23), (true, 24), (true, 25), (false, 26), (false, 27), (false, 28)] (fun w' => Below wr.heap.size wr w') (by kernel_rfl) (by kernel_rfl) ?_
              rintro D hD
              have HSD : Hid (Below wr.heap.size wr D) := by rw [hD]; exact (Below.refl _ _).drew
              clear hD
              refine ⟨HSD.out, ?_⟩
              iterate 7 (refine wpMix_q (v := ?_) rfl rfl (fun w' hS => ?_) ?_; rotate_left; (focus ((try obtain ⟨⟨s0, s1, s2⟩, s3⟩ := HS.out _ (hS rfl)); clear hS; go_simp; try with_reducible rfl; done)); (try simp only [Act.put, List.setIfInBounds_toArray, List.set_cons_zero, List.set_cons_succ]))
              refine wpMix_e rfl rfl (fun K hK => ?_)
              go_simp
              refine (starts_any _ B2 m2 c2 a p.g ws p.s _ (HRI.out D (bchain HBW.out HSD.out)) (hrd.out.below HSD.out) (by rw [HNW.out]; omega) (by rw [HNW.out]; exact hw24)).mono ?_
              rintro e Y ⟨rfl, hb⟩
              refine hK.out _ _ (fun _ => bchain HSD.out hb) ?_
              clear hK K
              (try simp only [Act.put, List.setIfInBounds_toArray, List.set_cons_zero, List.set_cons_succ])
              have HSY := Lib.hid (bchain HSD.out hb)
              clear hb
              rw [hpre]
              clear hpre
              iterate 18 (refine wpMix_q (v := ?_) rfl rfl (fun w' hS => ?_) ?_; rotate_left; (focus ((try obtain ⟨⟨s0, s1, s2⟩, s3⟩ := HS.out _ (hS rfl)); clear hS; go_simp; try with_reducible rfl; done)); (try simp only [Act.put, List.setIfInBounds_toArray, List.set_cons_zero, List.set_cons_succ]))
              iterate 3 (refine wpMix_e rfl rfl (fun K hK => ?_); go_simp; refine hK.out _ _ (fun h => absurd h (by decide)) ?_; clear hK K; (try simp only [Act.put, List.setIfInBounds_toArray, List.set_cons_zero, List.set_cons_succ]))
              refine wpMix_nil ?_
              refine NoPanic.normal ?_
              go_wp2_with fail
              go_roundg (n - (k + 1))
              case measure => have := HGK.out; omega
              case rel => exact ⟨k + 1, j, q, by omega, rfl, by go_num, rfl, HQ3.out, .inr ⟨j, by omega, rfl, pj, HJK.out, HJQ.out⟩, bchain HB2.out HSY.out⟩
        · have HQ3 : Hid (bestF o.units (ws.drop a) = bi) := by rw [Hid, HQ.out, List.drop_of_length_le (l := o.units) (by rw [HN.out]; omega)]; rfl
          clear HQ HJ
          rcases bestF_range o.units (ws.drop a) with h | ⟨j, p, h, hp, hpr⟩
          · obtain rfl : bi = -1 := by rw [← HQ3.out, h]
            have HP3 : Hid (spellF o.units ws = (ByteArray.empty, a, 20)) := by rw [Hid, HP2.out, h, if_pos (by decide)]
            clear HP2 h
            go_wp2_with fail
            go_ret3
            exact ⟨by rw [HP3.out]; rfl, by rw [HG.out]; exact HBO.out _ HBW.out⟩
          · obtain rfl : bi = (j : Int) := by rw [← HQ3.out, h]
            have HP3 : Hid (spellF o.units ws = spellR o.units ws f (a + p.s.length) (t ++ p.g)) := by rw [Hid, HP2.out, h, if_neg (by omega), uS_at hp, uG_at hp]
            have hjn : j < n := by rw [← HN.out]; exact (List.getElem?_eq_some_iff.1 hp).1
            obtain ⟨b, off, B2, m2, c2, hA, hbl, c0, c1, hrd, hnp⟩ := (HRW.out wr HBW.out j hjn).op hp
            subst hA
            have hgs : p.g.size ≤ 1048576 := HSO.out.graph p (List.mem_of_getElem? hp)
            have hts := HT.out
            have hpl := preR_len hpr
            have hgp := (HGD.out p (List.mem_of_getElem? hp)).2.1
            rw [List.length_drop, HNW.out, hnp.out] at hpl
            rw [hnp.out] at hgp
            have hj0 : (0 : Int) ≤ (j : Int) := by omega
            have hj1 : (j : Int) < (n : Int) := by omega
            have dj : decide ((j : Int) < 0) = false := by simp
            have HT2 : Hid ((t ++ p.g).size ≤ (a + m2) * 1048576) := by rw [Hid, ByteArray.size_append]; omega
            have htl : t.size ≤ 33554432 := by omega
            rw [hnp.out] at HP3
            clear HP2 h hp hpr HT hts
            go_wp2_with fail
            go_roundg (nw - (a + m2))
            case measure => have := HGA.out; omega
            case rel => exact ⟨a + m2, f, _, by omega, rfl, rfl, by go_num, by omega, HP3.out, HT2.out, HBW.out⟩
    · have HP2 : Hid (spellF o.units ws = (t, 0, 0)) := by rw [Hid, HP.out, spellR, if_neg (by rw [HNW.out]; exact hla)]
      have dl : decide (a < nw) = false := by simpa using hla
      clear HP
      go_wp2_with fail
      go_ret3
      exact ⟨by rw [HP2.out]; rfl, by rw [HG.out]; exact HBO.out _ HB.out⟩
end Go.Proofs.Ytokbclpdpegicaa
