/-
  TacticsListed: the walk.
-/
import Derived.Test.YtcmfgblfgldonaaN29
import Derived.Test.YtcmfgblfgldonaaNP8
namespace Go.Proofs.Ytcmfgblfgldonaa
open Go.ChangeShapes Go.WideShapes Go.ChangeAt Go.RowKit
def fndB (W : List (List Int)) (l : List Int) : Bool := W.any fun x => sameB x l
theorem fndB_snoc (W : List (List Int)) (l x : List Int) : fndB (W ++ [x]) l = (fndB W l || sameB x l) := by simp [fndB]
theorem fndB_iff (W : List (List Int)) (l : List Int) : fndB W l = true ↔ l ∈ W := by
  rw [fndB, List.any_eq_true]
  constructor
  · rintro ⟨x, hx, h⟩; rw [sameB_iff] at h; exact h ▸ hx
  · intro h; exact ⟨l, h, (sameB_iff l l).2 rfl⟩
theorem take_of_dropL {α : Type} {l : List α} {k : Nat} {x : α} {r : List α} (h : l.drop k = x :: r) : l.take (k + 1) = l.take k ++ [x] := by
  have hk : k < l.length := by
    rcases Nat.lt_or_ge k l.length with h1 | h1
    · exact h1
    · rw [List.drop_of_length_le h1] at h; cases h
  rw [List.drop_eq_getElem_cons hk] at h
  rw [List.take_succ_eq_append_getElem hk, (List.cons.inj h).1]
theorem pair_at {R : List Int → List Int → Prop} {W : List (List Int)} (h : W.Pairwise R) {p : Nat} {x y : List Int} {r s : List (List Int)} (h1 : W.drop p = x :: r) (h2 : W.drop (p + 1) = y :: s) : R x y := by
  have h3 : (W.drop p).Pairwise R := h.sublist (List.drop_sublist _ _)
  have h4 : r = y :: s := by
    have := congrArg (List.drop 1) h1
    rw [List.drop_drop, h2] at this
    simpa using this.symm
  rw [h1, h4] at h3
  exact (List.pairwise_cons.1 h3).1 y (by simp)
set_option maxHeartbeats 8000000 in
set_option maxRecDepth 100000 in
theorem listed_walk (v u : Value) (N : PNet) (l : List Int) (len : Int) (w : World) (hv : RdN w v N) (hu : RdI w u l) :
    Calls Try.prog 8 #[v, u, .int .i64 len] w fun e w' => e = .returned (.bool true) ∧ Below w.heap.size w w' := by
  obtain ⟨A3, n3, c3, rfl, _, _, HL3, _⟩ := hu.op
  have HU := Lib.hid hu
  clear hu
  have HV := Lib.hid hv
  obtain ⟨vs, vf, rfl, hs, hf⟩ := hv
  obtain ⟨A1, n1, c1, rfl, _, _, HN1, _⟩ := hs.op
  obtain ⟨A2, n2, c2, rfl, _, _, HN2, _⟩ := hf.op
  clear hs hf
  obtain ⟨st, hst⟩ : ∃ st, N.states = st := ⟨_, rfl⟩
  have HST := Lib.hid hst
  rw [hst] at HV ⊢
  clear hst
  go_enter Try.func8, Try.ntmps8
  go_wp2_with fail
  generalize hW : World.alloc w _ = W
  have HBW : Hid (Below w.heap.size w W) := by rw [← hW]; repeat (first | assumption | exact Below.refl _ _ | refine Below.alloc ?_ (by first | omega | (simp; done) | (simp; omega)) _ | refine Below.drew ?_ | refine below_drewN ?_ _ | refine Below.setCell ?_ (by first | omega | (simp; done) | (simp; omega)) _)
  have HNB : Hid (NBlk W w.heap.size (.int .i64 st) (.slice A1 n1 c1) (.slice A2 n2 c2)) := by rw [← hW]; exact heap_alloc_new w _
  clear hW
  refine (light_any _ N _ (HV.out.below HBW.out)).mono ?_
  rintro e w1 ⟨rfl, hb⟩
  have HB1 := Lib.hid (bchain HBW.out hb)
  have HNB1 := Lib.hid (HNB.out.below hb)
  clear hb HNB HBW
  cases hsm : lightB N
  · skip
    go_wp2_with fail
    refine (awake_any _).mono ?_
    rintro e wz ⟨rfl, hbz⟩
    have HBZ := Lib.hid (bchain (HB1).out hbz)
    clear hbz
    go_wp2_with fail
    go_ret
    exact ⟨rfl, HBZ.out⟩
  have hG := light_good hsm
  clear hsm
  by_cases hm30 : 30 < n3
  · have hd30 : decide (30 < (n3 : Int)) = true := by simp; omega
    go_wp2_with fail
    refine (awake_any _).mono ?_
    rintro e wz ⟨rfl, hbz⟩
    have HBZ := Lib.hid (bchain (HB1).out hbz)
    clear hbz
    go_wp2_with fail
    go_ret
    exact ⟨rfl, HBZ.out⟩
  have hd30 : decide (30 < (n3 : Int)) = false := by simp; omega
  obtain ⟨S, hS⟩ : ∃ S : Nat, N.states = (S : Int) := ⟨N.states.toNat, by have := hG.s1; omega⟩
  obtain rfl : st = (S : Int) := HST.out.symm.trans hS
  obtain ⟨p0, p1, p2, hpl⟩ := HNB1.out.facts
  go_wp2_with fail
  refine (words_any _ N S len _ (HV.out.below HB1.out) hG hS).mono ?_
  rintro e W ⟨⟨vw, rfl, hvw⟩, hb⟩
  obtain ⟨AW, nw, cw, rfl, hnw, hcw, HLW, HRW⟩ := hvw.rd.op
  have HB3 := Lib.hid (bchain HB1.out hb)
  have HNB3 := Lib.hid (HNB1.out.below hb)
  have HMEM := Lib.hid (mem_words hG hS len)
  have HSRT := Lib.hid (sorted_words hG hS len)
  have hwl : nw ≤ 1000000 := by have := words_len (N := N) (S := S) len; rw [HLW.out] at this; exact this
  clear hb p0 p1 p2 hpl hvw hd30
  generalize wordsF N S len = Ws at HLW HRW HMEM HSRT
  have HFND : Hid (fndB Ws l = (decide (len ≤ 4) && (decide ((n3 : Int) ≤ len) && accF N l))) := by
    rw [Hid, Bool.eq_iff_iff, fndB_iff, HMEM.out]
    simp only [Bool.and_eq_true, decide_eq_true_eq, HL3.out]
  go_wp2_with fail
  go_loopw [8, 9] (fun f c wr => ∃ i : Nat, i ≤ nw ∧ f = .bool (fndB (Ws.take i) l) ∧ c = .int .i64 (i : Int) ∧ Hid (Below W.heap.size W wr)) (fun _ c _ => nw - (intOf c).toNat)
  case atStart => exact ⟨0, Nat.zero_le _, rfl, rfl, Below.refl _ _⟩
  case round =>
    obtain ⟨i, hi, rfl, rfl, HB⟩ := hrel
    have HBR := Lib.hid (bchain HB3.out HB.out)
    by_cases hlt : i < nw
    · obtain ⟨b, off, B, m, cm, x, rfl, hb, hd, hck, hx⟩ := HRW.out i hlt
      have HTK := Lib.hid (take_of_dropL hd.out)
      have hmx : x ∈ Ws := List.mem_of_mem_drop (by rw [hd.out]; exact List.mem_cons_self)
      obtain ⟨hx1, hx2, hx3⟩ := (HMEM.out x).1 hmx
      obtain ⟨_, _, _, he, hmc, _, HLX, _⟩ := hx.out.op
      cases he
      have hlx : decide (len < (m : Int)) = false := by rw [HLX.out] at hx2; simp; omega
      have HAC := Lib.hid hx3
      have HCK := Lib.hid hck
      have HF : Hid (fndB (Ws.take (i + 1)) l = (fndB (Ws.take i) l || sameB x l)) := by rw [Hid, HTK.out]; exact fndB_snoc _ _ _
      have hi0 : (0 : Int) ≤ (i : Int) := by omega
      have hw0 : w.heap.size ≤ W.heap.size := HB3.out.size
      go_wp2_with fail
      by_cases hi1 : 0 < i
      · obtain ⟨p, hp⟩ : ∃ p, i = p + 1 := ⟨i - 1, by omega⟩
        obtain ⟨b', off', B', m', cm', x', he', hb', hd', hck', hx'⟩ := HRW.out p (by omega)
        cases he'
        have hls : lessB x' x = true := pair_at HSRT.out hd'.out (by rw [← hp]; exact hd.out)
        have HLS := Lib.hid hls
        have hwr : IntKind.i64.wrap ((i : Int) - 1) = (p : Int) := by rw [show (i : Int) - 1 = (p : Int) by omega]; exact IntWalk.i64_in _ (by omega)
        have hp0 : (0 : Int) ≤ (p : Int) := by omega
        have hpn : p < nw := by omega
        have HS : Hid (∀ w' : World, Below wr.heap.size wr w' → (w'.cell? ⟨w.heap.size, 0, none⟩ = some (.int .i64 S) ∧ w'.cell? ⟨w.heap.size, 1, none⟩ = some (.slice A1 n1 c1) ∧ w'.cell? ⟨w.heap.size, 2, none⟩ = some (.slice A2 n2 c2)) ∧ w'.cell? ⟨b, off + i, none⟩ = some (.slice B m cm) ∧ w'.cell? ⟨b, off + p, none⟩ = some (.slice B' m' cm')) := by
          intro w' h
          have hWw := bchain HB.out h
          obtain ⟨f0, f1, f2, _⟩ := (HNB3.out.below hWw).facts
          exact ⟨⟨f0, f1, f2⟩, (hWw.cell hb).trans hck, (hWw.cell hb).trans hck'⟩
        clear hck hck' hx1 hx2 hx3 hls hp
        refine wp_region_mix 29 [0, 1, 2, 3, 4, 5, 6, 7, 8, 9, 10, 11, 12, 13, 14, 15, 16, 17, 18, 19, 20, 21, 22, 23, 24, 25, 26, 27, 28] [] [(true, 0), (true, 1), (true, 2), (true, 3), (true, 4), (true, 5), (true, 6), (true, 7), (true, 8), (true, 9), (true, 10), (true, 11), (true, 12), (false, 13), (true, 14), (true, 15), (true, 16), (true, 17), (true, 18), (true, 19), (true, 20), (true, 21), (true, 22), (true, 23), (true, 24), (true, 25), (true, 26), (true, 27), (true, 28), (false, 29), (false, 30), (false, 31), (false, 32)] (fun w' => Below wr.heap.size wr w') (by kernel_rfl) (by kernel_rfl) ?_
        rintro D hD
        have HSD : Hid (Below wr.heap.size wr D) := by rw [hD]; exact (Below.refl _ _).drew
        clear hD
        refine ⟨HSD.out, ?_⟩
        iterate 13 (refine wpMix_q (v := ?_) rfl rfl (fun w' hS => ?_) ?_; rotate_left; (focus ((try obtain ⟨⟨s0, s1, s2⟩, sx, sp⟩ := HS.out _ (hS rfl)); clear hS; go_simp; try with_reducible rfl; done)); (try simp only [Act.put, List.setIfInBounds_toArray, List.set_cons_zero, List.set_cons_succ]))
        refine wpMix_e rfl rfl (fun K hK => ?_)
        go_simp
        refine (accepts_any _ _ N S x _ (HV.out.below (bchain HBR.out HSD.out)) (hx.out.below (bchain HB.out HSD.out)) hG hS).mono ?_
        rintro e Y1 ⟨rfl, hb⟩
        refine hK.out _ _ (fun _ => bchain HSD.out hb) ?_
        clear hK K
        (try simp only [Act.put, List.setIfInBounds_toArray, List.set_cons_zero, List.set_cons_succ])
        have HSY1 := Lib.hid (bchain HSD.out hb)
        have HXY1 := Lib.hid hb
        clear hb
        rw [HAC.out]
        iterate 15 (refine wpMix_q (v := ?_) rfl rfl (fun w' hS => ?_) ?_; rotate_left; (focus ((try obtain ⟨⟨s0, s1, s2⟩, sx, sp⟩ := HS.out _ (hS rfl)); clear hS; go_simp; try with_reducible rfl; done)); (try simp only [Act.put, List.setIfInBounds_toArray, List.set_cons_zero, List.set_cons_succ]))
        refine wpMix_e rfl rfl (fun K hK => ?_)
        go_simp
        refine (less_any _ _ x' x _ (hx'.out.below (bchain HB.out HSY1.out)) (hx.out.below (bchain HB.out HSY1.out))).mono ?_
        rintro e Y2 ⟨rfl, hb⟩
        refine hK.out _ _ (fun h => absurd h (by decide)) ?_
        clear hK K
        (try simp only [Act.put, List.setIfInBounds_toArray, List.set_cons_zero, List.set_cons_succ])
        have HSY2 := Lib.hid (bchain HSY1.out hb)
        clear hb
        rw [HLS.out]
        iterate 3 (refine wpMix_e rfl rfl (fun K hK => ?_); go_simp; refine hK.out _ _ (fun h => absurd h (by decide)) ?_; clear hK K; (try simp only [Act.put, List.setIfInBounds_toArray, List.set_cons_zero, List.set_cons_succ]))
        refine wpMix_nil ?_
        refine NoPanic.normal ?_
        have hcY := ((bchain HB.out HSY2.out).cell hb).trans HCK.out
        generalize fndB (Ws.take i) l = fd at HF ⊢
        cases fd
        · have HF2 : Hid (fndB (Ws.take (i + 1)) l = sameB x l) := by rw [Hid, HF.out]; rfl
          go_wp2_with fail
          refine (rsame_b _ _ x l _ (hx.out.below (bchain HB.out HSY2.out)) (HU.out.below (bchain HBR.out HSY2.out))).mono ?_
          rintro e Y9 ⟨rfl, hb9⟩
          have HB9 := Lib.hid (bchain (bchain HB.out HSY2.out) hb9)
          clear hb9
          go_wp2_with fail
          go_roundw
          case rel => exact ⟨i + 1, by omega, by rw [HF2.out], by go_num, HB9.out⟩
          case measure => simp [intOf]; omega
        · have HF2 : Hid (fndB (Ws.take (i + 1)) l = true) := by rw [Hid, HF.out]; rfl
          go_wp2_with fail
          go_roundw
          case rel => exact ⟨i + 1, by omega, by rw [HF2.out], by go_num, bchain HB.out HSY2.out⟩
          case measure => simp [intOf]; omega
      · have hi2 : i = 0 := by omega
        have hd0 : decide (0 < (i : Int)) = false := by simp; omega
        have HS : Hid (∀ w' : World, Below wr.heap.size wr w' → (w'.cell? ⟨w.heap.size, 0, none⟩ = some (.int .i64 S) ∧ w'.cell? ⟨w.heap.size, 1, none⟩ = some (.slice A1 n1 c1) ∧ w'.cell? ⟨w.heap.size, 2, none⟩ = some (.slice A2 n2 c2)) ∧ w'.cell? ⟨b, off + i, none⟩ = some (.slice B m cm)) := by
          intro w' h
          have hWw := bchain HB.out h
          obtain ⟨f0, f1, f2, _⟩ := (HNB3.out.below hWw).facts
          exact ⟨⟨f0, f1, f2⟩, (hWw.cell hb).trans hck⟩
        clear hck hx1 hx2 hx3 hi2
        refine wp_region_mix 29 [0, 1, 2, 3, 4, 5, 6, 7, 8, 9, 10, 11, 12, 13, 14, 15, 16, 17, 18, 19, 20, 21, 22, 23, 24, 25, 26, 27, 28] [] [(true, 0), (true, 1), (true, 2), (true, 3), (true, 4), (true, 5), (true, 6), (true, 7), (true, 8), (true, 9), (true, 10), (true, 11), (true, 12), (false, 13), (true, 14), (true, 15), (true, 16), (true, 17), (true, 18), (true, 19), (true, 20), (true, 21), (true, 22), (true, 23), (true, 24), (true, 25), (true, 26), (true, 27), (true, 28), (false, 29), (false, 30), (false, 31), (false, 32)] (fun w' => Below wr.heap.size wr w') (by kernel_rfl) (by kernel_rfl) ?_
        rintro D hD
        have HSD : Hid (Below wr.heap.size wr D) := by rw [hD]; exact (Below.refl _ _).drew
        clear hD
        refine ⟨HSD.out, ?_⟩
        iterate 13 (refine wpMix_q (v := ?_) rfl rfl (fun w' hS => ?_) ?_; rotate_left; (focus ((try obtain ⟨⟨s0, s1, s2⟩, sx⟩ := HS.out _ (hS rfl)); clear hS; go_simp; try with_reducible rfl; done)); (try simp only [Act.put, List.setIfInBounds_toArray, List.set_cons_zero, List.set_cons_succ]))
        refine wpMix_e rfl rfl (fun K hK => ?_)
        go_simp
        refine (accepts_any _ _ N S x _ (HV.out.below (bchain HBR.out HSD.out)) (hx.out.below (bchain HB.out HSD.out)) hG hS).mono ?_
        rintro e Y1 ⟨rfl, hb⟩
        refine hK.out _ _ (fun _ => bchain HSD.out hb) ?_
        clear hK K
        (try simp only [Act.put, List.setIfInBounds_toArray, List.set_cons_zero, List.set_cons_succ])
        have HSY1 := Lib.hid (bchain HSD.out hb)
        have HXY1 := Lib.hid hb
        clear hb
        rw [HAC.out]
        iterate 6 (refine wpMix_q (v := ?_) rfl rfl (fun w' hS => ?_) ?_; rotate_left; (focus ((try obtain ⟨⟨s0, s1, s2⟩, sx⟩ := HS.out _ (hS rfl)); clear hS; go_simp; try with_reducible rfl; done)); (try simp only [Act.put, List.setIfInBounds_toArray, List.set_cons_zero, List.set_cons_succ]))
        iterate 9 (refine wpMix_qskip rfl rfl ?_; (try simp only [Act.put, List.setIfInBounds_toArray, List.set_cons_zero, List.set_cons_succ]))
        iterate 2 (refine wpMix_eskip rfl rfl (HSY1).out ?_; (try simp only [Act.put, List.setIfInBounds_toArray, List.set_cons_zero, List.set_cons_succ]))
        iterate 2 (refine wpMix_e rfl rfl (fun K hK => ?_); go_simp; refine hK.out _ _ (fun h => absurd h (by decide)) ?_; clear hK K; (try simp only [Act.put, List.setIfInBounds_toArray, List.set_cons_zero, List.set_cons_succ]))
        refine wpMix_nil ?_
        refine NoPanic.normal ?_
        have hcY := ((bchain HB.out HSY1.out).cell hb).trans HCK.out
        generalize fndB (Ws.take i) l = fd at HF ⊢
        cases fd
        · have HF2 : Hid (fndB (Ws.take (i + 1)) l = sameB x l) := by rw [Hid, HF.out]; rfl
          go_wp2_with fail
          refine (rsame_b _ _ x l _ (hx.out.below (bchain HB.out HSY1.out)) (HU.out.below (bchain HBR.out HSY1.out))).mono ?_
          rintro e Y9 ⟨rfl, hb9⟩
          have HB9 := Lib.hid (bchain (bchain HB.out HSY1.out) hb9)
          clear hb9
          go_wp2_with fail
          go_roundw
          case rel => exact ⟨i + 1, by omega, by rw [HF2.out], by go_num, HB9.out⟩
          case measure => simp [intOf]; omega
        · have HF2 : Hid (fndB (Ws.take (i + 1)) l = true) := by rw [Hid, HF.out]; rfl
          go_wp2_with fail
          go_roundw
          case rel => exact ⟨i + 1, by omega, by rw [HF2.out], by go_num, bchain HB.out HSY1.out⟩
          case measure => simp [intOf]; omega
    · obtain rfl : nw = i := by omega
      obtain ⟨p0, p1, p2, hpl⟩ := (HNB3.out.below HB.out).facts
      have hft : fndB (Ws.take nw) l = fndB Ws l := by rw [List.take_of_length_le (by rw [HLW.out]; omega)]
      rw [hft]
      clear hft
      have HFD := HFND
      generalize fndB Ws l = fd at HFD ⊢
      by_cases h4 : len ≤ 4
      · by_cases hn : (n3 : Int) ≤ len
        · have hfd : fd = accF N l := by have := HFD.out; rw [decide_eq_true h4, decide_eq_true hn] at this; simpa using this
          have hd4 : decide (len ≤ 4) = true := by simpa using h4
          have hdn : decide ((n3 : Int) ≤ len) = true := by simpa using hn
          clear HFD
          subst hfd
          go_wp2_with fail
          refine (accepts_any _ _ N S l _ (HV.out.below HBR.out) (HU.out.below HBR.out) hG hS).mono ?_
          rintro e wA ⟨rfl, hb⟩
          have HBA := Lib.hid (bchain HBR.out hb)
          clear hb p0 p1 p2 hpl
          generalize accF N l = ac
          cases ac
          · skip
            go_wp2_with fail
            refine (awake_any _).mono ?_
            rintro e wz ⟨rfl, hbz⟩
            have HBZ := Lib.hid (bchain (HBA).out hbz)
            clear hbz
            go_wp2_with fail
            go_ret
            exact ⟨rfl, HBZ.out⟩
          · skip
            go_wp2_with fail
            refine (awake_any _).mono ?_
            rintro e wz ⟨rfl, hbz⟩
            have HBZ := Lib.hid (bchain (HBA).out hbz)
            clear hbz
            go_wp2_with fail
            go_ret
            exact ⟨rfl, HBZ.out⟩
        · have hfd : fd = false := by have := HFD.out; rw [decide_eq_false hn] at this; simpa using this
          have hd4 : decide (len ≤ 4) = true := by simpa using h4
          have hdn : decide ((n3 : Int) ≤ len) = false := by simpa using hn
          clear HFD
          subst hfd
          go_wp2_with fail
          refine (awake_any _).mono ?_
          rintro e wz ⟨rfl, hbz⟩
          have HBZ := Lib.hid (bchain (HBR).out hbz)
          clear hbz
          go_wp2_with fail
          go_ret
          exact ⟨rfl, HBZ.out⟩
      · have hfd : fd = false := by have := HFD.out; rw [decide_eq_false h4] at this; simpa using this
        have hd4 : decide (len ≤ 4) = false := by simpa using h4
        clear HFD
        subst hfd
        go_wp2_with fail
        refine (awake_any _).mono ?_
        rintro e wz ⟨rfl, hbz⟩
        have HBZ := Lib.hid (bchain (HBR).out hbz)
        clear hbz
        go_wp2_with fail
        go_ret
        exact ⟨rfl, HBZ.out⟩
end Go.Proofs.Ytcmfgblfgldonaa
