/-
  FstListed: the walk.
-/
import Derived.Test.YtmejihlplbeekaaSW1
import Derived.Test.YtmejihlplbeekaaG9
namespace Go.Proofs.Ytmejihlplbeekaa
open Go.ChangeShapes Go.WideShapes Go.ChangeAt Go.RowKit
def fndB (W : List (List Int)) (l : List Int) : Bool := W.any fun x => sameB x l
theorem fndB_snoc (W : List (List Int)) (l x : List Int) : fndB (W ++ [x]) l = (fndB W l || sameB x l) := by simp [fndB]
theorem fndB_iff (W : List (List Int)) (l : List Int) : fndB W l = true ↔ l ∈ W := by
  rw [fndB, List.any_eq_true]
  constructor
  · rintro ⟨x, hx, h⟩; rw [sameB_iff] at h; exact h ▸ hx
  · intro h; exact ⟨l, h, (sameB_iff l l).2 rfl⟩
theorem take_of_dropL {α : Type} {l : List α} {k : Nat} {x : α} {r : List α} (h : l.drop k = x :: r) : l.take (k + 1) = l.take k ++ [x] := by
  have hk : k < l.length := by
    rcases Nat.lt_or_ge k l.length with h1 | h1
    · exact h1
    · rw [List.drop_of_length_le h1] at h; cases h
  rw [List.drop_eq_getElem_cons hk] at h
  rw [List.take_succ_eq_append_getElem hk, (List.cons.inj h).1]
theorem out_syms {L : List PArc} {s t : Int} {xs ys : List Int} (h : Path L s t xs ys) : ∀ y, y ∈ ys → y ∈ symsX L := by
  refine Path.induct (P := fun _ _ ys => ∀ y, y ∈ ys → y ∈ symsX L) (fun y hy => by cases hy) ?_ h
  intro a ha xs ys _ ih y hy
  rcases List.mem_append.1 hy with h1 | h1
  · unfold sym at h1
    split at h1
    · cases h1
    · rename_i h0
      have e : y = a.out := by simpa using h1
      rw [e]
      exact mem_symsX.2 ⟨h0, a, ha, rfl⟩
  · exact ih y h1
theorem accS_start {F : PFst} {xs w : List Int} : AccS F xs startS w ↔ ∃ t, t ∈ F.final ∧ Path F.arcs 0 t xs w := by
  constructor
  · rintro ⟨c, hc, t, ht, hp⟩
    have e : c = ⟨0, 0⟩ := by simpa [startS] using hc
    subst e
    exact ⟨t, ht, hp⟩
  · rintro ⟨t, ht, hp⟩
    exact ⟨⟨0, 0⟩, by simp [startS], t, ht, hp⟩
theorem out_no {F : PFst} {xs : List Int} {n m : Int} (h : (outF F xs n m).2 = false) : (outF F xs n m).1 = [] := by
  unfold outF at h ⊢
  split at h
  · rw [if_pos (by assumption)]
  · rw [if_neg (by assumption)]
    split at h
    · cases h
    · rw [if_neg (by assumption)]
      split at h
      · cases h
      · rw [if_neg (by assumption)]
theorem out_len {F : PFst} {xs : List Int} {n m : Int} : (outF F xs n m).1.length ≤ m.toNat := by
  unfold outF
  split
  · simp
  · split
    · simp
    · split
      · assumption
      · simp
theorem out_mem {F : PFst} (hF : Good F) {xs : List Int} {k : Nat} {m : Int} (h : (outF F xs k m).2 = true) (x : List Int) : x ∈ (outF F xs k m).1 ↔ accB F xs x = true ∧ x.length ≤ k := by
  unfold outF at h ⊢
  split at h
  · cases h
  · rw [if_neg (by assumption)]
    split at h
    · rename_i hp
      rw [if_pos hp, accB_no F xs x (.inl hp)]
      simp
    · rename_i hp
      rw [if_neg hp]
      split at h
      · rename_i hl
        rw [if_pos hl]
        simp only [allW, Int.toNat_natCast]
        rw [mem_enumW, accS_start, accB_iff]
        unfold Acc
        constructor
        · rintro ⟨⟨t, ht, hpa⟩, h2, h3⟩
          refine ⟨⟨by simpa using hp, ?_, t, ht, hpa⟩, h2⟩
          unfold plainB
          rw [List.all_eq_true]
          intro y hy
          obtain ⟨h4, a, ha, rfl⟩ := mem_symsX.1 (h3 y hy)
          have := (hF.arc a ha).2.2.2.1
          simp; omega
        · rintro ⟨⟨_, _, t, ht, hpa⟩, h2⟩
          exact ⟨⟨t, ht, hpa⟩, h2, out_syms hpa⟩
      · cases h
set_option maxHeartbeats 4000000 in
set_option maxRecDepth 100000 in
theorem listed_walk (v vx vy : Value) (F : PFst) (xs ys : List Int) (w : World) (hv : RdF w v F) (hx : RdI w vx xs) (hy : RdI w vy ys) :
    Calls Try.prog 10 #[v, vx, vy] w fun e w' => e = .returned (.bool true) ∧ Below w.heap.size w w' := by
  have HV := Lib.hid hv
  obtain ⟨va, vf, rfl, ha, hf⟩ := hv
  obtain ⟨A1, n1, c1, rfl, _, _, HN1, _⟩ := ha.op
  obtain ⟨A2, n2, c2, rfl, _, _, HN2, _⟩ := hf.op
  clear ha hf
  obtain ⟨Ax, nx, cx, rfl, _, _, HNX, _⟩ := hx.op
  obtain ⟨Ay, ny, cy, rfl, _, _, HNY, _⟩ := hy.op
  have HX := Lib.hid hx
  have HY := Lib.hid hy
  clear hx hy
  go_enter Try.func10, Try.ntmps10
  go_wp2_with fail
  generalize hW : World.alloc w _ = W
  have HBW : Hid (Below w.heap.size w W) := by rw [← hW]; repeat (first | assumption | exact Below.refl _ _ | refine Below.alloc ?_ (by first | omega | (simp; done) | (simp; omega)) _ | refine Below.drew ?_ | refine below_drewN ?_ _ | refine Below.setCell ?_ (by first | omega | (simp; done) | (simp; omega)) _)
  have HP : Hid (FBlk W w.heap.size (.int .i64 F.states) (.slice A1 n1 c1) (.slice A2 n2 c2)) := by rw [← hW]; exact heap_alloc_new w _
  clear hW
  refine (light_any _ F _ (HV.out.below HBW.out)).mono ?_
  rintro e w1 ⟨rfl, hb⟩
  have HB1 : Hid (Below w.heap.size w w1) := bchain HBW.out hb
  have HP1 := Lib.hid (HP.out.below hb)
  clear hb HP HBW
  cases hl : lightB F
  · skip
    go_wp2_with fail
    refine (awake_any _).mono ?_
    rintro e wz ⟨rfl, hbz⟩
    have HBZ : Hid (Below w.heap.size w wz) := bchain (HB1.out) hbz
    clear hbz
    go_wp2_with fail
    go_ret
    exact ⟨rfl, HBZ.out⟩
  have HL := Lib.hid (lgt_of hl)
  clear hl
  by_cases h1 : 8 < nx
  · have d1 : decide (8 < nx) = true := by simpa using h1
    have d2 : decide ((8 : Int) < (nx : Int)) = true := by simp; omega
    clear h1
    go_wp2_with fail
    refine (awake_any _).mono ?_
    rintro e wz ⟨rfl, hbz⟩
    have HBZ : Hid (Below w.heap.size w wz) := bchain (HB1.out) hbz
    clear hbz
    go_wp2_with fail
    go_ret
    exact ⟨rfl, HBZ.out⟩
  have d1 : decide (8 < nx) = false := by simpa using h1
  have d2 : decide ((8 : Int) < (nx : Int)) = false := by simp; omega
  have hxl : xs.length ≤ 1000 := by rw [HNX.out]; omega
  clear h1
  go_wp2_with fail
  refine (short_any _ _ [] ys _ (rdI_nil _) (HY.out.below HB1.out)).mono ?_
  rintro e w2 ⟨rfl, rfl⟩
  cases hs : (decide (([] : List Int).length ≤ 24) && decide (ys.length ≤ 24))
  · skip
    go_wp2_with fail
    refine (awake_any _).mono ?_
    rintro e wz ⟨rfl, hbz⟩
    have HBZ : Hid (Below w.heap.size w wz) := bchain (HB1.out) hbz
    clear hbz
    go_wp2_with fail
    go_ret
    exact ⟨rfl, HBZ.out⟩
  simp only [Bool.and_eq_true, decide_eq_true_eq] at hs
  have hy24 : ys.length ≤ 24 := hs.2
  have hyl : ys.length ≤ 1000 := by omega
  clear hs d1 d2
  obtain ⟨p0, p1, p2, _, _, _⟩ := HP1.out.facts
  have hpl := HP1.out.lt
  go_wp2_with fail
  clear p0 p1 p2 hpl
  refine (foutputs_any _ _ F xs (ny : Int) 300 _ (HV.out.below HB1.out) (HX.out.below HB1.out) HL.out.fin hxl (by decide)).mono ?_
  rintro e W ⟨⟨vl, rfl, hl1⟩, hb⟩
  obtain ⟨AW, nw, cw, rfl, hnw, hcw, HLW, HRW⟩ := hl1.op
  have HB3 := Lib.hid (bchain HB1.out hb)
  have HP3 := Lib.hid (HP1.out.below hb)
  clear hb hl1
  have HOM : Hid ((outF F xs ny 300).2 = true → ∀ x, x ∈ (outF F xs ny 300).1 ↔ accB F xs x = true ∧ x.length ≤ ny) := fun h => out_mem HL.out.good h
  have HON : Hid ((outF F xs ny 300).2 = false → (outF F xs ny 300).1 = []) := out_no
  have hwl : nw ≤ 300 := by rw [← HLW.out]; exact out_len (m := 300)
  generalize outF F xs ny 300 = o at HLW HRW HOM HON ⊢
  obtain ⟨Ws, ok⟩ := o
  simp only at HLW HRW HOM HON
  cases ok
  · have hn0 : nw = 0 := by rw [← HLW.out, HON.out rfl]; rfl
    subst hn0
    go_wp2_with fail
    refine (awake_any _).mono ?_
    rintro e wz ⟨rfl, hbz⟩
    have HBZ : Hid (Below w.heap.size w wz) := bchain (HB3.out) hbz
    clear hbz
    go_wp2_with fail
    go_ret
    exact ⟨rfl, HBZ.out⟩
  have HMEM : Hid (∀ x, x ∈ Ws ↔ accB F xs x = true ∧ x.length ≤ ny) := HOM.out rfl
  clear HOM HON
  have HFND : Hid (fndB Ws ys = accB F xs ys) := by
    rw [Hid, Bool.eq_iff_iff, fndB_iff, HMEM.out]
    exact ⟨fun h => h.1, fun h => ⟨h, by rw [HNY.out]; exact Nat.le_refl _⟩⟩
  go_wp2_with fail
  go_loopw [9, 10] (fun f c wr => ∃ i : Nat, i ≤ nw ∧ f = .bool (fndB (Ws.take i) ys) ∧ c = .int .i64 (i : Int) ∧ Hid (Below W.heap.size W wr)) (fun _ c _ => nw - (intOf c).toNat)
  case atStart => exact ⟨0, Nat.zero_le _, rfl, rfl, Below.refl _ _⟩
  case round =>
    obtain ⟨i, hi, rfl, rfl, HB⟩ := hrel
    have HBR := Lib.hid (bchain HB3.out HB.out)
    by_cases hlt : i < nw
    · obtain ⟨b, off, B, m, cm, x, rfl, hb, hd, hck, hx⟩ := HRW.out i hlt
      have HTK := Lib.hid (take_of_dropL hd.out)
      have hmx : x ∈ Ws := List.mem_of_mem_drop (by rw [hd.out]; exact List.mem_cons_self)
      obtain ⟨hx1, hx2⟩ := (HMEM.out x).1 hmx
      obtain ⟨_, _, _, he, hmc, _, HLX, _⟩ := hx.out.op
      cases he
      have hlx : decide ((ny : Int) < (m : Int)) = false := by rw [HLX.out] at hx2; simp; omega
      have hlx2 : decide (ny < m) = false := by rw [HLX.out] at hx2; simp; omega
      have hxL : x.length ≤ 1000 := by rw [HNY.out] at hy24; omega
      have HAC := Lib.hid hx1
      have HCK := Lib.hid hck
      have HF : Hid (fndB (Ws.take (i + 1)) ys = (fndB (Ws.take i) ys || sameB x ys)) := by rw [Hid, HTK.out]; exact fndB_snoc _ _ _
      have hi0 : (0 : Int) ≤ (i : Int) := by omega
      have hw0 : w.heap.size ≤ W.heap.size := HB3.out.size
      go_wp2_with fail
      have HS : Hid (∀ w' : World, Below wr.heap.size wr w' → (w'.cell? ⟨w.heap.size, 0, none⟩ = some (.int .i64 F.states) ∧ w'.cell? ⟨w.heap.size, 1, none⟩ = some (.slice A1 n1 c1) ∧ w'.cell? ⟨w.heap.size, 2, none⟩ = some (.slice A2 n2 c2)) ∧ w'.cell? ⟨b, off + i, none⟩ = some (.slice B m cm)) := by
        intro w' h
        have hWw := bchain HB.out h
        obtain ⟨f0, f1, f2, _⟩ := (HP3.out.below hWw).facts
        exact ⟨⟨f0, f1, f2⟩, (hWw.cell hb).trans hck⟩
      clear hck hx1 hx2
      refine wp_region_mix 15 [0, 1, 2, 3, 4, 5, 6, 7, 8, 9, 10, 11, 12, 13, 14] [] [(true, 0), (true, 1), (true, 2), (true, 3), (true, 4), (true, 5), (true, 6), (true, 7), (true, 8), (true, 9), (true, 10), (true, 11), (true, 12), (true, 13), (true, 14), (false, 15), (false, 16), (false, 17)] (fun w' => Below wr.heap.size wr w') (by kernel_rfl) (by kernel_rfl) ?_
      rintro D hD
      have HSD : Hid (Below wr.heap.size wr D) := by rw [hD]; exact (Below.refl _ _).drew
      clear hD
      refine ⟨HSD.out, ?_⟩
      iterate 15 (refine wpMix_q (v := ?_) rfl rfl (fun w' hS => ?_) ?_; rotate_left; (focus ((try obtain ⟨⟨s0, s1, s2⟩, sx⟩ := HS.out _ (hS rfl)); clear hS; go_simp; try with_reducible rfl; done)); (try simp only [Act.put, List.setIfInBounds_toArray, List.set_cons_zero, List.set_cons_succ]))
      refine wpMix_e rfl rfl (fun K hK => ?_)
      go_simp
      refine (faccepts_any _ _ _ F xs x _ (HV.out.below (bchain HBR.out HSD.out)) (HX.out.below (bchain HBR.out HSD.out)) (hx.out.below (bchain HB.out HSD.out)) HL.out.fin.right HL.out.fin.ord HL.out.fin.st HL.out.fin.al (lgt_fl HL.out) hxl hxL).mono ?_
      rintro e Y1 ⟨rfl, hb⟩
      refine hK.out _ _ (fun h => absurd h (by decide)) ?_
      clear hK K
      (try dsimp only); (try simp only [Act.put]); (try simp only [List.setIfInBounds_toArray, List.set_cons_zero, List.set_cons_succ])
      have HSY1 := Lib.hid (bchain HSD.out hb)
      clear hb
      rw [HAC.out]
      iterate 2 (refine wpMix_e rfl rfl (fun K hK => ?_); go_simp; refine hK.out _ _ (fun h => absurd h (by decide)) ?_; clear hK K; (try simp only [Act.put, List.setIfInBounds_toArray, List.set_cons_zero, List.set_cons_succ]))
      refine wpMix_nil ?_
      refine NoPanic.normal ?_
      have hcY := ((bchain HB.out HSY1.out).cell hb).trans HCK.out
      generalize fndB (Ws.take i) ys = fd at HF ⊢
      cases fd
      · have HF2 : Hid (fndB (Ws.take (i + 1)) ys = sameB x ys) := by rw [Hid, HF.out]; rfl
        go_wp2_with fail
        refine (rsameb_any _ _ x ys _ (hx.out.below (bchain HB.out HSY1.out)) (HY.out.below (bchain HBR.out HSY1.out))).mono ?_
        rintro e Y9 ⟨rfl, hb9⟩
        have HB9 := Lib.hid (bchain (bchain HB.out HSY1.out) hb9)
        clear hb9
        go_wp2_with fail
        go_roundw
        case rel => exact ⟨i + 1, by omega, by rw [HF2.out], by go_num, HB9.out⟩
        case measure => simp [intOf]; omega
      · have HF2 : Hid (fndB (Ws.take (i + 1)) ys = true) := by rw [Hid, HF.out]; rfl
        go_wp2_with fail
        go_roundw
        case rel => exact ⟨i + 1, by omega, by rw [HF2.out], by go_num, bchain HB.out HSY1.out⟩
        case measure => simp [intOf]; omega
    · obtain rfl : nw = i := by omega
      obtain ⟨p0, p1, p2, _, _, _⟩ := (HP3.out.below HB.out).facts
      have hpl := (HP3.out.below HB.out).lt
      have hft : fndB (Ws.take nw) ys = accB F xs ys := by rw [List.take_of_length_le (by rw [HLW.out]; exact Nat.le_refl _), HFND.out]
      rw [hft]
      clear hft
      go_wp2_with fail
      refine (faccepts_any _ _ _ F xs ys _ (HV.out.below HBR.out) (HX.out.below HBR.out) (HY.out.below HBR.out) HL.out.fin.right HL.out.fin.ord HL.out.fin.st HL.out.fin.al (lgt_fl HL.out) hxl hyl).mono ?_
      rintro e wA ⟨rfl, hb⟩
      have HBA := Lib.hid (bchain HBR.out hb)
      clear hb p0 p1 p2 hpl
      generalize accB F xs ys = ac
      cases ac
      · skip
        go_wp2_with fail
        refine (awake_any _).mono ?_
        rintro e wz ⟨rfl, hbz⟩
        have HBZ : Hid (Below w.heap.size w wz) := bchain (HBA.out) hbz
        clear hbz
        go_wp2_with fail
        go_ret
        exact ⟨rfl, HBZ.out⟩
      · skip
        go_wp2_with fail
        refine (awake_any _).mono ?_
        rintro e wz ⟨rfl, hbz⟩
        have HBZ : Hid (Below w.heap.size w wz) := bchain (HBA.out) hbz
        clear hbz
        go_wp2_with fail
        go_ret
        exact ⟨rfl, HBZ.out⟩
end Go.Proofs.Ytmejihlplbeekaa
