/-
  langdoctop: TopGenerates.
-/
import Derived.Test.YtiopgbbggeimaaaGreatKA2
namespace Go.Proofs.YtiopgbbggeimaaaGreat
open Go.ChangeShapes Go.WideShapes Go.ChangeAt Go.RowKit
def OrBlk (w : World) (B : Nat) (s : ByteArray) (u l : Sl) : Prop := w.heap[B]? = some (.cells #[.string s, .slice u.A u.n u.c, .slice l.A l.n l.c] 28 (0, 0))
theorem OrBlk.lt {w : World} {B : Nat} {s : ByteArray} {u l : Sl} (h : OrBlk w B s u l) : B < w.heap.size := (Array.getElem?_eq_some_iff.1 h).1
theorem OrBlk.facts {w : World} {B : Nat} {s : ByteArray} {u l : Sl} (h : OrBlk w B s u l) : w.cell? ⟨B, 0, none⟩ = some (.string s) ∧ w.cell? ⟨B, 1, none⟩ = some (.slice u.A u.n u.c) ∧ w.cell? ⟨B, 2, none⟩ = some (.slice l.A l.n l.c) ∧ B < w.heap.size := by
  refine ⟨?_, ?_, ?_, h.lt⟩ <;> rw [cell_of_row w B _ _ _ (0, 0) h] <;> rfl
/-- what the statement reads, and its boxes -/
structure Tp (w0 : World) (g : GV) (G : PLang) (A : Option Addr) (n c : Nat) (a : List PPt) (o : PO) (u l : Sl) (gb ab ob : Nat) (w : World) : Prop where
  fb : Below w0.heap.size w0 w
  fg : DpG w g G
  fa : RdPt w (.slice A n c) a
  fu : RdU w (.slice u.A u.n u.c) o.units
  fl : RdSS w (.slice l.A l.n l.c) o.letters
  fq : LgBlk w gb g
  fp : AnBlk w ab (.slice A n c)
  fo : OrBlk w ob o.name u l
section
variable {w0 : World} {g : GV} {G : PLang} {A : Option Addr} {n c : Nat} {a : List PPt} {o : PO} {u l : Sl} {gb ab ob : Nat} {w w' : World}
theorem Tp.below (h : Tp w0 g G A n c a o u l gb ab ob w) (hb : Below w.heap.size w w') : Tp w0 g G A n c a o u l gb ab ob w' :=
  ⟨bchain h.fb hb, h.fg.below hb, h.fa.below hb, h.fu.below hb, h.fl.below hb, h.fq.below hb, h.fp.below hb, (hb.block ob h.fo.lt).trans h.fo⟩
theorem Tp.ro (h : Tp w0 g G A n c a o u l gb ab ob w) : RdO w (.agg #[.string o.name, .slice u.A u.n u.c, .slice l.A l.n l.c]) o := ⟨_, _, rfl, h.fu, h.fl⟩
end
theorem hno {P : Prop} : Hid (true = false → P) := fun h => by cases h
theorem hyes {P : Prop} (h : P) : Hid (false = false → P) := fun _ => h
set_option maxHeartbeats 64000000 in
set_option maxRecDepth 100000 in
theorem top_any (w : World) (g : GV) (G : PLang) (A : Option Addr) (n c : Nat) (a : List PPt) (o : PO) (u l : Sl) (hg : DpG w g G) (ha : RdPt w (.slice A n c) a) (hu : RdU w (.slice u.A u.n u.c) o.units) (hll : RdSS w (.slice l.A l.n l.c) o.letters) (hsg : SmG G) (hso : SmO o) :
    Calls Tryz.prog 3 #[.agg #[.slice g.i.A g.i.n g.i.c, .string g.on, .slice g.u.A g.u.n g.u.c, .slice g.l.A g.l.n g.l.c, .slice g.r.A g.r.n g.r.c, .int .i64 g.q, .slice g.s.A g.s.n g.s.c, .slice g.f.A g.f.n g.f.c, .slice g.x.A g.x.n g.x.c], .agg #[.slice A n c], .agg #[.string o.name, .slice u.A u.n u.c, .slice l.A l.n l.c]] w fun e w' => e = .returned (.bool true) ∧ Below w.heap.size w w' := by
  have HSG := Lib.hid hsg
  have HSO := Lib.hid hso
  have HG := Lib.hid hg
  have HA := Lib.hid ha
  have HU := Lib.hid hu
  have HL := Lib.hid hll
  have HNU : Hid (u.n = o.units.length) := by obtain ⟨us, _, h2, _⟩ := hu; exact rd_len h2
  clear hg ha hu hll hsg hso
  go_enter Tryz.func3, Tryz.ntmps3
  go_upto_region 1 with (fail)
  generalize hW : World.alloc (World.alloc (World.alloc w _) _) _ = W
  obtain ⟨X1, h1⟩ : ∃ X1, w.alloc (.cells #[.slice g.i.A g.i.n g.i.c, .string g.on, .slice g.u.A g.u.n g.u.c, .slice g.l.A g.l.n g.l.c, .slice g.r.A g.r.n g.r.c, .int .i64 g.q, .slice g.s.A g.s.n g.s.c, .slice g.f.A g.f.n g.f.c, .slice g.x.A g.x.n g.x.c] 36) = X1 := ⟨_, rfl⟩
  obtain ⟨X2, h2⟩ : ∃ X2, X1.alloc (.cells #[.slice A n c] 39) = X2 := ⟨_, rfl⟩
  have hs1 : X1.heap.size = w.heap.size + 1 := by rw [← h1]; exact World.size_alloc _ _
  have hs2 : X2.heap.size = w.heap.size + 1 + 1 := by rw [← h2, World.size_alloc, hs1]
  have hb1 : Below w.heap.size w X1 := by rw [← h1]; exact al_below _ _
  have hb2 : Below X1.heap.size X1 X2 := by rw [← h2]; exact al_below _ _
  have hq : LgBlk X1 w.heap.size g := by rw [← h1]; exact heap_alloc_new w _
  have hp : AnBlk X2 (w.heap.size + 1) (.slice A n c) := by rw [← h2, ← hs1]; exact heap_alloc_new X1 _
  rw [h1, h2] at hW
  have hb3 : Below X2.heap.size X2 W := by rw [← hW]; exact al_below _ _
  have ho : OrBlk W (w.heap.size + 1 + 1) o.name u l := by rw [← hW, ← hs2]; exact heap_alloc_new X2 _
  have hbW : Below w.heap.size w W := bchain hb1 (bchain hb2 hb3)
  have HT : Hid (Tp w g G A n c a o u l w.heap.size (w.heap.size + 1) (w.heap.size + 1 + 1) W) := ⟨hbW, HG.out.below hbW, HA.out.below hbW, HU.out.below hbW, HL.out.below hbW, hq.below (bchain hb2 hb3), hp.below hb3, ho⟩
  clear hW h1 h2 hs1 hs2 hb1 hb2 hb3 hq hp ho hbW HG HA HU HL
  generalize w.heap.size + 1 + 1 = ob at HT ⊢
  generalize w.heap.size + 1 = ab at HT ⊢
  generalize w.heap.size = gb at HT ⊢
  obtain ⟨z0, z1, z2, z3, z4, z5, z6, z7, z8, zl⟩ := (HT).out.fq.facts
  have pc := (HT).out.fp.cell
  obtain ⟨o0, o1, o2, ol⟩ := (HT).out.fo.facts
  go_wp2_with fail
  refine (light_any g G W HT.out.fg HSG.out).mono ?_
  rintro e w1 ⟨⟨lb, rfl, hlb⟩, hb⟩
  have HT1 := Lib.hid (HT.out.below hb)
  have HLB := Lib.hid hlb
  clear z0 z1 z2 z3 z4 z5 z6 z7 z8 zl pc o0 o1 o2 ol
  clear hb hlb HT
  obtain ⟨z0, z1, z2, z3, z4, z5, z6, z7, z8, zl⟩ := (HT1).out.fq.facts
  have pc := (HT1).out.fp.cell
  obtain ⟨o0, o1, o2, ol⟩ := (HT1).out.fo.facts
  cases lb
  · skip
    go_wp2_with fail
    refine (alive09_any _).mono ?_
    rintro e wz ⟨rfl, hbz⟩
    have HZ := Lib.hid (bchain (HT1).out.fb hbz)
    clear hbz
    go_wp2_with fail
    go_ret
    exact ⟨rfl, HZ.out⟩
  have HLT : Hid (LightOk G) := HLB.out rfl
  clear HLB
  by_cases hn6 : 6 < n
  · have d1 : decide ((6 : Int) < (n : Int)) = true := by simp; omega
    have d1' : decide (6 < n) = true := by simp; omega
    clear hn6
    go_wp2_with fail
    refine (alive09_any _).mono ?_
    rintro e wz ⟨rfl, hbz⟩
    have HZ := Lib.hid (bchain (HT1).out.fb hbz)
    clear hbz
    go_wp2_with fail
    go_ret
    exact ⟨rfl, HZ.out⟩
  have d1 : decide ((6 : Int) < (n : Int)) = false := by simp; omega
  have d1' : decide (6 < n) = false := by simp; omega
  clear hn6
  go_wp2_with fail
  clear d1 d1'
  refine (sform_any g G _ a _ HT1.out.fg HT1.out.fa HLT.out).mono ?_
  rintro e w2 ⟨⟨Af, nf, cf, rfl, hf⟩, hb⟩
  have HT2 := Lib.hid (HT1.out.below hb)
  have HF2 := Lib.hid hf
  clear z0 z1 z2 z3 z4 z5 z6 z7 z8 zl pc o0 o1 o2 ol
  clear hb hf HT1
  obtain ⟨z0, z1, z2, z3, z4, z5, z6, z7, z8, zl⟩ := (HT2).out.fq.facts
  have pc := (HT2).out.fp.cell
  obtain ⟨o0, o1, o2, ol⟩ := (HT2).out.fo.facts
  obtain ⟨fe, hfe⟩ : ∃ fe, (formF G a).2 = fe := ⟨_, rfl⟩
  rw [hfe]
  by_cases hfe0 : fe = 0
  rotate_left
  · have d1 : (fe != 0) = true := by simp [hfe0]
    clear hfe hfe0 HF2
    go_upto_region 4 with (fail)
    go_wp2_with fail
    refine (alive09_any _).mono ?_
    rintro e wz ⟨rfl, hbz⟩
    have HZ := Lib.hid (bchain (HT2).out.fb hbz)
    clear hbz
    go_wp2_with fail
    go_ret
    exact ⟨rfl, HZ.out⟩
  subst hfe0
  have HFR := Lib.hid (form_right HLT.out hfe)
  have HFE := Lib.hid hfe
  clear hfe
  obtain ⟨wd, hwd⟩ : ∃ wd, (formF G a).1 = wd := ⟨_, rfl⟩
  have HWD := Lib.hid hwd
  rw [hwd] at HFR HF2
  have HWL : Hid (wd.length ≤ 24) := (wordC_ok.1 HFR.out.2.2.2).2.1
  have HSPC : Hid (spelledF G a = ((spellF G.ort.units wd).1, (spellF G.ort.units wd).2.2)) := by rw [Hid, spelledF, HFE.out, if_neg (by simp), hwd]
  clear hwd
  go_upto_region 4 with (fail)
  go_wp2_with fail
  refine (exact_any _ _ G.ort wd _ HT2.out.fg.ort HSG.out.ort HLT.out.units.1 HF2.out (Nat.le_trans HWL.out (by decide))).mono ?_
  rintro e w3 ⟨rfl, hb⟩
  have HT3 := Lib.hid (HT2.out.below hb)
  have HF3 := Lib.hid (HF2.out.below hb)
  clear z0 z1 z2 z3 z4 z5 z6 z7 z8 zl pc o0 o1 o2 ol
  clear hb HT2 HF2
  obtain ⟨z0, z1, z2, z3, z4, z5, z6, z7, z8, zl⟩ := (HT3).out.fq.facts
  have pc := (HT3).out.fp.cell
  obtain ⟨o0, o1, o2, ol⟩ := (HT3).out.fo.facts
  cases hex : exactF G.ort.units wd
  · skip
    go_wp2_with fail
    refine (alive09_any _).mono ?_
    rintro e wz ⟨rfl, hbz⟩
    have HZ := Lib.hid (bchain (HT3).out.fb hbz)
    clear hbz
    go_wp2_with fail
    go_ret
    exact ⟨rfl, HZ.out⟩
  have HEX := Lib.hid (exact_ok hex)
  clear hex
  obtain ⟨⟨s, sn, se⟩, hsp⟩ : ∃ r, spellF G.ort.units wd = r := ⟨_, rfl⟩
  have HSZ : Hid (s.size ≤ 67108864) := by have h := spellF_size G.ort.units wd HSG.out.ort.graph; rw [hsp] at h; exact h
  rw [hsp] at HEX HSPC
  have hse : se = 0 := HEX.out.1
  subst hse
  have HRD : Hid ((readF G.ort.units s).2.2 = 0 ∧ (readF G.ort.units s).1 = wd) := HEX.out.2
  have HOF : Hid (ofF G s = allF G wd) := by rw [Hid, ofF, if_neg (by rw [HRD.out.1]; simp), HRD.out.2]
  have HSP := Lib.hid hsp
  clear hsp HEX
  have HLEN : Hid ((formF G a).1.length ≤ 1000000) := by rw [Hid, HWD.out]; exact Nat.le_trans HWL.out (by decide)
  have hcall := spelled_any g G _ a w3 HT3.out.fg HT3.out.fa HLT.out HSG.out.ort HLEN.out
  rw [HSPC.out] at hcall
  have HC := Lib.hid hcall
  clear hcall
  go_wp2_with fail
  refine HC.out.mono ?_
  rintro e w4 ⟨rfl, hb⟩
  have HT4 := Lib.hid (HT3.out.below hb)
  have HF4 := Lib.hid (HF3.out.below hb)
  clear z0 z1 z2 z3 z4 z5 z6 z7 z8 zl pc o0 o1 o2 ol
  clear hb HT3 HF3 HC
  obtain ⟨z0, z1, z2, z3, z4, z5, z6, z7, z8, zl⟩ := (HT4).out.fq.facts
  have pc := (HT4).out.fp.cell
  obtain ⟨o0, o1, o2, ol⟩ := (HT4).out.fo.facts
  have hcall := of_any g G s w4 HT4.out.fg HLT.out HSG.out.ort HSZ.out
  unfold OfQ at hcall
  rw [HOF.out] at hcall
  obtain ⟨⟨Ls, k⟩, hal⟩ : ∃ r, allF G wd = r := ⟨_, rfl⟩
  have HAL := Lib.hid hal
  have HSND : Hid (∀ b ∈ Ls, rightC G b = 0 ∧ formF G b = (wd, 0)) := by have h := all_sound HLT.out (w := wd); rw [hal] at h; exact h
  have HWH : Hid ((k = 0 ∧ a ∈ Ls) ∨ (Ls = [] ∧ k = 11)) := by
    have h := all_whole HLT.out HFE.out
    rw [HWD.out, hal] at h
    rcases h with h | h
    · exact .inl h
    · cases h; exact .inr ⟨rfl, rfl⟩
  rw [hal] at hcall
  have HC := Lib.hid hcall
  clear hcall hal
  go_wp2_with fail
  refine HC.out.mono ?_
  rintro e w5 ⟨⟨A5, n5, c5, rfl, h5⟩, hb⟩
  have HT5 := Lib.hid (HT4.out.below hb)
  have HF5 := Lib.hid (HF4.out.below hb)
  have HL5 := Lib.hid h5
  clear z0 z1 z2 z3 z4 z5 z6 z7 z8 zl pc o0 o1 o2 ol
  clear hb HT4 HF4 HC h5
  obtain ⟨z0, z1, z2, z3, z4, z5, z6, z7, z8, zl⟩ := (HT5).out.fq.facts
  have pc := (HT5).out.fp.cell
  obtain ⟨o0, o1, o2, ol⟩ := (HT5).out.fo.facts
  go_upto_region 8 with (fail)
  go_cut [79] (fun s79 wx => s79 = .bool false ∧ Hid (Below w5.heap.size w5 wx))
  case first =>
    rcases HWH.out with ⟨hk, hm⟩ | ⟨hk, hm⟩
    · subst hk
      have HM := Lib.hid (anyEq_iff.2 hm)
      clear hm
      go_wp2_with fail
      refine (among_any _ _ Ls a w5 HL5.out HT5.out.fa).mono ?_
      rintro e w6 ⟨rfl, hb⟩
      rw [HM.out]
      have HB6 := Lib.hid hb
      clear hb
      go_wp2_with fail
      go_meet
      exact ⟨rfl, HB6.out⟩
    · subst hm
      clear hk
      go_wp2_with fail
      go_meet
      exact ⟨rfl, Below.refl _ _⟩
  case rest =>
    obtain ⟨rfl, HB6⟩ := hcut
    have HT6 := Lib.hid (HT5.out.below HB6.out)
    have HF6 := Lib.hid (HF5.out.below HB6.out)
    have HL6 := Lib.hid (HL5.out.below HB6.out)
    clear z0 z1 z2 z3 z4 z5 z6 z7 z8 zl pc o0 o1 o2 ol
    clear HT5 HF5 HL5
    obtain ⟨_, _, _, he, _, hc63, HN5, _⟩ := HL6.out.op
    cases he
    go_wp2_with fail
    go_loopw [13] (fun v13 wr => ∃ i : Nat, i ≤ n5 ∧ v13 = .int .i64 i ∧ Hid (Below wc.heap.size wc wr)) (fun v13 _ => n5 - (intOf v13).toNat)
    case atStart => exact ⟨0, Nat.zero_le _, rfl, Below.refl _ _⟩
    case round =>
      obtain ⟨i, hi, rfl, HBR⟩ := hrel
      have HTR := Lib.hid (HT6.out.below HBR.out)
      have HLR := Lib.hid (HL6.out.below HBR.out)
      by_cases hlt : i < n5
      · obtain ⟨_, _, _, he, _, _, _, HC5⟩ := HLR.out.op
        cases he
        obtain ⟨b5, off5, B5, m5, cm5, bl, hA5, hb5, hd5, hc5, hr5⟩ := HC5.out i hlt
        subst hA5
        have hmem : bl ∈ Ls := List.mem_of_mem_drop (by rw [hd5.out]; exact List.mem_cons_self)
        have HSB := Lib.hid (HSND.out bl hmem)
        have HSS : Hid (spelledF G bl = (s, 0)) := by rw [Hid, spelledF, HSB.out.2, if_neg (by simp), HSP.out]
        have HLB : Hid ((formF G bl).1.length ≤ 1000000) := by rw [Hid, HSB.out.2]; exact Nat.le_trans HWL.out (by decide)
        have HRB := Lib.hid hr5.out
        have hi0 : (0 : Int) ≤ (i : Int) := by omega
        clear hd5 hr5 HC5 hmem
        go_upto_region 13 with (fail)
        refine wp_region_all 11 (fun w' => Below wr.heap.size wr w') (by kernel_rfl) (by kernel_rfl) ?_
        rintro D hD
        have HSD : Hid (Below wr.heap.size wr D) := by rw [hD]; exact (Below.refl _ _).drew
        clear hD
        have HS : Hid (∀ w' : World, Below wr.heap.size wr w' → (w'.cell? ⟨gb, 0, none⟩ = some (.slice g.i.A g.i.n g.i.c) ∧ w'.cell? ⟨gb, 1, none⟩ = some (.string g.on) ∧ w'.cell? ⟨gb, 2, none⟩ = some (.slice g.u.A g.u.n g.u.c) ∧ w'.cell? ⟨gb, 3, none⟩ = some (.slice g.l.A g.l.n g.l.c) ∧ w'.cell? ⟨gb, 4, none⟩ = some (.slice g.r.A g.r.n g.r.c) ∧
            w'.cell? ⟨gb, 5, none⟩ = some (.int .i64 g.q) ∧ w'.cell? ⟨gb, 6, none⟩ = some (.slice g.s.A g.s.n g.s.c) ∧ w'.cell? ⟨gb, 7, none⟩ = some (.slice g.f.A g.f.n g.f.c) ∧ w'.cell? ⟨gb, 8, none⟩ = some (.slice g.x.A g.x.n g.x.c) ∧ gb < w'.heap.size) ∧ w'.cell? ⟨b5, off5 + i, none⟩ = some (.slice B5 m5 cm5)) :=
          fun w' h => ⟨(HTR.out.fq.below h).facts, (h.cell (p := ⟨b5, off5 + i, none⟩) hb5).trans hc5⟩
        (refine wpS_take 0 (v := ?_) (by kernel_rfl) rfl rfl (by exact HSD.out) (fun w' hS => ?_) ?_; rotate_left; (focus ((try obtain ⟨⟨s0, s1, s2, s3, s4, s5, s6, s7, s8, s9⟩, t0⟩ := HS.out _ hS); clear hS; go_simp; try with_reducible rfl; done)); (try simp only [Act.put, List.setIfInBounds_toArray, List.set_cons_zero, List.set_cons_succ]))
        (refine wpS_take 1 (v := ?_) (by kernel_rfl) rfl rfl (by exact HSD.out) (fun w' hS => ?_) ?_; rotate_left; (focus ((try obtain ⟨⟨s0, s1, s2, s3, s4, s5, s6, s7, s8, s9⟩, t0⟩ := HS.out _ hS); clear hS; go_simp; try with_reducible rfl; done)); (try simp only [Act.put, List.setIfInBounds_toArray, List.set_cons_zero, List.set_cons_succ]))
        (refine wpS_take 2 (v := ?_) (by kernel_rfl) rfl rfl (by exact HSD.out) (fun w' hS => ?_) ?_; rotate_left; (focus ((try obtain ⟨⟨s0, s1, s2, s3, s4, s5, s6, s7, s8, s9⟩, t0⟩ := HS.out _ hS); clear hS; go_simp; try with_reducible rfl; done)); (try simp only [Act.put, List.setIfInBounds_toArray, List.set_cons_zero, List.set_cons_succ]))
        (refine wpS_take 3 (v := ?_) (by kernel_rfl) rfl rfl (by exact HSD.out) (fun w' hS => ?_) ?_; rotate_left; (focus ((try obtain ⟨⟨s0, s1, s2, s3, s4, s5, s6, s7, s8, s9⟩, t0⟩ := HS.out _ hS); clear hS; go_simp; try with_reducible rfl; done)); (try simp only [Act.put, List.setIfInBounds_toArray, List.set_cons_zero, List.set_cons_succ]))
        (refine wpS_take 4 (v := ?_) (by kernel_rfl) rfl rfl (by exact HSD.out) (fun w' hS => ?_) ?_; rotate_left; (focus ((try obtain ⟨⟨s0, s1, s2, s3, s4, s5, s6, s7, s8, s9⟩, t0⟩ := HS.out _ hS); clear hS; go_simp; try with_reducible rfl; done)); (try simp only [Act.put, List.setIfInBounds_toArray, List.set_cons_zero, List.set_cons_succ]))
        (refine wpS_br [5] (by kernel_rfl) ?_; refine AllS.cons rfl rfl (fun K hK => ?_) AllS.nil)
        have hcall := spelled_any g G _ bl D (HTR.out.fg.below HSD.out) (HRB.out.below HSD.out) HLT.out HSG.out.ort HLB.out
        rw [HSS.out] at hcall
        have HC := Lib.hid hcall
        clear hcall
        go_simp
        refine HC.out.mono ?_
        rintro e w8 ⟨rfl, hb⟩
        have HS1 := Lib.hid (bchain HSD.out hb)
        refine hK.out _ _ HS1.out ?_
        clear hK K HC hb
        (refine wpS_take 6 (v := ?_) (by kernel_rfl) rfl rfl (by exact HS1.out) (fun w' hS => ?_) ?_; rotate_left; (focus (clear hS; go_simp; try with_reducible rfl; done)); (try simp only [Act.put, List.setIfInBounds_toArray, List.set_cons_zero, List.set_cons_succ]))
        (refine wpS_take 7 (v := ?_) (by kernel_rfl) rfl rfl (by exact HS1.out) (fun w' hS => ?_) ?_; rotate_left; (focus (clear hS; go_simp; try with_reducible rfl; done)); (try simp only [Act.put, List.setIfInBounds_toArray, List.set_cons_zero, List.set_cons_succ]))
        (refine wpS_take 8 (v := ?_) (by kernel_rfl) rfl rfl (by exact HS1.out) (fun w' hS => ?_) ?_; rotate_left; (focus (clear hS; go_simp; try with_reducible rfl; done)); (try simp only [Act.put, List.setIfInBounds_toArray, List.set_cons_zero, List.set_cons_succ]))
        (refine wpS_take 9 (v := ?_) (by kernel_rfl) rfl rfl (by exact HS1.out) (fun w' hS => ?_) ?_; rotate_left; (focus (clear hS; go_simp; try with_reducible rfl; done)); (try simp only [Act.put, List.setIfInBounds_toArray, List.set_cons_zero, List.set_cons_succ]))
        (refine wpS_take 10 (v := ?_) (by kernel_rfl) rfl rfl (by exact HS1.out) (fun w' hS => ?_) ?_; rotate_left; (focus (clear hS; go_simp; try with_reducible rfl; done)); (try simp only [Act.put, List.setIfInBounds_toArray, List.set_cons_zero, List.set_cons_succ]))
        refine wpS_nil (by kernel_rfl) ?_
        refine NoPanic.normal ?_
        clear HSD HS
        obtain ⟨wd8, hwd8⟩ : ∃ x, x = w8 := ⟨_, rfl⟩
        have HSR : Hid (∀ w' : World, Below w8.heap.size w8 w' → (w'.cell? ⟨gb, 0, none⟩ = some (.slice g.i.A g.i.n g.i.c) ∧ w'.cell? ⟨gb, 1, none⟩ = some (.string g.on) ∧ w'.cell? ⟨gb, 2, none⟩ = some (.slice g.u.A g.u.n g.u.c) ∧ w'.cell? ⟨gb, 3, none⟩ = some (.slice g.l.A g.l.n g.l.c) ∧ w'.cell? ⟨gb, 4, none⟩ = some (.slice g.r.A g.r.n g.r.c) ∧
            w'.cell? ⟨gb, 5, none⟩ = some (.int .i64 g.q) ∧ w'.cell? ⟨gb, 6, none⟩ = some (.slice g.s.A g.s.n g.s.c) ∧ w'.cell? ⟨gb, 7, none⟩ = some (.slice g.f.A g.f.n g.f.c) ∧ w'.cell? ⟨gb, 8, none⟩ = some (.slice g.x.A g.x.n g.x.c) ∧ gb < w'.heap.size) ∧ w'.cell? ⟨b5, off5 + i, none⟩ = some (.slice B5 m5 cm5)) :=
          fun w' h => ⟨(HTR.out.fq.below (bchain HS1.out h)).facts, ((bchain HS1.out h).cell (p := ⟨b5, off5 + i, none⟩) hb5).trans hc5⟩
        clear hwd8 hc5 hb5
        have HS := HSR
        clear HSR
        go_upto_region 14 with (fail)
        refine wp_region_all 16 (fun w' => Below w8.heap.size w8 w') (by kernel_rfl) (by kernel_rfl) ?_
        rintro D hD
        have HSD : Hid (Below w8.heap.size w8 D) := by rw [hD]; exact (Below.refl _ _).drew
        clear hD
        (refine wpS_take 0 (v := ?_) (by kernel_rfl) rfl rfl (by exact HSD.out) (fun w' hS => ?_) ?_; rotate_left; (focus ((try obtain ⟨⟨s0, s1, s2, s3, s4, s5, s6, s7, s8, s9⟩, t0⟩ := HS.out _ hS); clear hS; go_simp; try with_reducible rfl; done)); (try simp only [Act.put, List.setIfInBounds_toArray, List.set_cons_zero, List.set_cons_succ]))
        (refine wpS_take 1 (v := ?_) (by kernel_rfl) rfl rfl (by exact HSD.out) (fun w' hS => ?_) ?_; rotate_left; (focus ((try obtain ⟨⟨s0, s1, s2, s3, s4, s5, s6, s7, s8, s9⟩, t0⟩ := HS.out _ hS); clear hS; go_simp; try with_reducible rfl; done)); (try simp only [Act.put, List.setIfInBounds_toArray, List.set_cons_zero, List.set_cons_succ]))
        (refine wpS_take 2 (v := ?_) (by kernel_rfl) rfl rfl (by exact HSD.out) (fun w' hS => ?_) ?_; rotate_left; (focus ((try obtain ⟨⟨s0, s1, s2, s3, s4, s5, s6, s7, s8, s9⟩, t0⟩ := HS.out _ hS); clear hS; go_simp; try with_reducible rfl; done)); (try simp only [Act.put, List.setIfInBounds_toArray, List.set_cons_zero, List.set_cons_succ]))
        (refine wpS_take 3 (v := ?_) (by kernel_rfl) rfl rfl (by exact HSD.out) (fun w' hS => ?_) ?_; rotate_left; (focus ((try obtain ⟨⟨s0, s1, s2, s3, s4, s5, s6, s7, s8, s9⟩, t0⟩ := HS.out _ hS); clear hS; go_simp; try with_reducible rfl; done)); (try simp only [Act.put, List.setIfInBounds_toArray, List.set_cons_zero, List.set_cons_succ]))
        (refine wpS_take 4 (v := ?_) (by kernel_rfl) rfl rfl (by exact HSD.out) (fun w' hS => ?_) ?_; rotate_left; (focus ((try obtain ⟨⟨s0, s1, s2, s3, s4, s5, s6, s7, s8, s9⟩, t0⟩ := HS.out _ hS); clear hS; go_simp; try with_reducible rfl; done)); (try simp only [Act.put, List.setIfInBounds_toArray, List.set_cons_zero, List.set_cons_succ]))
        (refine wpS_take 5 (v := ?_) (by kernel_rfl) rfl rfl (by exact HSD.out) (fun w' hS => ?_) ?_; rotate_left; (focus ((try obtain ⟨⟨s0, s1, s2, s3, s4, s5, s6, s7, s8, s9⟩, t0⟩ := HS.out _ hS); clear hS; go_simp; try with_reducible rfl; done)); (try simp only [Act.put, List.setIfInBounds_toArray, List.set_cons_zero, List.set_cons_succ]))
        (refine wpS_take 6 (v := ?_) (by kernel_rfl) rfl rfl (by exact HSD.out) (fun w' hS => ?_) ?_; rotate_left; (focus ((try obtain ⟨⟨s0, s1, s2, s3, s4, s5, s6, s7, s8, s9⟩, t0⟩ := HS.out _ hS); clear hS; go_simp; try with_reducible rfl; done)); (try simp only [Act.put, List.setIfInBounds_toArray, List.set_cons_zero, List.set_cons_succ]))
        (refine wpS_take 7 (v := ?_) (by kernel_rfl) rfl rfl (by exact HSD.out) (fun w' hS => ?_) ?_; rotate_left; (focus ((try obtain ⟨⟨s0, s1, s2, s3, s4, s5, s6, s7, s8, s9⟩, t0⟩ := HS.out _ hS); clear hS; go_simp; try with_reducible rfl; done)); (try simp only [Act.put, List.setIfInBounds_toArray, List.set_cons_zero, List.set_cons_succ]))
        (refine wpS_take 8 (v := ?_) (by kernel_rfl) rfl rfl (by exact HSD.out) (fun w' hS => ?_) ?_; rotate_left; (focus ((try obtain ⟨⟨s0, s1, s2, s3, s4, s5, s6, s7, s8, s9⟩, t0⟩ := HS.out _ hS); clear hS; go_simp; try with_reducible rfl; done)); (try simp only [Act.put, List.setIfInBounds_toArray, List.set_cons_zero, List.set_cons_succ]))
        (refine wpS_take 9 (v := ?_) (by kernel_rfl) rfl rfl (by exact HSD.out) (fun w' hS => ?_) ?_; rotate_left; (focus ((try obtain ⟨⟨s0, s1, s2, s3, s4, s5, s6, s7, s8, s9⟩, t0⟩ := HS.out _ hS); clear hS; go_simp; try with_reducible rfl; done)); (try simp only [Act.put, List.setIfInBounds_toArray, List.set_cons_zero, List.set_cons_succ]))
        (refine wpS_take 10 (v := ?_) (by kernel_rfl) rfl rfl (by exact HSD.out) (fun w' hS => ?_) ?_; rotate_left; (focus ((try obtain ⟨⟨s0, s1, s2, s3, s4, s5, s6, s7, s8, s9⟩, t0⟩ := HS.out _ hS); clear hS; go_simp; try with_reducible rfl; done)); (try simp only [Act.put, List.setIfInBounds_toArray, List.set_cons_zero, List.set_cons_succ]))
        (refine wpS_take 11 (v := ?_) (by kernel_rfl) rfl rfl (by exact HSD.out) (fun w' hS => ?_) ?_; rotate_left; (focus ((try obtain ⟨⟨s0, s1, s2, s3, s4, s5, s6, s7, s8, s9⟩, t0⟩ := HS.out _ hS); clear hS; go_simp; try with_reducible rfl; done)); (try simp only [Act.put, List.setIfInBounds_toArray, List.set_cons_zero, List.set_cons_succ]))
        (refine wpS_take 12 (v := ?_) (by kernel_rfl) rfl rfl (by exact HSD.out) (fun w' hS => ?_) ?_; rotate_left; (focus ((try obtain ⟨⟨s0, s1, s2, s3, s4, s5, s6, s7, s8, s9⟩, t0⟩ := HS.out _ hS); clear hS; go_simp; try with_reducible rfl; done)); (try simp only [Act.put, List.setIfInBounds_toArray, List.set_cons_zero, List.set_cons_succ]))
        (refine wpS_br [13] (by kernel_rfl) ?_; refine AllS.cons rfl rfl (fun K hK => ?_) AllS.nil)
        have hcall := rright_any g G _ bl D (HTR.out.fg.below (bchain HS1.out HSD.out)) (HRB.out.below (bchain HS1.out HSD.out)) HLT.out
        rw [HSB.out.1] at hcall
        have HC := Lib.hid hcall
        clear hcall
        go_simp
        refine HC.out.mono ?_
        rintro e w9 ⟨rfl, hb⟩
        have HS2 := Lib.hid (bchain HSD.out hb)
        refine hK.out _ _ HS2.out ?_
        clear hK K HC hb HS
        (try simp only [Act.put, List.setIfInBounds_toArray, List.set_cons_zero, List.set_cons_succ])
        (refine wpS_take 14 (v := ?_) (by kernel_rfl) rfl rfl (by exact HS2.out) (fun w' hS => ?_) ?_; rotate_left; (focus (clear hS; go_simp; try with_reducible rfl; done)); (try simp only [Act.put, List.setIfInBounds_toArray, List.set_cons_zero, List.set_cons_succ]))
        (refine wpS_take 15 (v := ?_) (by kernel_rfl) rfl rfl (by exact HS2.out) (fun w' hS => ?_) ?_; rotate_left; (focus (clear hS; go_simp; try with_reducible rfl; done)); (try simp only [Act.put, List.setIfInBounds_toArray, List.set_cons_zero, List.set_cons_succ]))
        refine wpS_nil (by kernel_rfl) ?_
        refine NoPanic.normal ?_
        have HB9 : Hid (Below wc.heap.size wc w9) := bchain HBR.out (bchain HS1.out HS2.out)
        go_wp2_with fail
        go_roundw
        case rel => exact ⟨i + 1, by omega, by go_num, HB9.out⟩
        case measure => simp [intOf]; omega
      · go_upto_region 16 with (fail)
        obtain ⟨z0, z1, z2, z3, z4, z5, z6, z7, z8, zl⟩ := (HTR).out.fq.facts
        have pc := (HTR).out.fp.cell
        obtain ⟨o0, o1, o2, ol⟩ := (HTR).out.fo.facts
        go_cut [127] (fun s127 wx => ∃ tb : Bool, s127 = .bool tb ∧ Hid (tb = false → GoodO o.units ∧ exactF o.units wd = true) ∧ Hid (Below wr.heap.size wr wx))
        case first =>
          by_cases hu8 : 8 < u.n
          · have d1 : decide ((8 : Int) < (u.n : Int)) = true := by simp; omega
            have d1' : decide (8 < u.n) = true := by simp; omega
            clear hu8
            go_wp2_with fail
            go_meet
            exact ⟨true, rfl, hno, Below.refl _ _⟩
          have d1 : decide ((8 : Int) < (u.n : Int)) = false := by simp; omega
          have d1' : decide (8 < u.n) = false := by simp; omega
          clear hu8
          go_wp2_with fail
          refine (check17_any _ _ G.inv o wr HTR.out.fg.i HTR.out.ro HSO.out).mono ?_
          rintro e w8 ⟨⟨x, rfl, hx⟩, hb⟩
          have HX := Lib.hid hx
          have HT8 := Lib.hid (HTR.out.below hb)
          have HB8 := Lib.hid hb
          clear z0 z1 z2 z3 z4 z5 z6 z7 z8 zl pc o0 o1 o2 ol
          clear hx hb
          obtain ⟨z0, z1, z2, z3, z4, z5, z6, z7, z8, zl⟩ := (HT8).out.fq.facts
          have pc := (HT8).out.fp.cell
          obtain ⟨o0, o1, o2, ol⟩ := (HT8).out.fo.facts
          by_cases hx0 : x = 0
          rotate_left
          · have d2 : (x != 0) = true := by simp [hx0]
            clear hx0
            go_wp2_with fail
            go_meet
            exact ⟨true, rfl, hno, HB8.out⟩
          have HGO := Lib.hid (HX.out hx0)
          subst hx0
          go_wp2_with fail
          refine (exact_any _ _ o wd _ HT8.out.ro HSO.out HGO.out.1 (HF6.out.below (bchain HBR.out HB8.out)) (Nat.le_trans HWL.out (by decide))).mono ?_
          rintro e w9 ⟨rfl, hb⟩
          have HB9 := Lib.hid (bchain HB8.out hb)
          clear hb
          cases hex : exactF o.units wd
          · clear hex
            go_wp2_with fail
            go_meet
            exact ⟨true, rfl, hno, HB9.out⟩
          · have HEX := Lib.hid hex
            clear hex
            go_wp2_with fail
            go_meet
            exact ⟨false, rfl, hyes ⟨HGO.out, HEX.out⟩, HB9.out⟩
        case rest =>
          obtain ⟨tb, rfl, HTB, HB7⟩ := hcut
          clear z0 z1 z2 z3 z4 z5 z6 z7 z8 zl pc o0 o1 o2 ol
          have HT7 := Lib.hid (HTR.out.below HB7.out)
          have HL7 := Lib.hid (HLR.out.below HB7.out)
          obtain ⟨z0, z1, z2, z3, z4, z5, z6, z7, z8, zl⟩ := (HT7).out.fq.facts
          have pc := (HT7).out.fp.cell
          obtain ⟨o0, o1, o2, ol⟩ := (HT7).out.fo.facts
          cases tb
          rotate_left
          · skip
            go_wp2_with fail
            refine (alive09_any _).mono ?_
            rintro e wz ⟨rfl, hbz⟩
            have HZ := Lib.hid (bchain (HT7).out.fb hbz)
            clear hbz
            go_wp2_with fail
            go_ret
            exact ⟨rfl, HZ.out⟩
          have HGO := Lib.hid (HTB.out rfl).1
          have HE7 := Lib.hid (exact_ok (HTB.out rfl).2)
          obtain ⟨⟨t, tn, te⟩, htp⟩ : ∃ r, spellF o.units wd = r := ⟨_, rfl⟩
          rw [htp] at HE7
          have hte : te = 0 := HE7.out.1
          subst hte
          have HTZ : Hid (t.size ≤ 67108864) := by have h := spellF_size o.units wd HSO.out.graph; rw [htp] at h; exact h
          have HCV : Hid (convF G.ort.units o.units s = (t, tn, 0)) := by rw [Hid, convF, if_pos HRD.out.1, HRD.out.2, htp]
          have HO2 : Hid (ofF (withO G o) t = (Ls, k)) := by
            have h1 : (readF o.units t).2.2 = 0 := HE7.out.2.1
            have h2 : (readF o.units t).1 = wd := HE7.out.2.2
            rw [Hid, ofF, show (withO G o).ort.units = o.units from rfl, if_neg (by rw [h1]; simp), h2, allF_ort]
            exact HAL.out
          clear htp HTB
          have hcall := convert_any _ _ G.ort o s wc HT7.out.fg.ort HT7.out.ro HSG.out.ort HSO.out HLT.out.units.1 HGO.out.1 HSZ.out
          rw [HCV.out] at hcall
          have HC := Lib.hid hcall
          clear hcall
          go_wp2_with fail
          refine HC.out.mono ?_
          rintro e w8 ⟨he, hb⟩
          unfold RetT at he
          subst he
          have HT8 := Lib.hid (HT7.out.below hb)
          have HL8 := Lib.hid (HL7.out.below hb)
          clear z0 z1 z2 z3 z4 z5 z6 z7 z8 zl pc o0 o1 o2 ol
          clear hb HC
          obtain ⟨z0, z1, z2, z3, z4, z5, z6, z7, z8, zl⟩ := (HT8).out.fq.facts
          have pc := (HT8).out.fp.cell
          obtain ⟨o0, o1, o2, ol⟩ := (HT8).out.fo.facts
          go_upto_region 21 with (fail)
          generalize hX : World.alloc w8 _ = X
          have hbX : Below w8.heap.size w8 X := by rw [← hX]; exact al_below _ _
          have HH : Hid (LgBlk X w8.heap.size ⟨g.i, o.name, u, l, g.r, g.q, g.s, g.f, g.x⟩) := by rw [← hX]; exact heap_alloc_new w8 _
          have HTX := Lib.hid (HT8.out.below hbX)
          have HLX := Lib.hid (HL8.out.below hbX)
          have HDX : Hid (DpG X ⟨g.i, o.name, u, l, g.r, g.q, g.s, g.f, g.x⟩ (withO G o)) := ⟨rfl, HTX.out.fg.q, HTX.out.fg.i, HTX.out.fu, HTX.out.fl, HTX.out.fg.r, HTX.out.fg.s, HTX.out.fg.f, HTX.out.fg.x⟩
          clear hX hbX
          clear z0 z1 z2 z3 z4 z5 z6 z7 z8 zl pc o0 o1 o2 ol
          generalize w8.heap.size = hbk at HH ⊢
          obtain ⟨z0, z1, z2, z3, z4, z5, z6, z7, z8, zl⟩ := HH.out.facts
          dsimp only at z0 z1 z2 z3 z4 z5 z6 z7 z8
          have hcall := of_any ⟨g.i, o.name, u, l, g.r, g.q, g.s, g.f, g.x⟩ (withO G o) t X HDX.out (HLT.out.ort HGO.out) HSO.out HTZ.out
          unfold OfQ at hcall
          rw [HO2.out] at hcall
          dsimp only at hcall
          have HC := Lib.hid hcall
          clear hcall
          go_wp2_with fail
          refine HC.out.mono ?_
          rintro e w9 ⟨⟨A9, n9, c9, rfl, h9⟩, hb⟩
          have HT9 := Lib.hid (HTX.out.below hb)
          have HL9 := Lib.hid (HLX.out.below hb)
          have HN9 := Lib.hid h9
          clear z0 z1 z2 z3 z4 z5 z6 z7 z8 zl hb HC h9
          go_wp2_with fail
          refine (sameAll_any _ _ Ls w9 HL9.out HN9.out).mono ?_
          rintro e w10 ⟨rfl, hb⟩
          have HTa := Lib.hid (HT9.out.below hb)
          clear hb
          go_wp2_with fail
          refine (alive09_any _).mono ?_
          rintro e wz ⟨rfl, hbz⟩
          have HZ := Lib.hid (bchain (HTa).out.fb hbz)
          clear hbz
          go_wp2_with fail
          go_ret
          exact ⟨rfl, HZ.out⟩
end Go.Proofs.YtiopgbbggeimaaaGreat
