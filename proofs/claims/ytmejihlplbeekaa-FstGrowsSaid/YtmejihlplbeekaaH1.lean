/-
  The reference 20: least.
-/
import Derived.Test.YtmejihlplbeekaaHP1
import Derived.Test.YtmejihlplbeekaaG3
namespace Go.Proofs.Ytmejihlplbeekaa
open Go.ChangeShapes Go.WideShapes Go.ChangeAt Go.RowKit
def iArr (D : List Int) : Array Value := (D.map (Value.int .i64)).toArray
/-- block g holds the ints D -/
def Ins (w : World) (g : Nat) (D : List Int) : Prop := w.heap[g]? = some (.cells (iArr D) 3 (0, 0))
theorem Ins.lt {w : World} {g : Nat} {D : List Int} (h : Ins w g D) : g < w.heap.size := (Array.getElem?_eq_some_iff.1 h).1
theorem Ins.cell {w : World} {g : Nat} {D : List Int} (h : Ins w g D) {j : Nat} (hj : j < D.length) : w.cell? ⟨g, j, none⟩ = some (.int .i64 (D.getD j 0)) := by
  rw [cell_of_row w g j _ _ (0, 0) h]
  simp [hj, iArr]
theorem Ins.free {w : World} {g : Nat} {D : List Int} (h : Ins w g D) (j : Nat) : w.frozen? ⟨g, j, none⟩ = false := by
  unfold Ins at h
  simp [World.frozen?, h]
theorem Ins.set_ {w : World} {g : Nat} {D : List Int} (h : Ins w g D) (j : Nat) (v : Int) : Ins (w.setCell ⟨g, j, none⟩ (.int .i64 v)) g (D.set j v) := by
  unfold Ins at h ⊢
  simp [World.setCell, Array.getElem?_modify, h, List.map_set, iArr]
theorem Ins.below {w w' : World} {g : Nat} {D : List Int} (h : Ins w g D) (hb : Below w.heap.size w w') : Ins w' g D := (hb.block g h.lt).trans h
theorem Ins.alloc {w : World} {g : Nat} {D : List Int} (h : Ins w g D) (o : Obj) : Ins (w.alloc o) g D := (Below.heap_alloc w o g h.lt).trans h
theorem Ins.rd {w : World} {g : Nat} {D : List Int} (h : Ins w g D) (hl : D.length ≤ 9223372036854775807) : RdI w (.slice (some ⟨g, 0, none⟩) D.length D.length) D := by
  refine ⟨some ⟨g, 0, none⟩, D.length, rfl, Nat.le_refl _, hl, by simp, fun _ => ⟨g, 0, rfl, h.lt, fun j u hu => ?_⟩⟩
  simp only [List.getElem?_map, Option.map_eq_some_iff] at hu
  obtain ⟨z, hz, rfl⟩ := hu
  obtain ⟨hl, rfl⟩ := List.getElem?_eq_some_iff.1 hz
  rw [Nat.zero_add, h.cell hl]
  simp [hl]
theorem made_ints (n : Nat) : madeCells (Value.int .i64 0).cells (n * 1) = iArr (List.replicate n 0) := by
  have h := toList_madeCells_one (.int .i64 0) n
  rw [Nat.mul_one]
  apply Array.toList_inj.1
  rw [show (Value.int .i64 0).cells = #[Value.int .i64 0] from rfl, h, iArr]
  simp
theorem infoIx : ∃ i, Try.prog.info? 3 = some i ∧ i.zero = some (.int .i64 0) ∧ i.size = 1 ∧ i.bytes = 8 := by
  obtain ⟨i0, hi, hz0, hz1, hz2⟩ := info_parts infoI0
  exact ⟨i0, hi, hz0, hz1, hz2⟩
/-- the table while it is filled -/
structure DPre (D : List Int) (n : Nat) : Prop where
  len : D.length = n
  rng : ∀ j, 0 ≤ D.getD j 0 ∧ D.getD j 0 ≤ 1073741824
theorem DPre.set {D : List Int} {n : Nat} (h : DPre D n) (j : Nat) {v : Int} (h0 : 0 ≤ v) (h1 : v ≤ 1073741824) : DPre (D.set j v) n :=
  ⟨by rw [List.length_set]; exact h.len, fun k => by rw [getD_setI]; split; exact ⟨h0, h1⟩; exact h.rng k⟩
theorem DPre.zero (n : Nat) : DPre (List.replicate n 0) n :=
  ⟨by simp, fun j => by simp only [List.getD_eq_getElem?_getD, List.getElem?_replicate]; split <;> simp⟩
set_option maxHeartbeats 4000000 in
set_option maxRecDepth 100000 in
theorem least_any (v vin : Value) (F : PFst) (xs : List Int) (w : World) (hv : RdF w v F) (hx : RdI w vin xs) (hF : GoodA F) (hR : Right F) (hS : F.states ≤ 4096) (hX : xs.length ≤ 1000) :
    Calls Try.prog 44 #[v, vin] w fun e w' => (∃ g, e = .returned (.slice (some ⟨g, 0, none⟩) (szP F xs) (szP F xs)) ∧ w.heap.size ≤ g ∧ ∃ D, Ins w' g D ∧ DInv F xs D ∧ ∀ c, PBox F xs c → ∀ u, AccP F xs c u → D.getD (ixP xs c.q.toNat c.i.toNat) 0 ≤ (u.length : Int)) ∧ Below w.heap.size w w' := by
  obtain ⟨va, vf, rfl, ha, hf⟩ := hv
  obtain ⟨A, n, c, rfl, h1, h2, hn, hr⟩ := ha.op
  obtain ⟨A', n', c', rfl, h1', h2', hn', hr'⟩ := hf.op
  obtain ⟨Ax, nx, cx, rfl, h1x, h2x, hnx, hrx⟩ := hx.op
  rw [hnx.out] at hX
  have Hx := Lib.hid hx
  have HR := Lib.hid hR
  have HF := Lib.hid hF
  clear hf ha hx hR hF
  obtain ⟨SN, hSN⟩ : ∃ SN : Nat, F.states = (SN : Int) := ⟨F.states.toNat, by have := HR.out.1; omega⟩
  have hS2 : SN ≤ 4096 := by omega
  have HSN := Lib.hid hSN
  clear hS
  rw [hSN]
  clear hSN
  obtain ⟨p1, hp1⟩ : ∃ p1 : Nat, (SN : Int) * ((nx : Int) + 1) = (p1 : Int) := ⟨SN * (nx + 1), by simp⟩
  have Hsz : Hid (szP F xs = p1) := by
    have e1 : p1 = SN * (nx + 1) := by exact_mod_cast hp1.symm
    rw [Hid, szP, HSN.out, hnx.out, e1]
    simp
  have hp1b : p1 ≤ 4100096 := by
    have e1 : p1 = SN * (nx + 1) := by exact_mod_cast hp1.symm
    rw [e1]; exact Nat.mul_le_mul hS2 (by omega : nx + 1 ≤ 1001)
  have hmk := fun W => run_make_rowN (P := Try.prog) 23 3 infoIx.choose (.int .i64 0) Try.underlying23 infoIx.choose_spec.1 infoIx.choose_spec.2.1 .i64 .i64 p1 p1 (Nat.le_refl _) (by rw [infoIx.choose_spec.2.2.2]; omega) (by omega) W
  rw [infoIx.choose_spec.2.2.1, made_ints] at hmk
  go_enter Try.func44, Try.ntmps44
  go_wp2_with fail
  generalize hw0 : World.alloc w _ = w0
  have hz : w0.heap.size = w.heap.size + 1 := by rw [← hw0]; simp
  have b1 : w0.cell? ⟨w.heap.size, 1, none⟩ = some (.slice A n c) := by rw [← hw0]; simp [go_sem]
  have b2 : w0.cell? ⟨w.heap.size, 2, none⟩ = some (.slice A' n' c') := by rw [← hw0]; simp [go_sem]
  have HB0 : Hid (Below w.heap.size w w0) := by rw [← hw0]; exact (Below.refl _ _).alloc (Nat.le_refl _) _
  generalize hg : w.heap.size + 1 = g
  have hgw : w.heap.size < g := by omega
  have HZ : Hid (w0.heap.size = g) := by rw [Hid, hz, hg]
  clear hw0 hz hg hmk
  generalize hX0 : World.alloc w0 _ = X
  have HI0 : Hid (Ins X g (List.replicate p1 0)) := by rw [← hX0, ← HZ.out]; exact heap_alloc_new w0 _
  have HBX : Hid (Below w0.heap.size w0 X) := by rw [← hX0]; exact (Below.refl _ _).alloc (Nat.le_refl _) _
  clear hX0
  go_loopg [7] p1 (fun gk v7 wr => ∃ (k : Nat) (D : List Int), k ≤ p1 ∧ gk = p1 - k ∧ v7 = .int .i64 k ∧ Hid (Ins wr g D) ∧ Hid (DPre D p1) ∧ Hid (Below w0.heap.size w0 wr))
  case atStart => exact ⟨0, _, Nat.zero_le _, rfl, rfl, HI0.out, DPre.zero p1, HBX.out⟩
  case round =>
    obtain ⟨k, D, hk, hg1, rfl, HD, HP, HB⟩ := hrel
    have HG1 := Lib.hid hg1
    clear hg1
    have hgl := HD.out.lt
    by_cases hlt : k < p1
    · have hck := HD.out.cell (j := k) (by rw [HP.out.len]; exact hlt)
      have hfk := HD.out.free k
      go_wp2_with fail
      go_roundg (p1 - (k + 1))
      case measure => rw [HG1.out]; omega
      case rel => exact ⟨k + 1, D.set k 1073741824, by omega, rfl, by go_num, HD.out.set_ _ _, HP.out.set k (by omega) (by omega), HB.out.setCell (p := ⟨g, k, none⟩) (by rw [HZ.out]; exact Nat.le_refl _) _⟩
    · go_wp2_with fail
      obtain ⟨wo, rfl⟩ : ∃ wo : World, wo = wr := ⟨_, rfl⟩
      go_loopg [8] n' (fun gk v8 wr => ∃ (k : Nat) (D : List Int), k ≤ n' ∧ gk = n' - k ∧ v8 = .int .i64 k ∧ Hid (Ins wr g D) ∧ Hid (DPre D p1) ∧ Hid (∀ t, t ∈ F.final.take k → D.getD (ixP xs t.toNat xs.length) 0 = 0) ∧ Hid (Below w0.heap.size w0 wr))
      case atStart => exact ⟨0, D, Nat.zero_le _, rfl, rfl, HD.out, HP.out, by intro t ht; simp at ht, HB.out⟩
      case round =>
        obtain ⟨k2, D2, hk2, hg2, rfl, HD2, HP2, HF2, HB2⟩ := hrel
        have HG2 := Lib.hid hg2
        clear hg2 HD HP HB
        have c2 := (HB2.out.cell (p := ⟨w.heap.size, 2, none⟩) (by rw [HZ.out]; exact hgw)).trans b2
        have hgl := HD2.out.lt
        have HBw := Lib.hid (bchain HB0.out HB2.out)
        by_cases hlt2 : k2 < n'
        · obtain ⟨b, off, x, rfl, hb, hdr, e0⟩ := (hr'.out k2 hlt2).below HBw.out
          have hxm : x ∈ F.final := List.mem_of_mem_drop (by rw [hdr.out]; exact List.mem_cons_self)
          obtain ⟨hx0, hxS⟩ := HR.out.2.2 x hxm
          have HTK : Hid (F.final.take (k2 + 1) = F.final.take k2 ++ [x]) := take_of_drop hdr.out
          obtain ⟨q, rfl⟩ : ∃ q : Nat, x = (q : Int) := ⟨x.toNat, by omega⟩
          have hqS : q < SN := by have := HSN.out; omega
          clear hx0 hxS hxm
          obtain ⟨p2, hp2⟩ : ∃ p2 : Nat, (q : Int) * ((nx : Int) + 1) = (p2 : Int) := ⟨q * (nx + 1), by simp⟩
          have HIX : Hid (p2 + nx = ixP xs q xs.length) := by
            have e1 : p2 = q * (nx + 1) := by exact_mod_cast hp2.symm
            rw [Hid, ixP, hnx.out, e1]
          have hil : p2 + nx < p1 := by
            rw [HIX.out, ← Hsz.out, szP]; exact ixP_lt (by have := HSN.out; omega) (Nat.le_refl _)
          have hck0 := HD2.out.cell (j := p2 + nx) (by rw [HP2.out.len]; exact hil)
          have hck : wr.cell? ⟨g, p2 + (nx + 1) - 1, none⟩ = some (.int .i64 (D2.getD (p2 + nx) 0)) := hck0
          have hfk0 := HD2.out.free (p2 + nx)
          have hfk : wr.frozen? ⟨g, p2 + (nx + 1) - 1, none⟩ = false := hfk0
          have HIL := Lib.hid hil
          go_wp2_with fail
          go_roundg (n' - (k2 + 1))
          case measure => rw [HG2.out]; omega
          case rel =>
            refine ⟨k2 + 1, D2.set (p2 + nx) 0, by omega, rfl, by go_num, HD2.out.set_ _ _, HP2.out.set _ (by omega) (by omega), ?_, HB2.out.setCell (p := ⟨g, _, none⟩) (by rw [HZ.out]; exact Nat.le_refl _) _⟩
            intro t ht
            rw [getD_setI]
            split
            · rfl
            · rename_i hne
              rw [HTK.out] at ht
              rcases List.mem_append.1 ht with h | h
              · exact HF2.out t h
              · have : t = (q : Int) := by simpa using h
                subst this
                exact absurd ⟨by rw [HIX.out]; rfl, by rw [HP2.out.len]; exact HIL.out⟩ hne
        · have HDI : Hid (DInv F xs D2) := ⟨by rw [HP2.out.len, Hsz.out], HP2.out.rng, fun t ht => HF2.out t (by rw [List.take_of_length_le (by rw [hn'.out]; omega)]; exact ht)⟩
          go_wp2_with fail
          clear c2 hgl HG2 HF2 HP2
          obtain ⟨wo2, rfl⟩ : ∃ wo : World, wo = wr := ⟨_, rfl⟩
          go_loopg [9] (2 * sumD D2 + 1) (fun gk v9 wr => ∃ (b : Bool) (D : List Int), v9 = .bool b ∧ Hid (Ins wr g D) ∧ Hid (DInv F xs D) ∧ Hid (b = false → ∀ a i, a ∈ F.arcs → i ≤ xs.length → RelD xs D a i) ∧ Hid (gk = 2 * sumD D + (if b then 1 else 0)) ∧ Hid (Below w0.heap.size w0 wr))
          case atStart => exact ⟨true, D2, rfl, HD2.out, HDI.out, (fun h => by cases h), rfl, HB2.out⟩
          case round =>
            obtain ⟨b, D3, rfl, HD3, HI3, HC3, HG3, HB3⟩ := hrel
            clear HD2 HDI HB2 HBw
            have c1 := (HB3.out.cell (p := ⟨w.heap.size, 1, none⟩) (by rw [HZ.out]; exact hgw)).trans b1
            have hgl := HD3.out.lt
            have HBw := Lib.hid (bchain HB0.out HB3.out)
            cases b
            · go_wp2_with fail
              go_ret
              exact ⟨⟨g, by rw [Hsz.out]; rfl, by omega, D3, HD3.out, HI3.out, HI3.out.done HF.out (HC3.out trivial)⟩, HBw.out⟩
            · go_wp2_with fail
              clear c1 hgl
              obtain ⟨wo3, rfl⟩ : ∃ wo : World, wo = wr := ⟨_, rfl⟩
              go_loopg [9, 10] n (fun gk v9 v10 wx => ∃ (j : Nat) (more : Bool) (D : List Int), j ≤ n ∧ gk = n - j ∧ v10 = .int .i64 j ∧ v9 = .bool more ∧ Hid (Ins wx g D) ∧ Hid (PassD F xs D3 (fun a i => i ≤ xs.length ∧ a ∈ F.arcs.take j) D more) ∧ Hid (Below w0.heap.size w0 wx))
              case atStart => exact ⟨0, false, D3, Nat.zero_le _, rfl, rfl, rfl, HD3.out, (PassD.start HI3.out).weaken (fun a i h => by simp at h), HB3.out⟩
              case round =>
                obtain ⟨j, more, D4, hj, hg2, rfl, rfl, HD4, HP4, HB4⟩ := hrel
                have HG2 := Lib.hid hg2
                clear hg2 HD3
                have c1 := (HB4.out.cell (p := ⟨w.heap.size, 1, none⟩) (by rw [HZ.out]; exact hgw)).trans b1
                have hgl := HD4.out.lt
                have HBw4 := Lib.hid (bchain HB0.out HB4.out)
                by_cases hlt4 : j < n
                · obtain ⟨bb, off, x0, x1, x2, x3, rfl, hbb, hdr, e0, e1, e2, e3⟩ := (hr.out j hlt4).below HBw4.out
                  have HAM : Hid ((⟨x0, x1, x2, x3⟩ : PArc) ∈ F.arcs) := List.mem_of_mem_drop (by rw [hdr.out]; exact List.mem_cons_self)
                  have HTK : Hid (F.arcs.take (j + 1) = F.arcs.take j ++ [⟨x0, x1, x2, x3⟩]) := take_of_drop hdr.out
                  obtain ⟨y0, y1, y2, y3, y4⟩ := HF.out.tgt _ HAM.out
                  simp only at y0 y1 y2 y3 y4
                  obtain ⟨q0, rfl⟩ : ∃ q : Nat, x0 = (q : Int) := ⟨x0.toNat, by omega⟩
                  obtain ⟨q3, rfl⟩ : ∃ q : Nat, x3 = (q : Int) := ⟨x3.toNat, by omega⟩
                  have hq0 : q0 < SN := by have := HSN.out; omega
                  have hq3 : q3 < SN := by have := HSN.out; omega
                  have HX2 : Hid (0 ≤ x2) := y4
                  clear y0 y1 y2 y3 y4
                  go_wp2_with fail
                  obtain ⟨wp, rfl⟩ : ∃ wp : World, wp = wr := ⟨_, rfl⟩
                  generalize hwa : World.alloc wp _ = wa
                  obtain ⟨ga, hga⟩ : ∃ ga, wp.heap.size = ga := ⟨_, rfl⟩
                  have HAb : Hid (ABlk wa ga (q0 : Int) x1 x2 (q3 : Int)) := by rw [← hwa, ← hga]; exact heap_alloc_new wp _
                  have HBa : Hid (Below w0.heap.size w0 wa) := by rw [← hwa]; exact HB4.out.alloc (by have := HB4.out.size; exact this) _
                  have HDa : Hid (Ins wa g D4) := by rw [← hwa]; exact HD4.out.alloc _
                  have HGA : Hid (g < ga) := by have := HD4.out.lt; unfold Hid; omega
                  rw [hga]
                  clear hwa e0 e1 e2 e3 c1 hga hgl
                  go_loopg [9, 12] (nx + 1) (fun gk v9 v12 wy => ∃ (i : Nat) (more1 : Bool) (D1 : List Int), i ≤ nx + 1 ∧ gk = nx + 1 - i ∧ v12 = .int .i64 i ∧ v9 = .bool more1 ∧ Hid (Ins wy g D1) ∧ Hid (PassD F xs D3 (fun a i' => (i' ≤ xs.length ∧ a ∈ F.arcs.take j) ∨ (a = ⟨(q0 : Int), x1, x2, (q3 : Int)⟩ ∧ i' < i)) D1 more1) ∧ Hid (ABlk wy ga (q0 : Int) x1 x2 (q3 : Int)) ∧ Hid (Below w0.heap.size w0 wy))
                  case atStart => exact ⟨0, more, D4, Nat.zero_le _, rfl, rfl, rfl, HDa.out, HP4.out.weaken (fun a i h => h.resolve_right (fun h2 => by omega)), HAb.out, HBa.out⟩
                  case round =>
                    obtain ⟨i, more1, D1, hi, hg3, rfl, rfl, HD1, HP1, HA1, HB1⟩ := hrel
                    have HG3 := Lib.hid hg3
                    clear hg3
                    obtain ⟨a0, a1, a2, a3⟩ := HA1.out.cells
                    have hgl := HD1.out.lt
                    have hal : ga < wr.heap.size := (Array.getElem?_eq_some_iff.1 HA1.out).1
                    by_cases hlti : i < nx + 1
                    · have hdi : decide ((i : Int) < (nx : Int) + 1) = true := by simp; omega
                      have HX4 := Lib.hid (Hx.out.below (bchain HB0.out HB1.out))
                      cases ho1 : stepOk xs i x1
                      · have HRL : Hid (RelD xs D1 ⟨(q0 : Int), x1, x2, (q3 : Int)⟩ i) := fun h => by rw [show stepOk xs i x1 = true from h] at ho1; cases ho1
                        go_wp2_with fail
                        refine (step_any _ xs i x1 _ HX4.out).mono ?_
                        rintro e w1 ⟨rfl, nq1, rfl⟩
                        rw [ho1]
                        clear ho1
                        go_wp2_with fail
                        go_roundg (nx + 1 - (i + 1))
                        case measure => rw [HG3.out]; omega
                        case rel => exact ⟨i + 1, more1, D1, by omega, rfl, by go_num, rfl, HD1.out, HP1.out.keep (a := ⟨(q0 : Int), x1, x2, (q3 : Int)⟩) (i := i) HRL.out (fun a' i' h => by
                            rcases h with h | ⟨rfl, h⟩
                            · exact .inl (.inl h)
                            · by_cases e : i' = i
                              · exact .inr ⟨rfl, e⟩
                              · exact .inl (.inr ⟨rfl, by omega⟩)), HA1.out, by have := HB1.out; repeat (first | exact HB1.out | refine below_drewN ?_ _)⟩
                      · have HO1 := Lib.hid ho1
                        have hd1 : i + stepD x1 ≤ nx := by have := step_le xs i x1 (by rw [hnx.out]; omega) ho1; rw [hnx.out] at this; exact this
                        obtain ⟨p2, hp2⟩ : ∃ p2 : Nat, (q0 : Int) * ((nx : Int) + 1) = (p2 : Int) := ⟨q0 * (nx + 1), by simp⟩
                        obtain ⟨p4, hp4⟩ : ∃ p4 : Nat, (q3 : Int) * ((nx : Int) + 1) = (p4 : Int) := ⟨q3 * (nx + 1), by simp⟩
                        have f2 : p2 = q0 * (nx + 1) := by exact_mod_cast hp2.symm
                        have f4 : p4 = q3 * (nx + 1) := by exact_mod_cast hp4.symm
                        have hix : p2 + i = ixP xs q0 i := by rw [ixP, hnx.out, f2]
                        have hiy : p4 + i + stepD x1 = ixP xs q3 (i + stepD x1) := by rw [ixP, hnx.out, f4, Nat.add_assoc]
                        have hil : p2 + i < p1 := by rw [hix, ← Hsz.out, szP]; exact ixP_lt (by have := HSN.out; omega) (by rw [hnx.out]; omega)
                        have hiyl : p4 + i + stepD x1 < p1 := by rw [hiy, ← Hsz.out, szP]; exact ixP_lt (by have := HSN.out; omega) (by rw [hnx.out]; omega)
                        have hck := HD1.out.cell (j := p2 + i) (by rw [HP1.out.1.len, Hsz.out]; exact hil)
                        have hcy := HD1.out.cell (j := p4 + i + stepD x1) (by rw [HP1.out.1.len, Hsz.out]; exact hiyl)
                        have hfk := HD1.out.free (p2 + i)
                        have HIX := Lib.hid hix
                        have HIY := Lib.hid hiy
                        have HIL := Lib.hid hil
                        clear f2 f4 hix hiy
                        obtain ⟨hv0, hv1⟩ := HP1.out.1.rng (p4 + i + stepD x1)
                        obtain ⟨hu0, hu1⟩ := HP1.out.1.rng (p2 + i)
                        have HEU : Hid (D1.getD (ixP xs q0 i) 0 = D1.getD (p2 + i) 0) := by rw [Hid, HIX.out]
                        have HEV : Hid (D1.getD (ixP xs q3 (i + stepD x1)) 0 = D1.getD (p4 + i + stepD x1) 0) := by rw [Hid, HIY.out]
                        obtain ⟨v, hv⟩ : ∃ v, D1.getD (p4 + i + stepD x1) 0 = v := ⟨_, rfl⟩
                        obtain ⟨u, hu⟩ : ∃ u, D1.getD (p2 + i) 0 = u := ⟨_, rfl⟩
                        have HU := Lib.hid hu
                        rw [hv] at hcy hv0 hv1 HEV
                        rw [hu] at hck hu0 hu1 HEU
                        have HV0 := Lib.hid hv0
                        clear hv hu
                        have HCOST : Hid (∀ z, costA ⟨(q0 : Int), x1, x2, (q3 : Int)⟩ = z → v + z ≥ u → RelD xs D1 ⟨(q0 : Int), x1, x2, (q3 : Int)⟩ i) := fun z hz hvu _ => by
                          simp only [Int.toNat_natCast]
                          rw [HEU.out, HEV.out, hz]
                          exact hvu
                        by_cases hx2 : 0 < x2
                        · have hd2 : decide (0 < x2) = true := by simpa using hx2
                          have hc1 : costA ⟨(q0 : Int), x1, x2, (q3 : Int)⟩ = 1 := by unfold costA; rw [if_neg (by simp only; omega)]
                          by_cases hlt5 : v + 1 < u
                          · have hd5 : decide (v + 1 < u) = true := by simpa using hlt5
                            have HLT : Hid (v + 1 < D1.getD (p2 + i) 0) := by rw [HU.out]; exact hlt5
                            clear hc1 hlt5
                            go_wp2_with fail
                            refine (step_any _ xs i x1 _ HX4.out).mono ?_
                            rintro e w1 ⟨rfl, nq1, rfl⟩
                            rw [ho1]
                            clear ho1
                            go_wp2_with fail
                            go_roundg (nx + 1 - (i + 1))
                            case measure => rw [HG3.out]; omega
                            case rel =>
                              refine ⟨i + 1, true, D1.set (p2 + i) (v + 1), by omega, rfl, by go_num, rfl, ?_, HP1.out.step (by rw [HP1.out.1.len, Hsz.out]; exact HIL.out) ?_ ?_, HA1.out.far (by have := HGA.out; omega), ?_⟩
                              · exact Ins.set_ (by exact HD1.out) _ _
                              · have := HV0.out; omega
                              · exact HLT.out
                              · exact (below_drewN HB1.out _).setCell (p := ⟨g, _, none⟩) (by rw [HZ.out]; exact Nat.le_refl _) _
                          · have hd5 : decide (v + 1 < u) = false := by simpa using hlt5
                            have HRL := Lib.hid (HCOST.out 1 hc1 (by omega))
                            clear hc1 hlt5
                            go_wp2_with fail
                            refine (step_any _ xs i x1 _ HX4.out).mono ?_
                            rintro e w1 ⟨rfl, nq1, rfl⟩
                            rw [ho1]
                            clear ho1
                            go_wp2_with fail
                            go_roundg (nx + 1 - (i + 1))
                            case measure => rw [HG3.out]; omega
                            case rel => exact ⟨i + 1, more1, D1, by omega, rfl, by go_num, rfl, HD1.out, HP1.out.keep (a := ⟨(q0 : Int), x1, x2, (q3 : Int)⟩) (i := i) HRL.out (fun a' i' h => by
                                rcases h with h | ⟨rfl, h⟩
                                · exact .inl (.inl h)
                                · by_cases e : i' = i
                                  · exact .inr ⟨rfl, e⟩
                                  · exact .inl (.inr ⟨rfl, by omega⟩)), HA1.out, by have := HB1.out; repeat (first | exact HB1.out | refine below_drewN ?_ _)⟩
                        · have hd2 : decide (0 < x2) = false := by simpa using hx2
                          have hc1 : costA ⟨(q0 : Int), x1, x2, (q3 : Int)⟩ = 0 := by unfold costA; rw [if_pos (by simp only; have := HX2.out; omega)]
                          by_cases hlt5 : v < u
                          · have hd5 : decide (v < u) = true := by simpa using hlt5
                            have HLT : Hid (v < D1.getD (p2 + i) 0) := by rw [HU.out]; exact hlt5
                            clear hc1 hlt5
                            go_wp2_with fail
                            refine (step_any _ xs i x1 _ HX4.out).mono ?_
                            rintro e w1 ⟨rfl, nq1, rfl⟩
                            rw [ho1]
                            clear ho1
                            go_wp2_with fail
                            go_roundg (nx + 1 - (i + 1))
                            case measure => rw [HG3.out]; omega
                            case rel =>
                              refine ⟨i + 1, true, D1.set (p2 + i) (v), by omega, rfl, by go_num, rfl, ?_, HP1.out.step (by rw [HP1.out.1.len, Hsz.out]; exact HIL.out) ?_ ?_, HA1.out.far (by have := HGA.out; omega), ?_⟩
                              · exact Ins.set_ (by exact HD1.out) _ _
                              · have := HV0.out; omega
                              · exact HLT.out
                              · exact (below_drewN HB1.out _).setCell (p := ⟨g, _, none⟩) (by rw [HZ.out]; exact Nat.le_refl _) _
                          · have hd5 : decide (v < u) = false := by simpa using hlt5
                            have HRL := Lib.hid (HCOST.out 0 hc1 (by omega))
                            clear hc1 hlt5
                            go_wp2_with fail
                            refine (step_any _ xs i x1 _ HX4.out).mono ?_
                            rintro e w1 ⟨rfl, nq1, rfl⟩
                            rw [ho1]
                            clear ho1
                            go_wp2_with fail
                            go_roundg (nx + 1 - (i + 1))
                            case measure => rw [HG3.out]; omega
                            case rel => exact ⟨i + 1, more1, D1, by omega, rfl, by go_num, rfl, HD1.out, HP1.out.keep (a := ⟨(q0 : Int), x1, x2, (q3 : Int)⟩) (i := i) HRL.out (fun a' i' h => by
                                rcases h with h | ⟨rfl, h⟩
                                · exact .inl (.inl h)
                                · by_cases e : i' = i
                                  · exact .inr ⟨rfl, e⟩
                                  · exact .inl (.inr ⟨rfl, by omega⟩)), HA1.out, by have := HB1.out; repeat (first | exact HB1.out | refine below_drewN ?_ _)⟩
                    · have hei : i = nx + 1 := by omega
                      go_wp2_with fail
                      go_roundg (n - (j + 1))
                      case measure => rw [HG2.out]; omega
                      case rel => exact ⟨j + 1, more1, D1, by omega, rfl, by go_num, rfl, HD1.out, HP1.out.weaken (fun a i' h => by
                          have h3 := h.2
                          rw [HTK.out] at h3
                          rcases List.mem_append.1 h3 with h4 | h4
                          · exact .inl ⟨h.1, h4⟩
                          · exact .inr ⟨by simpa using h4, by have := h.1; rw [hnx.out] at this; omega⟩), HB1.out⟩
                · go_wp2_with fail
                  go_roundg (2 * sumD D4 + (if more then 1 else 0))
                  case measure =>
                    have h1 := HP4.out.2.1
                    rw [HG3.out]
                    cases more
                    · simp; omega
                    · have h2 := HP4.out.2.2.1 rfl
                      simp; omega
                  case rel => exact ⟨more, D4, rfl, HD4.out, HP4.out.1, (fun hb a i ha hi => by
                      obtain ⟨e, h⟩ := HP4.out.2.2.2 hb
                      rw [e]
                      exact h a i ⟨hi, by rw [List.take_of_length_le (by rw [hn.out]; omega)]; exact ha⟩), rfl, HB4.out⟩
end Go.Proofs.Ytmejihlplbeekaa
