/-
  The part of older texts that this seat needs (printed by shake.py): T5 F0 F1 F2 F3
-/
import Derived.Test.YtdijlakeonionaaZ1
import Derived.Lib.AppendZeros
import Derived.Laws.OwnMore
import Derived.Lib.SmallJoins
import Derived.ShutString
import Derived.ChangeOld
import Derived.ChangeSame
import Derived.Deep.Slices
import Derived.Deep.Fields
import Derived.Maps.Own
import Derived.Maps.OwnSet
import Derived.Maps.Views
import Derived.DeepKeys4
/-
  Accepts of the reference.
-/
namespace Go.Proofs.Ytdijlakeonionaa
open Go.ChangeShapes Go.WideShapes Go.ChangeAt Go.RowKit

/-- block g holds the bools M -/
def Bls (w : World) (g : Nat) (M : List Bool) : Prop := w.heap[g]? = some (.cells (M.map Value.bool).toArray 4 (0, 0))
theorem Bls.lt {w : World} {g : Nat} {M : List Bool} (h : Bls w g M) : g < w.heap.size := (Array.getElem?_eq_some_iff.1 h).1
theorem Bls.cell {w : World} {g : Nat} {M : List Bool} (h : Bls w g M) {j : Nat} (hj : j < M.length) : w.cell? ⟨g, j, none⟩ = some (.bool (M.getD j false)) := by
  rw [cell_of_row w g j _ _ (0, 0) h]
  simp [hj]
theorem Bls.free {w : World} {g : Nat} {M : List Bool} (h : Bls w g M) (j : Nat) : w.frozen? ⟨g, j, none⟩ = false := by
  unfold Bls at h
  simp [World.frozen?, h]
theorem Bls.set_ {w : World} {g : Nat} {M : List Bool} (h : Bls w g M) (j : Nat) : Bls (w.setCell ⟨g, j, none⟩ (.bool true)) g (M.set j true) := by
  unfold Bls at h ⊢
  simp [World.setCell, Array.getElem?_modify, h, List.map_set]
theorem Bls.drewN {w : World} {g : Nat} {M : List Bool} (h : Bls w g M) (n : Nat) : Bls (w.drewN n) g M := h
theorem Bls.alloc {w : World} {g : Nat} {M : List Bool} (h : Bls w g M) (o : Obj) : Bls (w.alloc o) g M := (Below.heap_alloc w o g h.lt).trans h

def bArr (M : List Bool) : Array Value := (M.map Value.bool).toArray
theorem made_bools (n : Nat) : madeCells (Value.bool false).cells (n * 1) = bArr (List.replicate n false) := by
  have h := toList_madeCells_one (.bool false) n
  rw [Nat.mul_one]
  apply Array.toList_inj.1
  rw [show (Value.bool false).cells = #[Value.bool false] from rfl, h, bArr]
  simp
theorem bArr_set (M : List Bool) (j : Nat) : (bArr M).setIfInBounds j (.bool true) = bArr (M.set j true) := by simp [bArr, List.map_set]
theorem bArr_zero (n : Nat) (h : 1 ≤ n) : (bArr (List.replicate n false))[0]? = some (.bool false) := by
  obtain ⟨k, rfl⟩ : ∃ k, n = k + 1 := ⟨n - 1, by omega⟩
  simp [bArr, List.replicate_succ]
theorem RdI.drewN {w : World} {v : Value} {xs : List Int} (h : RdI w v xs) (k : Nat) : RdI (w.drewN k) v xs := h
/-- the outer loop's word -/
def R1 (F : PFst) (xs ys : List Int) (w0 : World) (g gk : Nat) (b : Bool) (wr : World) : Prop :=
  ∃ M, Bls wr g M ∧ Inv F xs ys M ∧ (b = false → Closed F xs ys M) ∧ Below w0.heap.size w0 wr ∧ gk = 2 * cf M + (if b then 1 else 0)
/-- an inner loop's word: the table is T, the flag is b -/
def R2 (w0 : World) (g sz : Nat) (s : List Bool × Bool) (b : Bool) (wr : World) : Prop :=
  s.2 = b ∧ s.1.length = sz ∧ Bls wr g s.1 ∧ Below w0.heap.size w0 wr
def ABlk (w : World) (ga : Nat) (x0 x1 x2 x3 : Int) : Prop := w.heap[ga]? = some (.cells #[.int .i64 x0, .int .i64 x1, .int .i64 x2, .int .i64 x3] 98 (0, 0))
theorem ABlk.cells {w : World} {ga : Nat} {x0 x1 x2 x3 : Int} (h : ABlk w ga x0 x1 x2 x3) : w.cell? ⟨ga, 0, none⟩ = some (.int .i64 x0) ∧ w.cell? ⟨ga, 1, none⟩ = some (.int .i64 x1) ∧ w.cell? ⟨ga, 2, none⟩ = some (.int .i64 x2) ∧ w.cell? ⟨ga, 3, none⟩ = some (.int .i64 x3) := by
  refine ⟨?_, ?_, ?_, ?_⟩ <;> rw [cell_of_row w ga _ _ _ (0, 0) h] <;> rfl
theorem ABlk.far {w : World} {ga g j : Nat} {x0 x1 x2 x3 : Int} {u : Value} (h : ABlk w ga x0 x1 x2 x3) (hne : ga ≠ g) : ABlk (w.setCell ⟨g, j, none⟩ u) ga x0 x1 x2 x3 := (Below.heap_setCell w ⟨g, j, none⟩ u ga hne).trans h
theorem stf_no (xs ys : List Int) (a : PArc) (i k : Nat) (T : List Bool) (b : Bool) (h : stepOk xs i a.inp = false ∨ stepOk ys k a.out = false ∨ T.getD (idx (xs.length + 1) (ys.length + 1) a.fr.toNat i k) false = false) : stf xs ys a i k (T, b) = (T, b) := by
  unfold stf
  rw [if_neg]
  simp only [Bool.and_eq_true, not_and]
  intro h1 h2
  rcases h with h | h | h
  · rw [h] at h1; cases h1.1
  · rw [h] at h1; cases h1.2
  · rw [h] at h2; cases h2
theorem stf_yes (xs ys : List Int) (a : PArc) (i k : Nat) (T : List Bool) (b : Bool) (h1 : stepOk xs i a.inp = true) (h2 : stepOk ys k a.out = true) (h3 : T.getD (idx (xs.length + 1) (ys.length + 1) a.fr.toNat i k) false = true) :
    stf xs ys a i k (T, b) = (T.set (idx (xs.length + 1) (ys.length + 1) a.tgt.toNat (i + stepD a.inp) (k + stepD a.out)) true, b || !T.getD (idx (xs.length + 1) (ys.length + 1) a.tgt.toNat (i + stepD a.inp) (k + stepD a.out)) false) := by
  unfold stf
  rw [if_pos (by simp [h1, h2]; simpa using h3)]
theorem infoB0 : (Try.prog.info? 4).map (fun i => (i.zero, i.size, i.bytes)) = some (some (.bool false), 1, 1) := by kernel_rfl
theorem infoB : ∃ i, Try.prog.info? 4 = some i ∧ i.zero = some (.bool false) ∧ i.size = 1 ∧ i.bytes = 1 := by
  obtain ⟨i0, hi, hz0, hz1, hz2⟩ := info_parts infoB0
  exact ⟨i0, hi, hz0, hz1, hz2⟩
theorem run_make_rowN {P : Program} (t e : TypeId) (i : TypeInfo) (z : Value) (ht : P.underlying t = some (.slice e)) (hi : P.info? e = some i) (hz : i.zero = some z)
    (kl kc : IntKind) (n c : Nat) (hnc : n ≤ c) (hbytes : i.bytes * c ≤ 281474976710656) (h63 : c ≤ 9223372036854775807) (w : World) :
    (Instr.makeSlice t (.int kl (n : Int)) (.int kc (c : Int))).run P w = .ok (.slice (some ⟨w.heap.size, 0, none⟩) n c) (w.alloc (.cells (madeCells z.cells (c * i.size)) e)) := by
  have hb : (i.bytes : Int) * (c : Int) ≤ 281474976710656 := by
    have h : ((i.bytes * c : Nat) : Int) ≤ 281474976710656 := by omega
    rwa [Int.natCast_mul] at h
  have hr := run_make (P := P) w t e i z ht hi hz kl kc n c (by omega) (by omega) hb (by omega)
  simp only [Int.toNat_natCast] at hr
  exact hr
set_option maxHeartbeats 4000000 in
set_option maxRecDepth 100000 in
theorem accepts_any (v vx vy : Value) (F : PFst) (xs ys : List Int) (w : World) (hv : RdF w v F) (hx : RdI w vx xs) (hy : RdI w vy ys) (hR : Right F) (hS : F.states ≤ 4096) (hX : xs.length ≤ 1000) (hY : ys.length ≤ 1000) :
    Calls Try.prog 28 #[v, vx, vy] w fun e w' => e = .returned (.bool (accB F xs ys)) ∧ Below w.heap.size w w' := by
  obtain ⟨va, vf, rfl, ha, hf⟩ := hv
  obtain ⟨A, n, c, rfl, h1, h2, hn, hr⟩ := ha.op
  obtain ⟨A', n', c', rfl, h1', h2', hn', hr'⟩ := hf.op
  obtain ⟨Ax, nx, cx, rfl, h1x, h2x, hnx, hrx⟩ := hx.op
  obtain ⟨Ay, ny, cy, rfl, h1y, h2y, hny, hry⟩ := hy.op
  rw [hnx.out] at hX
  rw [hny.out] at hY
  have Hf := Lib.hid hf
  have Ha := Lib.hid ha
  have Hx := Lib.hid hx
  have Hy := Lib.hid hy
  have HR := Lib.hid hR
  clear hf ha hx hy hR
  cases hpx : plainB xs
  · have HA := Lib.hid (accB_no F xs ys (.inl hpx))
    go_enter Try.func28, Try.ntmps28
    go_wp2_with (first | (go_at_call 55; refine (plain_any _ xs _ (Rd.alloc Hx.out _)).mono ?_; rintro e w1 ⟨rfl, rfl⟩))
    go_ret
    exact ⟨by rw [HA.out]; rfl, by repeat (first | assumption | exact Below.refl _ _ | refine Below.alloc ?_ (by first | omega | (simp; done) | (simp; omega)) _ | refine Below.drew ?_ | refine below_drewN ?_ _ | refine Below.setCell ?_ (by first | omega | (simp; done) | (simp; omega)) _)⟩
  cases hpy : plainB ys
  · have HA := Lib.hid (accB_no F xs ys (.inr hpy))
    go_enter Try.func28, Try.ntmps28
    go_wp2_with fail
    refine (plain_any _ xs _ (Rd.alloc Hx.out _)).mono ?_
    rintro e w1 ⟨rfl, rfl⟩
    go_wp2_with fail
    refine (plain_any _ ys _ (Rd.alloc Hy.out _)).mono ?_
    rintro e w1 ⟨rfl, rfl⟩
    go_wp2_with fail
    go_ret
    exact ⟨by rw [HA.out]; rfl, by repeat (first | assumption | exact Below.refl _ _ | refine Below.alloc ?_ (by first | omega | (simp; done) | (simp; omega)) _ | refine Below.drew ?_ | refine below_drewN ?_ _ | refine Below.setCell ?_ (by first | omega | (simp; done) | (simp; omega)) _)⟩
  obtain ⟨SN, hSN⟩ : ∃ SN : Nat, F.states = (SN : Int) := ⟨F.states.toNat, by have := HR.out.1; omega⟩
  have hS1 : 1 ≤ SN := by have := HR.out.1; omega
  have hS2 : SN ≤ 4096 := by omega
  have HSN := Lib.hid hSN
  clear hS
  rw [hSN]
  clear hSN
  obtain ⟨p1, hp1⟩ : ∃ p1 : Nat, (SN : Int) * ((nx : Int) + 1) = (p1 : Int) := ⟨SN * (nx + 1), by simp⟩
  obtain ⟨sz, hsz⟩ : ∃ sz : Nat, (p1 : Int) * ((ny : Int) + 1) = (sz : Int) := ⟨p1 * (ny + 1), by simp⟩
  have Hsz : Hid (size F xs ys = sz) := by
    have e1 : p1 = SN * (nx + 1) := by exact_mod_cast hp1.symm
    have e2 : sz = p1 * (ny + 1) := by exact_mod_cast hsz.symm
    rw [Hid, size, HSN.out, hnx.out, hny.out, e2, e1]
    simp
  have hp1b : p1 ≤ 4100096 := by
    have e1 : p1 = SN * (nx + 1) := by exact_mod_cast hp1.symm
    rw [e1]; exact Nat.mul_le_mul hS2 (by omega : nx + 1 ≤ 1001)
  have hszb : sz ≤ 4104196096 := by
    have e2 : sz = p1 * (ny + 1) := by exact_mod_cast hsz.symm
    rw [e2]; exact Nat.mul_le_mul hp1b (by omega : ny + 1 ≤ 1001)
  have hsz1 : 1 ≤ sz := by
    have := inv_start (xs := xs) (ys := ys) HR.out
    have e2 : sz = p1 * (ny + 1) := by exact_mod_cast hsz.symm
    have e1 : p1 = SN * (nx + 1) := by exact_mod_cast hp1.symm
    have : 0 < SN * (nx + 1) * (ny + 1) := Nat.mul_pos (Nat.mul_pos (by omega) (by omega)) (by omega)
    rw [e2, e1]; exact this
  have hmk := fun W => run_make_rowN (P := Try.prog) 102 4 infoB.choose (.bool false) Try.underlying102 infoB.choose_spec.1 infoB.choose_spec.2.1 .i64 .i64 sz sz (Nat.le_refl _) (by rw [infoB.choose_spec.2.2.2]; omega) (by omega) W
  rw [infoB.choose_spec.2.2.1, made_bools] at hmk
  have hm0 := bArr_zero sz hsz1
  go_enter Try.func28, Try.ntmps28
  go_wp2_with fail
  refine (plain_any _ xs _ (Rd.alloc Hx.out _)).mono ?_
  rintro e w1 ⟨rfl, rfl⟩
  go_wp2_with fail
  refine (plain_any _ ys _ (Rd.alloc Hy.out _)).mono ?_
  rintro e w1 ⟨rfl, rfl⟩
  go_wp2_with fail
  generalize hw0 : World.alloc w _ = w0
  have hz : w0.heap.size = w.heap.size + 1 := by rw [← hw0]; simp
  have b0 : w0.cell? ⟨w.heap.size, 0, none⟩ = some (.int .i64 SN) := by rw [← hw0]; simp [go_sem]
  have b1 : w0.cell? ⟨w.heap.size, 1, none⟩ = some (.slice A n c) := by rw [← hw0]; simp [go_sem]
  have b2 : w0.cell? ⟨w.heap.size, 2, none⟩ = some (.slice A' n' c') := by rw [← hw0]; simp [go_sem]
  have HB0 : Hid (Below w.heap.size w w0) := by rw [← hw0]; exact (Below.refl _ _).alloc (Nat.le_refl _) _
  generalize hg : w.heap.size + 1 = g
  have hgw : w.heap.size < g := by omega
  have HZ : Hid (w0.heap.size = g) := by rw [Hid, hz, hg]
  clear hw0 hz hg hmk hm0
  go_loopg [10] (2 * cf ((List.replicate sz false).set 0 true) + 1) (fun gk more wr => ∃ b, more = .bool b ∧ R1 F xs ys w0 g gk b wr)
  case atStart =>
    refine ⟨true, rfl, (List.replicate sz false).set 0 true, ?_, ?_, (fun h => by cases h), ?_, rfl⟩
    · rw [bArr_set, ← HZ.out]; exact heap_alloc_new w0 _
    · have := inv_start (xs := xs) (ys := ys) HR.out; rw [Hsz.out] at this; exact this
    · exact (Below.refl _ _).alloc (Nat.le_refl _) _
  case round =>
    obtain ⟨b, rfl, M, hM, hI, hC, hB, hg⟩ := hrel
    have HM := Lib.hid hM
    have HI := Lib.hid hI
    have HC := Lib.hid hC
    have HG := Lib.hid hg
    have HB := Lib.hid hB
    clear hM hI hC hg hB
    have c0 := (HB.out.cell (p := ⟨w.heap.size, 0, none⟩) (by rw [HZ.out]; exact hgw)).trans b0
    have c1 := (HB.out.cell (p := ⟨w.heap.size, 1, none⟩) (by rw [HZ.out]; exact hgw)).trans b1
    have c2 := (HB.out.cell (p := ⟨w.heap.size, 2, none⟩) (by rw [HZ.out]; exact hgw)).trans b2
    have hgl : g < wr.heap.size := HM.out.lt
    have HBw := Lib.hid (bchain HB0.out HB.out)
    cases b
    · have HA := Lib.hid (accB_of HR.out HI.out (HC.out rfl) hpx hpy)
      go_wp2_with fail
      obtain ⟨wo, rfl⟩ : ∃ wo : World, wo = wr := ⟨_, rfl⟩
      have HL : Hid (M.length = sz) := by rw [Hid, HI.out.1, Hsz.out]
      go_loopg [20] n' (fun gk i wx => wo = wx ∧ ∃ j : Nat, j ≤ n' ∧ gk = n' - j ∧ i = .int .i64 j ∧ Hid (accB F xs ys = (F.final.drop j).any (fun q => at3 xs ys M q.toNat xs.length ys.length)))
      case atStart => exact ⟨rfl, 0, Nat.zero_le _, rfl, rfl, by rw [Hid, ← HA.out]; rfl⟩
      case round =>
        obtain ⟨rfl, j, hj, hgj, rfl, HP⟩ := hrel
        have HGJ := Lib.hid hgj
        clear hgj
        by_cases hlt : j < n'
        · obtain ⟨b, off, x, rfl, hb, hdr, e0⟩ := (hr'.out j hlt).below HBw.out
          have hxm : x ∈ F.final := by
            have : x ∈ F.final.drop j := by rw [hdr.out]; simp
            exact List.mem_of_mem_drop this
          obtain ⟨hx0, hxS⟩ := HR.out.2.2 x hxm
          obtain ⟨q, rfl⟩ : ∃ q : Nat, x = (q : Int) := ⟨x.toNat, by omega⟩
          have hqS : q < SN := by have := HSN.out; omega
          clear hx0 hxS hxm
          obtain ⟨p2, hp2⟩ : ∃ p2 : Nat, (q : Int) * ((nx : Int) + 1) = (p2 : Int) := ⟨q * (nx + 1), by simp⟩
          obtain ⟨p3, hp3⟩ : ∃ p3 : Nat, ((p2 : Int) + ((nx : Int) + 1) - 1) * ((ny : Int) + 1) = (p3 : Int) := ⟨(p2 + nx) * (ny + 1), by rw [show (p2 : Int) + ((nx : Int) + 1) - 1 = ((p2 + nx : Nat) : Int) by omega]; simp⟩
          have hix : p3 + ny = idx (xs.length + 1) (ys.length + 1) q xs.length ys.length := by
            have e1 : p2 = q * (nx + 1) := by exact_mod_cast hp2.symm
            have e2 : p3 = (p2 + nx) * (ny + 1) := by rw [show (p2 : Int) + ((nx : Int) + 1) - 1 = ((p2 + nx : Nat) : Int) by omega] at hp3; exact_mod_cast hp3.symm
            rw [idx, hnx.out, hny.out, e2, e1]
          have hil : p3 + ny < sz := by
            rw [hix, ← Hsz.out, size]; exact idx_lt (by have := HSN.out; omega) (by omega) (by omega)
          have hp2b : p2 ≤ p3 := by
            have e2 : p3 = (p2 + nx) * (ny + 1) := by rw [show (p2 : Int) + ((nx : Int) + 1) - 1 = ((p2 + nx : Nat) : Int) by omega] at hp3; exact_mod_cast hp3.symm
            rw [e2]; exact Nat.le_trans (Nat.le_add_right p2 nx) (Nat.le_mul_of_pos_right _ (by omega))
          have hck := HM.out.cell (j := p3 + ny) (by rw [HL.out]; exact hil)
          have HV : Hid (M.getD (p3 + ny) false = at3 xs ys M q xs.length ys.length) := by rw [Hid, hix]; rfl
          have hck2 : wo.cell? ⟨g, p3 + (ny + 1) - 1, none⟩ = some (.bool (M.getD (p3 + ny) false)) := hck
          have HIX := Lib.hid hix
          clear hix
          have HP2 : Hid (accB F xs ys = (at3 xs ys M q xs.length ys.length || (F.final.drop (j + 1)).any (fun q => at3 xs ys M q.toNat xs.length ys.length))) := by rw [Hid, HP.out, hdr.out]; rfl
          generalize M.getD (p3 + ny) false = mv at hck hck2 HV
          cases mv
          · go_wp2_with fail
            go_roundg (n' - (j + 1))
            case measure => rw [HGJ.out]; omega
            case rel => exact ⟨rfl, j + 1, by omega, rfl, by go_num, by rw [Hid, HP2.out, ← HV.out]; rfl⟩
          · go_wp2_with fail
            go_ret
            exact ⟨by rw [HP2.out, ← HV.out]; rfl, HBw.out⟩
        · go_wp2_with fail
          go_ret
          exact ⟨by rw [HP.out, List.drop_of_length_le (by rw [hn'.out]; omega)]; rfl, HBw.out⟩
    · have HL : Hid (M.length = sz) := by rw [Hid, HI.out.1, Hsz.out]
      go_wp2_with fail
      obtain ⟨wo, rfl⟩ : ∃ wo : World, wo = wr := ⟨_, rfl⟩
      clear c0 c1 c2 hgl
      go_loopg [10, 11] n (fun gk more x wx => ∃ (j : Nat) (b : Bool), j ≤ n ∧ gk = n - j ∧ x = .int .i64 j ∧ more = .bool b ∧ R2 w0 g sz (passF xs ys (F.arcs.take j) (M, false)) b wx)
      case atStart => exact ⟨0, false, Nat.zero_le _, rfl, rfl, rfl, rfl, HL.out, HM.out, HB.out⟩
      case round =>
        obtain ⟨j, b, hj, hgj, rfl, rfl, hb2, hl2, hm2, hB2⟩ := hrel
        generalize hs2 : passF xs ys (F.arcs.take j) (M, false) = s2 at hb2 hl2 hm2
        have HS2 := Lib.hid hs2
        have HGJ := Lib.hid hgj
        have HB2 := Lib.hid hB2
        have Hb2 := Lib.hid hb2
        have Hl2 := Lib.hid hl2
        have Hm2 := Lib.hid hm2
        clear hs2 hgj hb2 hl2
        have c1 := (HB2.out.cell (p := ⟨w.heap.size, 1, none⟩) (by rw [HZ.out]; exact hgw)).trans b1
        have hgl : g < wr.heap.size := hm2.lt
        have HBw2 := Lib.hid (bchain HB0.out HB2.out)
        clear hm2 hB2
        by_cases hlt : j < n
        · obtain ⟨bb, off, x0, x1, x2, x3, rfl, hbb, hdr, e0, e1, e2, e3⟩ := (hr.out j hlt).below HBw2.out
          have ham : (⟨x0, x1, x2, x3⟩ : PArc) ∈ F.arcs := by
            have : (⟨x0, x1, x2, x3⟩ : PArc) ∈ F.arcs.drop j := by rw [hdr.out]; simp
            exact List.mem_of_mem_drop this
          obtain ⟨y0, y1, y2, y3⟩ := HR.out.2.1 _ ham
          simp only at y0 y1 y2 y3
          obtain ⟨q0, rfl⟩ : ∃ q : Nat, x0 = (q : Int) := ⟨x0.toNat, by omega⟩
          obtain ⟨q3, rfl⟩ : ∃ q : Nat, x3 = (q : Int) := ⟨x3.toNat, by omega⟩
          have hq0 : q0 < SN := by have := HSN.out; omega
          have hq3 : q3 < SN := by have := HSN.out; omega
          clear y0 y1 y2 y3 ham
          have HT : Hid (F.arcs.take (j + 1) = F.arcs.take j ++ [⟨(q0 : Int), x1, x2, (q3 : Int)⟩]) := by
            have hl : j < F.arcs.length := by rw [hn.out]; exact hlt
            have h := hdr.out
            rw [List.drop_eq_getElem_cons hl] at h
            rw [Hid, List.take_succ_eq_append_getElem hl, (List.cons.inj h).1]
          generalize hpa : (⟨(q0 : Int), x1, x2, (q3 : Int)⟩ : PArc) = pa at HT
          have Hpa := Lib.hid hpa
          clear hpa
          have hdj : decide (j < n) = true := by simpa using hlt
          have hdj2 : decide ((j : Int) < (n : Int)) = true := by simpa using hlt
          go_wp2_with fail
          obtain ⟨wp, rfl⟩ : ∃ wp : World, wp = wr := ⟨_, rfl⟩
          generalize hwa : World.alloc wp _ = wa
          have HAb : Hid (ABlk wa wp.heap.size (q0 : Int) x1 x2 (q3 : Int)) := by rw [← hwa]; exact heap_alloc_new wp _
          have HBa : Hid (Below w0.heap.size w0 wa) := by rw [← hwa]; exact HB2.out.alloc (by have := HB2.out.size; exact this) _
          have HMa : Hid (Bls wa g s2.1) := by rw [← hwa]; exact Hm2.out.alloc _
          clear hwa e0 e1 e2 e3 c1
          generalize hga : wp.heap.size = ga at *
          clear hga
          go_loopg [10, 13] (nx + 1) (fun gk more i wy => ∃ (ii : Nat) (b : Bool), ii ≤ nx + 1 ∧ gk = nx + 1 - ii ∧ i = .int .i64 ii ∧ more = .bool b ∧ R2 w0 g sz (arcF xs ys pa ii s2) b wy ∧ ABlk wy ga (q0 : Int) x1 x2 (q3 : Int))
          case atStart => exact ⟨0, b, Nat.zero_le _, rfl, rfl, rfl, ⟨Hb2.out, Hl2.out, HMa.out, HBa.out⟩, HAb.out⟩
          case round =>
            obtain ⟨ii, b', hi, hgi, rfl, rfl, ⟨hb3, hl3, hm3, hB3⟩, hA3⟩ := hrel
            generalize hs3 : arcF xs ys pa ii s2 = s3 at hb3 hl3 hm3
            have HS3 := Lib.hid hs3
            have HGI := Lib.hid hgi
            have HB3 := Lib.hid hB3
            have Hb3 := Lib.hid hb3
            have Hl3 := Lib.hid hl3
            have Hm3 := Lib.hid hm3
            have HA3 := Lib.hid hA3
            clear hs3 hgi hB3 hb3 hl3 hm3 hA3
            by_cases hlti : ii < nx + 1
            · have hdi : decide ((ii : Int) < (nx : Int) + 1) = true := by simp; omega
              go_wp2_with fail
              obtain ⟨wq, rfl⟩ : ∃ wq : World, wq = wr := ⟨_, rfl⟩
              go_loopg [10, 14] (ny + 1) (fun gk more k wz => ∃ (kk : Nat) (b : Bool), kk ≤ ny + 1 ∧ gk = ny + 1 - kk ∧ k = .int .i64 kk ∧ more = .bool b ∧ R2 w0 g sz (rowF xs ys pa ii kk s3) b wz ∧ ABlk wz ga (q0 : Int) x1 x2 (q3 : Int))
              case atStart => exact ⟨0, b', Nat.zero_le _, rfl, rfl, rfl, ⟨Hb3.out, Hl3.out, Hm3.out, HB3.out⟩, HA3.out⟩
              case round =>
                obtain ⟨kk, b4, hk, hgk, rfl, rfl, ⟨hb4, hl4, hm4, hB4⟩, hA4⟩ := hrel
                generalize hs4 : rowF xs ys pa ii kk s3 = s4 at hb4 hl4 hm4
                obtain ⟨T, bT⟩ := s4
                simp only at hb4 hl4 hm4
                subst hb4
                obtain ⟨b4, rfl⟩ : ∃ b4 : Bool, b4 = bT := ⟨_, rfl⟩
                have HS4 := Lib.hid hs4
                have HGK := Lib.hid hgk
                have HB4 := Lib.hid hB4
                have Hl4 := Lib.hid hl4
                have Hm4 := Lib.hid hm4
                have HA4 := Lib.hid hA4
                have HX4 := Lib.hid (Hx.out.below (bchain HB0.out hB4))
                have HY4 := Lib.hid (Hy.out.below (bchain HB0.out hB4))
                obtain ⟨a0, a1, a2, a3⟩ := hA4.cells
                have hgl4 : g < wr.heap.size := hm4.lt
                clear hs4 hgk hB4 hl4 hm4 hA4
                by_cases hltk : kk < ny + 1
                · cases ho1 : stepOk xs ii x1
                  · go_wp2_with fail
                    refine (step_any _ xs ii x1 _ HX4.out).mono ?_
                    rintro e w1 ⟨rfl, nq1, rfl⟩
                    go_wp2_with fail
                    refine (step_any _ ys kk x2 _ (RdI.drewN HY4.out _)).mono ?_
                    rintro e w1 ⟨rfl, nq2, rfl⟩
                    go_wp2_with fail
                    go_roundg (ny + 1 - (kk + 1))
                    case measure => rw [HGK.out]; omega
                    case rel =>
                      refine ⟨kk + 1, b4, by omega, rfl, by go_num, rfl, ?_, HA4.out⟩
                      rw [rowF_succ, HS4.out, stf_no xs ys pa ii kk T b4 (.inl (by rw [← Hpa.out]; exact ho1))]
                      exact ⟨rfl, Hl4.out, Hm4.out, below_drewN HB4.out _⟩
                  cases ho2 : stepOk ys kk x2
                  · go_wp2_with fail
                    refine (step_any _ xs ii x1 _ HX4.out).mono ?_
                    rintro e w1 ⟨rfl, nq1, rfl⟩
                    go_wp2_with fail
                    refine (step_any _ ys kk x2 _ (RdI.drewN HY4.out _)).mono ?_
                    rintro e w1 ⟨rfl, nq2, rfl⟩
                    go_wp2_with fail
                    go_roundg (ny + 1 - (kk + 1))
                    case measure => rw [HGK.out]; omega
                    case rel =>
                      refine ⟨kk + 1, b4, by omega, rfl, by go_num, rfl, ?_, HA4.out⟩
                      rw [rowF_succ, HS4.out, stf_no xs ys pa ii kk T b4 (.inr (.inl (by rw [← Hpa.out]; exact ho2)))]
                      exact ⟨rfl, Hl4.out, Hm4.out, below_drewN HB4.out _⟩
                  have hd1 : ii + stepD x1 ≤ nx := by have := step_le xs ii x1 (by rw [hnx.out]; omega) ho1; rw [hnx.out] at this; exact this
                  have hd2 : kk + stepD x2 ≤ ny := by have := step_le ys kk x2 (by rw [hny.out]; omega) ho2; rw [hny.out] at this; exact this
                  obtain ⟨p2, hp2⟩ : ∃ p2 : Nat, (q0 : Int) * ((nx : Int) + 1) = (p2 : Int) := ⟨q0 * (nx + 1), by simp⟩
                  obtain ⟨p3, hp3⟩ : ∃ p3 : Nat, ((p2 : Int) + (ii : Int)) * ((ny : Int) + 1) = (p3 : Int) := ⟨(p2 + ii) * (ny + 1), by simp⟩
                  obtain ⟨p4, hp4⟩ : ∃ p4 : Nat, (q3 : Int) * ((nx : Int) + 1) = (p4 : Int) := ⟨q3 * (nx + 1), by simp⟩
                  obtain ⟨p5, hp5⟩ : ∃ p5 : Nat, ((p4 : Int) + (ii : Int) + (stepD x1 : Int)) * ((ny : Int) + 1) = (p5 : Int) := ⟨(p4 + ii + stepD x1) * (ny + 1), by simp⟩
                  have f2 : p2 = q0 * (nx + 1) := by exact_mod_cast hp2.symm
                  have f3 : p3 = (p2 + ii) * (ny + 1) := by exact_mod_cast hp3.symm
                  have f4 : p4 = q3 * (nx + 1) := by exact_mod_cast hp4.symm
                  have f5 : p5 = (p4 + ii + stepD x1) * (ny + 1) := by exact_mod_cast hp5.symm
                  have hix : p3 + kk = idx (xs.length + 1) (ys.length + 1) q0 ii kk := by rw [idx, hnx.out, hny.out, f3, f2]
                  have hiy : p5 + kk + stepD x2 = idx (xs.length + 1) (ys.length + 1) q3 (ii + stepD x1) (kk + stepD x2) := by rw [idx, hnx.out, hny.out, f5, f4, Nat.add_assoc (q3 * (nx + 1)) ii, Nat.add_assoc _ kk]
                  have hil : p3 + kk < sz := by rw [hix, ← Hsz.out, size]; exact idx_lt (by have := HSN.out; omega) (by rw [hnx.out]; omega) (by rw [hny.out]; omega)
                  have hiyl : p5 + kk + stepD x2 < sz := by rw [hiy, ← Hsz.out, size]; exact idx_lt (by have := HSN.out; omega) (by rw [hnx.out]; omega) (by rw [hny.out]; omega)
                  have hb23 : p2 + ii ≤ p3 := by rw [f3]; exact Nat.le_mul_of_pos_right _ (by omega)
                  have hb45 : p4 + ii + stepD x1 ≤ p5 := by rw [f5]; exact Nat.le_mul_of_pos_right _ (by omega)
                  have hck := Hm4.out.cell (j := p3 + kk) (by rw [Hl4.out]; exact hil)
                  have hcy := Hm4.out.cell (j := p5 + kk + stepD x2) (by rw [Hl4.out]; exact hiyl)
                  have hfy := Hm4.out.free (p5 + kk + stepD x2)
                  have HIX := Lib.hid hix
                  have HIY := Lib.hid hiy
                  clear f2 f3 f4 f5 hix hiy
                  cases hT : T.getD (p3 + kk) false
                  · rw [hT] at hck
                    have HT2 := Lib.hid hT
                    clear hT
                    go_wp2_with fail
                    refine (step_any _ xs ii x1 _ HX4.out).mono ?_
                    rintro e w1 ⟨rfl, nq1, rfl⟩
                    go_wp2_with fail
                    refine (step_any _ ys kk x2 _ (RdI.drewN HY4.out _)).mono ?_
                    rintro e w1 ⟨rfl, nq2, rfl⟩
                    go_wp2_with fail
                    go_roundg (ny + 1 - (kk + 1))
                    case measure => rw [HGK.out]; omega
                    case rel =>
                      refine ⟨kk + 1, b4, by omega, rfl, by go_num, rfl, ?_, HA4.out⟩
                      rw [rowF_succ, HS4.out, stf_no xs ys pa ii kk T b4 (.inr (.inr (by rw [← Hpa.out]; simp only [Int.toNat_natCast]; rw [← HIX.out]; exact HT2.out)))]
                      exact ⟨rfl, Hl4.out, Hm4.out, below_drewN HB4.out _⟩
                  rw [hT] at hck
                  have HT2 := Lib.hid hT
                  clear hT
                  generalize hyv : T.getD (p5 + kk + stepD x2) false = yv at hcy
                  have HYV := Lib.hid hyv
                  clear hyv
                  cases b4
                  all_goals
                    go_wp2_with fail
                    refine (step_any _ xs ii x1 _ HX4.out).mono ?_
                    rintro e w1 ⟨rfl, nq1, rfl⟩
                    go_wp2_with fail
                    refine (step_any _ ys kk x2 _ (RdI.drewN HY4.out _)).mono ?_
                    rintro e w1 ⟨rfl, nq2, rfl⟩
                    go_wp2_with fail
                    go_roundg (ny + 1 - (kk + 1))
                    case measure => rw [HGK.out]; omega
                    case rel =>
                      refine ⟨kk + 1, _, by omega, rfl, by go_num, rfl, ?_, HA4.out.far (by omega)⟩
                      rw [rowF_succ, HS4.out, stf_yes xs ys pa ii kk T _ (by rw [← Hpa.out]; exact ho1) (by rw [← Hpa.out]; exact ho2) (by rw [← Hpa.out]; simp only [Int.toNat_natCast]; rw [← HIX.out]; exact HT2.out)]
                      rw [← Hpa.out]
                      simp only [Int.toNat_natCast]
                      rw [← HIY.out, HYV.out]
                      exact ⟨rfl, by rw [List.length_set]; exact Hl4.out, Hm4.out.set_ _, (below_drewN HB4.out _).setCell (p := ⟨g, _, none⟩) (by rw [HZ.out]; exact Nat.le_refl _) _⟩
                · go_wp2_with fail
                  have e1 : kk = ny + 1 := by omega
                  go_roundg (nx + 1 - (ii + 1))
                  case measure => rw [HGI.out]; omega
                  case rel =>
                    refine ⟨ii + 1, b4, by omega, rfl, by go_num, rfl, ?_, HA4.out⟩
                    rw [arcF_succ, HS3.out, hny.out, ← e1, HS4.out]
                    exact ⟨rfl, Hl4.out, Hm4.out, HB4.out⟩
            · go_wp2_with fail
              have e1 : ii = nx + 1 := by omega
              go_roundg (n - (j + 1))
              case measure => rw [HGJ.out]; omega
              case rel =>
                refine ⟨j + 1, b', by omega, rfl, by go_num, rfl, ?_⟩
                rw [HT.out, passF_snoc, HS2.out, hnx.out, ← e1, HS3.out]
                exact ⟨Hb3.out, Hl3.out, Hm3.out, HB3.out⟩
        · go_wp2_with fail
          have e1 : F.arcs.take j = F.arcs := List.take_of_length_le (by rw [hn.out]; omega)
          have HPW := Lib.hid (pass_whole HR.out HI.out)
          have HS3 : Hid (passF xs ys F.arcs (M, false) = s2) := by rw [Hid, ← HS2.out, e1]
          clear e1
          go_roundg (2 * cf s2.1 + (if b then 1 else 0))
          case measure =>
            have h := HPW.out
            rw [HS3.out, Hb2.out] at h
            rw [HG.out]
            have hle := pass_le HR.out HI.out
            rw [HS3.out] at hle
            cases b
            · simp; omega
            · have := h.2.1 rfl; simp; omega
          case rel =>
            have h := HPW.out
            rw [HS3.out, Hb2.out] at h
            exact ⟨b, rfl, s2.1, Hm2.out, h.1, h.2.2, HB2.out, rfl⟩
end Go.Proofs.Ytdijlakeonionaa

/-
  Rows of the call's own: ints, bools, arcs; a struct of a transducer as a block; Same and Light of the references.
-/
namespace Go.Proofs.Ytdijlakeonionaa
open Go.ChangeShapes Go.WideShapes Go.ChangeAt Go.RowKit
theorem infoI0 : (Try.prog.info? 3).map (fun i => (i.zero, i.size, i.bytes)) = some (some (.int .i64 0), 1, 8) := by kernel_rfl
def OwnI (w : World) (base : Nat) (v : Value) (l : List Int) : Prop := w.ownsRow base 3 1 v l.length (l.map (Value.int .i64))
theorem OwnI.rd {w : World} {base : Nat} {v : Value} {l : List Int} (h : OwnI w base v l) : RdI w v l := Rd.own h

section
variable {w w1 : World} {base : Nat}
theorem row_type {size n : Nat} {e : TypeId} {v : Value} {xs : List Value} (h : w.ownsRow base e size v n xs) {k : Nat} (hk : v.ownBlock = some k) : ∃ cs, w.heap[k]? = some (.cells cs e (0, 0)) := by
  rcases h.2 with ⟨rfl, _⟩ | ⟨g, cap, cur, rfl, _, hh, _⟩
  · simp [Value.ownBlock] at hk
  · simp [Value.ownBlock] at hk; subst hk; exact ⟨cur, hh⟩
theorem ne_of_type {k k' : Nat} {cs cs' : Array Value} {t t' : TypeId} {m m' : Nat × Nat} (h : w.heap[k]? = some (.cells cs t m)) (h' : w.heap[k']? = some (.cells cs' t' m')) (hne : t ≠ t') : k ≠ k' := by
  rintro rfl
  rw [h] at h'
  cases h'
  exact hne rfl
theorem own_setCell {size n : Nat} {e : TypeId} {v : Value} {xs : List Value} (h : w.ownsRow base e size v n xs) {B : Nat} (hB : v.ownBlock ≠ some B) (j : Nat) (u : Value) : (w.setCell ⟨B, j, none⟩ u).ownsRow base e size v n xs := by
  refine ⟨h.1, ?_⟩
  rcases h.2 with hn | ⟨g, cap, cur, rfl, hb, hg, rest⟩
  · exact .inl hn
  · exact .inr ⟨g, cap, cur, rfl, hb, (Below.heap_setCell w ⟨B, j, none⟩ u g (by simp [Value.ownBlock] at hB; simpa using hB)).trans hg, rest⟩
theorem own_below {size n : Nat} {e : TypeId} {v : Value} {xs : List Value} (h : w.ownsRow base e size v n xs) (hb : Below w.heap.size w w1) : w1.ownsRow base e size v n xs := by
  refine ⟨h.1, ?_⟩
  rcases h.2 with hn | ⟨g, cap, cur, rfl, hb2, hg, rest⟩
  · exact .inl hn
  · exact .inr ⟨g, cap, cur, rfl, hb2, (hb.block g (Array.getElem?_eq_some_iff.1 hg).1).trans hg, rest⟩
end
theorem own_base {w : World} {base base' size n : Nat} {e : TypeId} {v : Value} {xs : List Value} (h : w.ownsRow base e size v n xs) (hb : base' ≤ base) : w.ownsRow base' e size v n xs :=
  ⟨h.1, h.2.imp id fun ⟨g, cap, cur, h1, h2, h3⟩ => ⟨g, cap, cur, h1, Nat.le_trans hb h2, h3⟩⟩
section
variable {P : Program} (w : World)
theorem run_append_nil_src (base : Nat) (t ty e : TypeId) (i : TypeInfo) (size : Nat) (ht : P.underlying t = some (.slice e)) (hi : P.info? e = some i)
    (v : Value) (n : Nat) (xs : List Value) (hown : w.ownsRow base e size v n xs) (c : Nat) : (Builtin.append_ #[t, t] ty #[v, .slice none 0 c]).run P w = .ok v w := by
  rcases hown.2 with ⟨rfl, rfl⟩ | ⟨g, cap, cur, rfl, _, _, hnc, _⟩
  · simp [Builtin.append_, run_underlying ht, sizeOf, typeInfo, hi, Builtin.lenOf, Builtin.firstCells]
  · simp [Builtin.append_, run_underlying ht, sizeOf, typeInfo, hi, Builtin.lenOf, Builtin.firstCells, hnc, storeCells]
theorem run_append_rd (base : Nat) (t ty e : TypeId) (i : TypeInfo) (z : Value) (size bytes : Nat) (ht : P.underlying t = some (.slice e)) (hi : P.info? e = some i) (hz : i.zero = some z)
    (hsize : i.size = size) (hby : i.bytes = bytes) (hzs : z.cells.size = size) (hsz : 0 < size)
    (v : Value) (n : Nat) (xs : List Value) (hown : w.ownsRow base e size v n xs) (vx : Value) (m : Nat) (news : List Value) (hr : Rd w size vx m news) (h1 : ∀ u ∈ news, u.oneCell' = true)
    (h63 : n + m ≤ maxLen) (hbytes : (n + m) * bytes ≤ 140737488355328) (hbase : base ≤ w.heap.size) :
    ∃ v' w', (Builtin.append_ #[t, t] ty #[v, vx]).run P w = .ok v' w' ∧ w'.ownsRow base e size v' (n + m) (xs ++ news) ∧ w.grownBy w' v.ownBlock ∧
      (v'.ownBlock = v.ownBlock ∨ v'.ownBlock = some w.heap.size) := by
  obtain ⟨A, c, rfl, hmc, hc, hlen, hcell⟩ := hr
  rcases A with _ | ad
  · have hm : m = 0 := by
      rcases Nat.eq_zero_or_pos m with h0 | h0
      · exact h0
      · obtain ⟨_, _, h, _⟩ := hcell h0
        cases h
    subst hm
    have hn : news = [] := List.eq_nil_of_length_eq_zero (by simpa using hlen)
    subst hn
    exact ⟨v, w, run_append_nil_src w base t ty e i size ht hi v n xs hown c, by simpa using hown, World.grownBy.refl w _, .inl rfl⟩
  · have hcells : ∀ j u, news[j]? = some u → w.cell? (ad.add j) = some u := by
      intro j u hu
      rcases Nat.eq_zero_or_pos m with h0 | h0
      · subst h0
        have hn : news = [] := List.eq_nil_of_length_eq_zero (by simpa using hlen)
        subst hn
        simp at hu
      · obtain ⟨b, off, h, _, hcc⟩ := hcell h0
        cases h
        have he : (⟨b, off, none⟩ : Addr).add j = ⟨b, off + j, none⟩ := by unfold Addr.add; split <;> simp_all
        rw [he]
        exact hcc j u hu
    obtain ⟨v', w', hrun, h2, h3, _, h5⟩ := run_append_own_at (P := P) w base t ty e i z size bytes ht hi hz hsize hby hzs hsz v n xs hown ad m c news hlen hcells h1 h63 hbytes hbase
    exact ⟨v', w', hrun, h2, h3, h5⟩
theorem wp_append_rd {o : Oper} {a : Act} {K : Act → World → Prop} {Q : Exit → Act → World → Prop} (s x : Operand) (t : TypeId)
    (ho : o.op = .call { callee := .builtin .append, args := #[s, x], argTypes := #[t, t] })
    (base : Nat) (e : TypeId) (i : TypeInfo) (z : Value) (size bytes : Nat) (ht : P.underlying t = some (.slice e)) (hi : P.info? e = some i) (hz : i.zero = some z)
    (hsize : i.size = size) (hby : i.bytes = bytes) (hzs : z.cells.size = size) (hsz : 0 < size)
    (v : Value) (n : Nat) (xs : List Value) (hs : a.eval s = v) (hown : w.ownsRow base e size v n xs) (vx : Value) (m : Nat) (news : List Value) (hx : a.eval x = vx) (hr : Rd w size vx m news) (h1 : ∀ u ∈ news, u.oneCell' = true)
    (h63 : n + m ≤ maxLen) (hbytes : (n + m) * bytes ≤ 140737488355328) (hbase : base ≤ w.heap.size)
    (h : ∀ v' w', w'.ownsRow base e size v' (n + m) (xs ++ news) → w.grownBy w' v.ownBlock → (v'.ownBlock = v.ownBlock ∨ v'.ownBlock = some w.heap.size) → K (a.put o.dst v') w') : o.wp P a w K Q := by
  obtain ⟨v', w', hrun, h2, h3, h4⟩ := run_append_rd (P := P) w base t o.type e i z size bytes ht hi hz hsize hby hzs hsz v n xs hown vx m news hr h1 h63 hbytes hbase
  unfold Oper.wp execOp
  simp only [ho, resolve, invoke, builtin, Sem.run_bind, Sem.run_pure, Result.andThen_ok, List.map_toArray, List.map_cons, List.map_nil, hs, hx, hrun]
  exact h v' w' h2 h3 h4
end
theorem oneCell_ints (l : List Int) : ∀ u ∈ l.map (Value.int .i64), u.oneCell' = true := by
  intro u hu
  obtain ⟨x, _, rfl⟩ := List.mem_map.1 hu
  rfl
/-- append of a slice of ints that is read, onto an owned row of ints -/
theorem wp_app_ints {w : World} {o : Oper} {a : Act} {K : Act → World → Prop} {Q : Exit → Act → World → Prop} (s x : Operand)
    (ho : o.op = .call { callee := .builtin .append, args := #[s, x], argTypes := #[25, 25] })
    (base : Nat) (v : Value) (l : List Int) (hs : a.eval s = v) (hown : OwnI w base v l) (vx : Value) (xs : List Int) (hx : a.eval x = vx) (hr : RdI w vx xs) (hl : l.length + xs.length ≤ 300000000) (hbase : base ≤ w.heap.size)
    (h : ∀ v' w', OwnI w' base v' (l ++ xs) → w.grownBy w' v.ownBlock → (v'.ownBlock = v.ownBlock ∨ v'.ownBlock = some w.heap.size) → K (a.put o.dst v') w') : o.wp Try.prog a w K Q := by
  obtain ⟨i0, hi, hz0, hz1, hz2⟩ := info_parts infoI0
  refine wp_append_rd w s x 25 ho base 3 i0 _ 1 8 Try.underlying25 hi hz0 hz1 hz2 rfl (by decide) v l.length _ hs hown vx xs.length _ hx hr (oneCell_ints xs) (by simp only [maxLen]; omega) (by omega) hbase ?_
  intro v' w' h1 h2 h3
  refine h v' w' ?_ h2 h3
  unfold OwnI
  rw [List.map_append, List.length_append]
  exact h1
theorem wpList_app_ints {w : World} {ops : Array Oper} {rest : List Oper} {o : Oper} {a : Act} {Q : Exit → Act → World → Prop} (hgd : o.guard = none) (s x : Operand)
    (ho : o.op = .call { callee := .builtin .append, args := #[s, x], argTypes := #[25, 25] })
    (base : Nat) (v : Value) (l : List Int) (hs : a.eval s = v) (hown : OwnI w base v l) (vx : Value) (xs : List Int) (hx : a.eval x = vx) (hr : RdI w vx xs) (hl : l.length + xs.length ≤ 300000000) (hbase : base ≤ w.heap.size)
    (h : ∀ v' w', OwnI w' base v' (l ++ xs) → w.grownBy w' v.ownBlock → (v'.ownBlock = v.ownBlock ∨ v'.ownBlock = some w.heap.size) → wpList Try.prog ops Q rest (a.put o.dst v') w') : wpList Try.prog ops Q (o :: rest) a w :=
  wpList_plain hgd fun _ hK => wp_app_ints s x ho base v l hs hown vx xs hx hr hl hbase fun v' w' h1 h2 h3 => hK _ _ (h v' w' h1 h2 h3)
theorem wpList_app_int {ops : Array Oper} {rest : List Oper} {o : Oper} {a : Act} {Q : Exit → Act → World → Prop} {w : World} (hgd : o.guard = none) (s x : Operand)
    (ho : o.op = .call { callee := .builtin .append, args := #[s, x], argTypes := #[25, 25] })
    (base : Nat) (v : Value) (l : List Int) (hs : a.eval s = v) (hown : OwnI w base v l) (x0 : Int) (m : Nat) (hm : Hid (l.length = m)) (hl : m ≤ 1000000) (hbase : base ≤ w.heap.size)
    (hx : a.eval x = .slice (some ⟨w.heap.size, 0, none⟩) 1 1)
    (h : ∀ g' cap w', OwnI w' base (.slice (some ⟨g', 0, none⟩) (m + 1) cap) (l ++ [x0]) → base ≤ g' → w.grownBy w' v.ownBlock → wpList Try.prog ops Q rest (a.put o.dst (.slice (some ⟨g', 0, none⟩) (m + 1) cap)) w') :
    wpList Try.prog ops Q (o :: rest) a (w.alloc (.cells #[.int .i64 x0] 3)) := by
  obtain rfl := hm.out
  obtain ⟨i0, hi, hz0, hz1, hz2⟩ := info_parts infoI0
  refine wpList_append_own _ hgd s x 25 ho base 3 i0 _ 1 8 Try.underlying25 hi hz0 hz1 hz2 rfl (by decide) v l.length (l.map (Value.int .i64)) hs (World.ownsRow.alloc hown _) ⟨w.heap.size, 0, none⟩ 1 1
    [.int .i64 x0] hx rfl ?_ ?_ (by simp only [maxLen]; omega) (by omega) (by simp; omega) ?_
  · intro j u hu
    match j, hu with
    | 0, hu => simp at hu; subst hu; simp [go_sem, Addr.add]
  · intro u hu
    simp at hu
    subst hu
    rfl
  · intro v' w' h1 h2 _
    obtain ⟨g', cap, rfl, hg1, hg2⟩ := h1.form (by omega)
    refine h g' cap w' ?_ hg1 ?_
    · unfold OwnI
      rw [List.map_append, List.length_append]
      exact h1
    · exact ⟨h2.os, h2.tape, h2.output, Nat.le_trans (by simp) h2.size, fun k hk hne => (h2.block k (by simp; omega) hne).trans (Below.heap_alloc w _ k hk)⟩
theorem own_newI (w : World) (base g : Nat) (hg : w.heap.size = g) (hb : base ≤ g) : OwnI (w.alloc (.cells #[] 3)) base (.slice (some ⟨g, 0, none⟩) 0 0) [] := by
  subst hg
  exact ⟨rfl, .inr ⟨w.heap.size, 0, #[], rfl, hb, heap_alloc_new w _, Nat.le_refl _, by simp [maxLen], rfl, rfl⟩⟩
theorem below_grown {W w w' : World} {base : Nat} {e : TypeId} {size n : Nat} {v : Value} {xs : List Value} (h : Below W.heap.size W w) (hB : W.heap.size ≤ base) (ho : w.ownsRow base e size v n xs) (hg : w.grownBy w' v.ownBlock) : Below W.heap.size W w' :=
  h.grown hg h.size (fun k hk => Nat.le_trans hB (World.ownsRow.lt ho k hk).1)
theorem infoA0 : (Try.prog.info? 98).map (fun i => (i.zero, i.size, i.bytes)) = some (some (.agg #[.int .i64 0, .int .i64 0, .int .i64 0, .int .i64 0]), 4, 32) := by kernel_rfl
theorem arcsCells_snoc (l : List PArc) (x : PArc) : arcsCells (l ++ [x]) = arcsCells l ++ arcCells x := by simp [arcsCells]
/-- a row of arcs, of ints, that the call owns -/
def OwnA (w : World) (base : Nat) (v : Value) (l : List PArc) : Prop := w.ownsRow base 98 4 v l.length (arcsCells l)
theorem OwnA.rd {w : World} {base : Nat} {v : Value} {l : List PArc} (h : OwnA w base v l) : RdA w v l := Rd.own h

theorem wpList_app_arc {ops : Array Oper} {rest : List Oper} {o : Oper} {a : Act} {Q : Exit → Act → World → Prop} {w : World} (hgd : o.guard = none) (s x : Operand)
    (ho : o.op = .call { callee := .builtin .append, args := #[s, x], argTypes := #[46, 46] })
    (base : Nat) (v : Value) (l : List PArc) (hs : a.eval s = v) (hown : OwnA w base v l) (x0 x1 x2 x3 : Int) (m : Nat) (hm : Hid (l.length = m)) (hl : m ≤ 1000000) (hbase : base ≤ w.heap.size)
    (hx : a.eval x = .slice (some ⟨w.heap.size, 0, none⟩) 1 1)
    (h : ∀ g' cap w', OwnA w' base (.slice (some ⟨g', 0, none⟩) (m + 1) cap) (l ++ [⟨x0, x1, x2, x3⟩]) → base ≤ g' → w.grownBy w' v.ownBlock → wpList Try.prog ops Q rest (a.put o.dst (.slice (some ⟨g', 0, none⟩) (m + 1) cap)) w') :
    wpList Try.prog ops Q (o :: rest) a (w.alloc (.cells #[.int .i64 x0, .int .i64 x1, .int .i64 x2, .int .i64 x3] 98)) := by
  obtain rfl := hm.out
  obtain ⟨i0, hi, hz0, hz1, hz2⟩ := info_parts infoA0
  refine wpList_append_own _ hgd s x 46 ho base 98 i0 _ 4 32 Try.underlying46 hi hz0 hz1 hz2 rfl (by decide) v l.length (arcsCells l) hs (World.ownsRow.alloc hown _) ⟨w.heap.size, 0, none⟩ 1 1
    [.int .i64 x0, .int .i64 x1, .int .i64 x2, .int .i64 x3] hx rfl ?_ ?_ (by simp only [maxLen]; omega) (by omega) (by simp; omega) ?_
  · intro j u hu
    match j, hu with
    | 0, hu => simp at hu; subst hu; simp [go_sem, Addr.add]
    | 1, hu => simp at hu; subst hu; simp [go_sem, Addr.add]
    | 2, hu => simp at hu; subst hu; simp [go_sem, Addr.add]
    | 3, hu => simp at hu; subst hu; simp [go_sem, Addr.add]
  · intro u hu
    simp at hu
    rcases hu with rfl | rfl | rfl | rfl <;> rfl
  · intro v' w' h1 h2 _
    obtain ⟨g', cap, rfl, hg1, hg2⟩ := h1.form (by omega)
    refine h g' cap w' ?_ hg1 ?_
    · unfold OwnA
      rw [arcsCells_snoc, List.length_append]
      exact h1
    · exact ⟨h2.os, h2.tape, h2.output, Nat.le_trans (by simp) h2.size, fun k hk hne => (h2.block k (by simp; omega) hne).trans (Below.heap_alloc w _ k hk)⟩

/-- block R is a struct Fst -/
def FBlk (w : World) (R : Nat) (x y z : Value) : Prop := w.heap[R]? = some (.cells #[x, y, z] 48 (0, 0))
section
variable {w w' : World} {R : Nat} {x y z : Value}
theorem FBlk.facts (h : FBlk w R x y z) : w.cell? ⟨R, 0, none⟩ = some x ∧ w.cell? ⟨R, 1, none⟩ = some y ∧ w.cell? ⟨R, 2, none⟩ = some z ∧ w.frozen? ⟨R, 0, none⟩ = false ∧ w.frozen? ⟨R, 1, none⟩ = false ∧ w.frozen? ⟨R, 2, none⟩ = false := by
  unfold FBlk at h
  refine ⟨?_, ?_, ?_, by simp [World.frozen?, h], by simp [World.frozen?, h], by simp [World.frozen?, h]⟩ <;> rw [cell_of_row w R _ _ _ (0, 0) h] <;> rfl
theorem FBlk.lt (h : FBlk w R x y z) : R < w.heap.size := (Array.getElem?_eq_some_iff.1 h).1
theorem FBlk.below (h : FBlk w R x y z) (hb : Below w.heap.size w w') : FBlk w' R x y z := (hb.block R h.lt).trans h
end
/-- a transducer whose rows lie in blocks from base on -/
def OwnF (base : Nat) (w : World) (v : Value) (F : PFst) : Prop := ∃ va vf, v = .agg #[.int .i64 F.states, va, vf] ∧ OwnA w base va F.arcs ∧ OwnI w base vf F.final
theorem OwnF.rd {base : Nat} {w : World} {v : Value} {F : PFst} (h : OwnF base w v F) : RdF w v F := by
  obtain ⟨va, vf, rfl, h1, h2⟩ := h
  exact ⟨va, vf, rfl, h1.rd, h2.rd⟩
def sameB : List Int → List Int → Bool
  | [], [] => true
  | x :: xs, y :: ys => if x = y then sameB xs ys else false
  | _, _ => false
theorem sameB_iff (xs ys : List Int) : sameB xs ys = true ↔ xs = ys := by
  induction xs generalizing ys with
  | nil => cases ys <;> simp [sameB]
  | cons x xs ih => cases ys with
    | nil => simp [sameB]
    | cons y ys => simp only [sameB, List.cons.injEq]; by_cases h : x = y <;> simp [h, ih]
theorem sameB_len (xs ys : List Int) (h : xs.length ≠ ys.length) : sameB xs ys = false := by
  rw [← Bool.not_eq_true, sameB_iff]; rintro rfl; exact h rfl
set_option maxHeartbeats 400000 in
theorem rsame_any (v u : Value) (xs ys : List Int) (w : World) (hv : RdI w v xs) (hu : RdI w u ys) :
    Calls Try.prog 16 #[v, u] w fun e w' => e = .returned (.bool (sameB xs ys)) ∧ ∃ nq, w' = w.drewN nq := by
  obtain ⟨A, n, c, rfl, h1, h2, HN, hr⟩ := hv.op
  obtain ⟨A', n', c', rfl, h1', h2', HN', hr'⟩ := hu.op
  clear hv hu
  by_cases hn : n = n'
  · subst hn
    have hne : ((n : Int) != (n : Int)) = false := by simp
    go_enter Try.func16, Try.ntmps16
    go_wp2_with fail
    go_loopw [13] (fun i wr => ∃ k nq : Nat, k ≤ n ∧ i = .int .i64 k ∧ wr = w.drewN nq ∧ Hid (sameB xs ys = sameB (xs.drop k) (ys.drop k))) (fun i _ => n - (intOf i).toNat)
    case atStart => exact ⟨0, 0, Nat.zero_le _, rfl, rfl, rfl⟩
    case round =>
      obtain ⟨k, nq, hk, rfl, rfl, HP⟩ := hrel
      by_cases hlt : k < n
      · obtain ⟨b, off, x, rfl, hb, hd, hck⟩ := hr.out k hlt
        obtain ⟨b', off', y, rfl, hb', hd', hck'⟩ := hr'.out k hlt
        have HS : Hid (sameB xs ys = if x = y then sameB (xs.drop (k + 1)) (ys.drop (k + 1)) else false) := by rw [Hid, HP.out, hd.out, hd'.out, sameB]
        by_cases hxy : x = y
        · have hb1 : (x != y) = false := by simpa using hxy
          have HS2 : Hid (sameB xs ys = sameB (xs.drop (k + 1)) (ys.drop (k + 1))) := by rw [Hid, HS.out, if_pos hxy]
          clear hxy HS
          go_wp2_with fail
          go_quiet (fail)
          go_wp2_with fail
          go_roundw
          case rel => exact ⟨k + 1, _, by omega, by go_num, rfl, HS2.out⟩
          case measure => simp [intOf]; omega
        · have hb1 : (x != y) = true := by simpa using hxy
          have HS2 : Hid (sameB xs ys = false) := by rw [Hid, HS.out, if_neg hxy]
          clear hxy HS
          go_wp2_with fail
          go_quiet (fail)
          go_wp2_with fail
          go_ret
          exact ⟨by rw [HS2.out]; rfl, _, World.drewN_drewN _ _ _⟩
      · go_wp2_with fail
        go_ret
        refine ⟨?_, _, rfl⟩
        have : sameB xs ys = true := by rw [HP.out, List.drop_of_length_le (by rw [HN.out]; omega), List.drop_of_length_le (by rw [HN'.out]; omega)]; rfl
        rw [this]; rfl
  · have hne : ((n : Int) != (n' : Int)) = true := by simp; omega
    have HS2 : Hid (sameB xs ys = false) := sameB_len _ _ (by rw [HN.out, HN'.out]; exact hn)
    clear hn
    go_enter Try.func16, Try.ntmps16
    go_wp2_with fail
    go_ret
    exact ⟨by rw [HS2.out]; rfl, 0, rfl⟩
end Go.Proofs.Ytdijlakeonionaa

/-
  A table of rows that the call owns: block g holds slices, each a row of its own.
-/
namespace Go.Proofs.Ytdijlakeonionaa
open Go.ChangeShapes Go.WideShapes Go.ChangeAt Go.RowKit
/-- block g holds the slice values vs; row q has the elements (cnt q of them, of sz cells) R q; no two share a block -/
structure Tbl (T e : TypeId) (sz : Nat) (w : World) (base g : Nat) (vs : List Value) (cnt : Nat → Nat) (R : Nat → List Value) : Prop where
  blk : w.heap[g]? = some (.cells vs.toArray T (0, 0))
  row : ∀ (q : Nat) (v : Value), vs[q]? = some v → w.ownsRow base e sz v (cnt q) (R q)
  dis : ∀ (q q' : Nat) (v v' : Value), vs[q]? = some v → vs[q']? = some v' → q ≠ q' → v.ownBlock = none ∨ v.ownBlock ≠ v'.ownBlock
  ne : T ≠ e
  le : base ≤ g
section
variable {T e : TypeId} {sz : Nat} {w w1 : World} {base g : Nat} {vs : List Value} {cnt : Nat → Nat} {R : Nat → List Value}
theorem Tbl.lt (h : Tbl T e sz w base g vs cnt R) : g < w.heap.size := (Array.getElem?_eq_some_iff.1 h.blk).1
theorem Tbl.cell (h : Tbl T e sz w base g vs cnt R) {q : Nat} {v : Value} (hq : vs[q]? = some v) : w.cell? ⟨g, q, none⟩ = some v := by
  rw [cell_of_row w g q _ _ (0, 0) h.blk]
  simpa using hq
theorem Tbl.free (h : Tbl T e sz w base g vs cnt R) (j : Nat) : w.frozen? ⟨g, j, none⟩ = false := by simp [World.frozen?, h.blk]
theorem Tbl.neq (h : Tbl T e sz w base g vs cnt R) {q : Nat} {v : Value} (hq : vs[q]? = some v) : v.ownBlock ≠ some g := fun he => by
  obtain ⟨cs, hc⟩ := row_type (h.row q v hq) he
  exact ne_of_type h.blk hc h.ne rfl
theorem Tbl.below (h : Tbl T e sz w base g vs cnt R) (hb : Below w.heap.size w w1) : Tbl T e sz w1 base g vs cnt R :=
  ⟨(hb.block g h.lt).trans h.blk, fun q v hq => own_below (h.row q v hq) hb, h.dis, h.ne, h.le⟩
/-- an append onto row q, and the store of the new slice -/
theorem Tbl.push (h : Tbl T e sz w base g vs cnt R) {q : Nat} {v : Value} (hq : vs[q]? = some v) (hg : w.grownBy w1 v.ownBlock) {g' n cap : Nat} {xs : List Value}
    (ho : w1.ownsRow base e sz (.slice (some ⟨g', 0, none⟩) n cap) n xs) (hl : v.ownBlock = some g' ∨ w.heap.size ≤ g') {cnt' : Nat → Nat} {R' : Nat → List Value}
    (hc : cnt' q = n) (hR : R' q = xs) (hco : ∀ q', q' ≠ q → cnt' q' = cnt q' ∧ R' q' = R q') :
    Tbl T e sz (w1.setCell ⟨g, q, none⟩ (.slice (some ⟨g', 0, none⟩) n cap)) base g (vs.set q (.slice (some ⟨g', 0, none⟩) n cap)) cnt' R' := by
  have hb := hg.block g h.lt (Ne.symm (h.neq hq))
  rw [h.blk] at hb
  have hgg : g' ≠ g := by
    rintro rfl
    have hx : (Value.slice (some ⟨g', 0, none⟩) n cap).ownBlock = some g' := rfl
    obtain ⟨cs, hc2⟩ := row_type ho hx
    exact ne_of_type hb hc2 h.ne rfl
  have hother : ∀ q' v', vs[q']? = some v' → q' ≠ q → v'.ownBlock ≠ some g' ∧ (v'.ownBlock = none ∨ v'.ownBlock ≠ v.ownBlock) := by
    intro q' v' hq' hne
    have hd := h.dis q' q v' v hq' hq hne
    refine ⟨fun he => ?_, hd⟩
    rcases hl with hl | hl
    · rcases hd with hd | hd
      · rw [hd] at he; cases he
      · exact hd (he.trans hl.symm)
    · have := (World.ownsRow.lt (h.row q' v' hq') g' he).2
      omega
  refine ⟨?_, ?_, ?_, h.ne, h.le⟩
  · simp [World.setCell, Array.getElem?_modify, hb]
  · intro q' v' hq'
    by_cases he : q' = q
    · subst he
      rw [List.getElem?_set] at hq'
      simp at hq'
      obtain ⟨_, rfl⟩ := hq'
      rw [hc, hR]
      exact own_setCell ho (by simpa [Value.ownBlock] using hgg) _ _
    · rw [List.getElem?_set_ne (Ne.symm he)] at hq'
      rw [(hco q' he).1, (hco q' he).2]
      exact own_setCell (World.ownsRow.kept (h.row q' v' hq') hg (hother q' v' hq' he).2) (h.neq hq') _ _
  · intro q1 q2 v1 v2 h1 h2 hne
    by_cases e1 : q1 = q
    · subst e1
      rw [List.getElem?_set] at h1
      simp at h1
      obtain ⟨_, rfl⟩ := h1
      rw [List.getElem?_set_ne hne] at h2
      exact .inr fun he => (hother q2 v2 h2 (Ne.symm hne)).1 he.symm
    · rw [List.getElem?_set_ne (Ne.symm e1)] at h1
      by_cases e2 : q2 = q
      · subst e2
        rw [List.getElem?_set] at h2
        simp at h2
        obtain ⟨_, rfl⟩ := h2
        exact .inr (hother q1 v1 h1 e1).1
      · rw [List.getElem?_set_ne (Ne.symm e2)] at h2
        exact h.dis q1 q2 v1 v2 h1 h2 hne
theorem Tbl.mid (h : Tbl T e sz w base g vs cnt R) {q : Nat} {v : Value} (hq : vs[q]? = some v) (hg : w.grownBy w1 v.ownBlock) : w1.cell? ⟨g, q, none⟩ = some v ∧ w1.frozen? ⟨g, q, none⟩ = false ∧ w1.heap[g]? = w.heap[g]? := by
  have hb := hg.block g h.lt (Ne.symm (h.neq hq))
  exact ⟨(World.cell?_of_block (a := ⟨g, q, none⟩) hb).trans (h.cell hq), (World.frozen?_of_block (a := ⟨g, q, none⟩) hb).trans (h.free q), hb⟩
theorem Tbl.made (hn : T ≠ e) (w : World) (S : Nat) (g : Nat) (hb : base ≤ g) (hg : w.heap.size = g) : Tbl T e sz (w.alloc (.cells (List.replicate S (Value.slice none 0 0)).toArray T)) base g (List.replicate S (.slice none 0 0)) (fun _ => 0) (fun _ => []) := by
  subst hg
  refine ⟨heap_alloc_new w _, ?_, ?_, hn, hb⟩
  · intro q v hq
    rw [List.getElem?_replicate] at hq
    split at hq <;> cases hq
    exact World.ownsRow_nil _ _ _ _
  · intro q q' v v' hq _ _
    rw [List.getElem?_replicate] at hq
    split at hq <;> cases hq
    exact .inl rfl
end
/-- the table as it is read -/
def RTbl (sz : Nat) (w : World) (g S : Nat) (cnt : Nat → Nat) (R : Nat → List Value) : Prop :=
  g < w.heap.size ∧ ∀ q, q < S → ∃ v, w.cell? ⟨g, q, none⟩ = some v ∧ Rd w sz v (cnt q) (R q)
theorem RTbl.below {sz : Nat} {w w1 : World} {g S : Nat} {cnt : Nat → Nat} {R : Nat → List Value} (h : RTbl sz w g S cnt R) (hb : Below w.heap.size w w1) : RTbl sz w1 g S cnt R := by
  refine ⟨by have := hb.size; have := h.1; omega, fun q hq => ?_⟩
  obtain ⟨v, h1, h2⟩ := h.2 q hq
  exact ⟨v, (hb.cell h.1).trans h1, h2.below hb⟩
theorem Tbl.rd {T e : TypeId} {sz : Nat} {w : World} {base g : Nat} {vs : List Value} {cnt : Nat → Nat} {R : Nat → List Value} (h : Tbl T e sz w base g vs cnt R) : RTbl sz w g vs.length cnt R := by
  refine ⟨h.lt, fun q hq => ?_⟩
  exact ⟨vs[q], h.cell (List.getElem?_eq_getElem hq), Rd.own (h.row q _ (List.getElem?_eq_getElem hq))⟩
end Go.Proofs.Ytdijlakeonionaa

/-
  The arguments of the statements, opened: lists of ints, transducers, pairs.
-/
namespace Go.Proofs.Ytdijlakeonionaa
open Go.ChangeShapes Go.WideShapes Go.ChangeAt Go.RowKit Go.Deep Go.Joins
theorem rdI_nil (w : World) : RdI w (.slice none 0 0) [] := ⟨none, 0, rfl, by simp, by decide, rfl, fun h => absurd h (Nat.lt_irrefl 0)⟩
theorem RdI.alloc {w : World} {v : Value} {xs : List Int} (h : RdI w v xs) (o : Obj) : RdI (w.alloc o) v xs := Rd.alloc h o
theorem RdF.alloc {w : World} {v : Value} {F : PFst} (h : RdF w v F) (o : Obj) : RdF (w.alloc o) v F := h.below ((Below.refl _ _).alloc (Nat.le_refl _) _)
theorem FBlk.alloc {w : World} {R : Nat} {x y z : Value} (h : FBlk w R x y z) (o : Obj) : FBlk (w.alloc o) R x y z := h.below ((Below.refl _ _).alloc (Nat.le_refl _) _)
theorem ownK : ownKnob Try.prog.godebug = none := by kernel_rfl
theorem laidOut : laidOutB Try.prog = true := by kernel_rfl
theorem add_none {b off j : Nat} : (⟨b, off, none⟩ : Addr).add j = ⟨b, off + j, none⟩ := by unfold Addr.add; split <;> simp_all
section
variable {H : Type} {enc : TypeId × Value → H} {w : World} {base : Nat} {spare : Nat → Bool} {held : Bool}
theorem open_slice_fields {P : Program} {t e : TypeId} {fs : Array Field} {fuel : Nat} {cs : List Value} {x : DataW H × List MemPlace} (ht : P.underlying t = some (.slice e)) (he : P.underlying e = some (.struct fs))
    (hone : oneCellFields P fs = true) (hC : P.cellsOf e = fs.size) (h : DataW.trod enc P w base spare held fuel t cs = some x) :
    (cs = [.slice none 0 0]) ∨
    ∃ (a : Addr) (len cap : Nat), cs = [.slice (some a) len cap] ∧ len ≤ cap ∧ cap ≤ maxLen ∧
      ∀ i, i < len → ∀ (j : Nat) (f : Field), fs[j]? = some f → ∃ (v : Value) (y : DataW H × List MemPlace) (n : Nat), w.cell? (a.add (i * fs.size + j)) = some v ∧ DataW.trod enc P w base spare held n f.type [v] = some y := by
  rcases open_slice ht h with h0 | ⟨a, len, cap, m, n, D, Pl, hcs, hb, hl, hm, hmm, hx, hi⟩
  · exact .inl h0.1
  · refine .inr ⟨a, len, cap, hcs, hl, hm, fun i him j f hj => ?_⟩
    have him' : i < m := by rw [hmm]; split <;> omega
    obtain ⟨cs', hc, ht'⟩ := hi i him'
    rw [hC] at hc
    obtain ⟨ys, n', hn', hy, hlen, hyl, hf⟩ := DataW.trod_struct he ht'
    obtain ⟨_, hcl, hat⟩ := World.cells?_some hc
    obtain ⟨ho, hk⟩ := hone_of hone j f hj
    have hjl : j < fs.size := (Array.getElem?_eq_some_iff.1 hj).1
    have hcell := hat j hjl
    have hv : cs'[j]? = some (cs'[j]'(by omega)) := List.getElem?_eq_getElem (by omega)
    have h1 := hf j f hj
    rw [ho, hk] at h1
    have hone' : (cs'.drop j).take 1 = [cs'[j]'(by omega)] := by
      rw [List.drop_eq_getElem_cons (by omega)]
      rfl
    rw [hone'] at h1
    have hys : ys[j]? = some (ys[j]'(by omega)) := List.getElem?_eq_getElem (by omega)
    refine ⟨_, _, n', ?_, h1.trans hys⟩
    rw [← Go.Deep.add_add, hcell, hv]
theorem open_I {fuel : Nat} {v : Value} {x : DataW H × List MemPlace} (h : DataW.trod enc Try.prog w base spare held fuel 25 [v] = some x) : ∃ xs, RdI w v xs := by
  rcases open_ints Try.underlying25 Try.underlying3 (by kernel_rfl) h with ⟨hcs, _⟩ | ⟨a, l, c, zs, hcs, _, hl, hm, hz, _, hcell, hwz⟩
  · simp at hcs
    subst hcs
    exact ⟨[], rdI_nil w⟩
  · simp at hcs
    subst hcs
    have hzl : l ≤ zs.length := by rw [hz]; split <;> omega
    have hlen : (zs.take l).length = l := by simp; omega
    refine ⟨zs.take l, some a, c, by rw [hlen], by rw [hlen]; exact hl, by unfold maxLen at hm; exact hm, by simp, fun hn => ?_⟩
    rw [hlen] at hn
    obtain ⟨b, off, spot⟩ := a
    have hc := hcell 0 (by omega)
    have hspot : spot = none := by simpa [Addr.add] using World.cell?_spot hc
    subst hspot
    refine ⟨b, off, rfl, World.block_lt_of_cell? w _ hc, fun j u hu => ?_⟩
    simp only [List.getElem?_map, Option.map_eq_some_iff] at hu
    obtain ⟨z, hz1, rfl⟩ := hu
    rw [List.getElem?_take] at hz1
    split at hz1
    · have h2 := hcell j (by omega)
      rw [add_none] at h2
      rw [h2]
      simp [List.getD, hz1]
    · cases hz1
theorem open_int1 {fuel : Nat} {v : Value} {x : DataW H × List MemPlace} (h : DataW.trod enc Try.prog w base spare held fuel 3 [v] = some x) : ∃ n : Int, v = .int .i64 n := by
  obtain ⟨n, h1, _⟩ := DataW.trod_int Try.underlying3 h
  simp at h1
  exact ⟨n, h1⟩
theorem list_of {α : Type} (n : Nat) (P : Nat → α → Prop) (h : ∀ i, i < n → ∃ x, P i x) : ∃ l : List α, l.length = n ∧ ∀ i x, l[i]? = some x → P i x := by
  induction n with
  | zero => exact ⟨[], rfl, fun i x hx => by simp at hx⟩
  | succ n ih =>
    obtain ⟨l, hl, hp⟩ := ih fun i hi => h i (by omega)
    obtain ⟨x, hx⟩ := h n (by omega)
    refine ⟨l ++ [x], by simp [hl], fun i y hy => ?_⟩
    by_cases hi : i < l.length
    · rw [List.getElem?_append_left hi] at hy; exact hp i y hy
    · rw [List.getElem?_append_right (by omega)] at hy
      by_cases h0 : i - l.length = 0
      · rw [h0] at hy
        simp at hy
        subst hy
        rw [show i = n by omega]; exact hx
      · rw [List.getElem?_eq_none (by simp; omega)] at hy; cases hy
theorem arcCells_at (a : PArc) (j : Nat) (u : Value) (h : (arcCells a)[j]? = some u) : (j = 0 ∧ u = .int .i64 a.fr) ∨ (j = 1 ∧ u = .int .i64 a.inp) ∨ (j = 2 ∧ u = .int .i64 a.out) ∨ (j = 3 ∧ u = .int .i64 a.tgt) := by
  unfold arcCells at h
  match j, h with
  | 0, h => simp at h; exact .inl ⟨rfl, h.symm⟩
  | 1, h => simp at h; exact .inr (.inl ⟨rfl, h.symm⟩)
  | 2, h => simp at h; exact .inr (.inr (.inl ⟨rfl, h.symm⟩))
  | 3, h => simp at h; exact .inr (.inr (.inr ⟨rfl, h.symm⟩))
theorem arcsCells_split (l : List PArc) (j : Nat) (u : Value) (h : (arcsCells l)[j]? = some u) : ∃ a, l[j / 4]? = some a ∧ (arcCells a)[j % 4]? = some u := by
  have hj : j < (arcsCells l).length := (List.getElem?_eq_some_iff.1 h).1
  rw [arcsCells_length] at hj
  have hk : j / 4 < l.length := by omega
  have he := arcsCells_at l (j / 4) hk (j % 4) (Nat.mod_lt _ (by omega))
  rw [show j / 4 * 4 + j % 4 = j by omega, h] at he
  exact ⟨l[j / 4], List.getElem?_eq_getElem hk, he.symm⟩
theorem open_A {fuel : Nat} {v : Value} {x : DataW H × List MemPlace} (h : DataW.trod enc Try.prog w base spare held fuel 46 [v] = some x) : ∃ l, RdA w v l := by
  rcases open_slice_fields Try.underlying46 Try.underlying98 (by kernel_rfl) (by kernel_rfl) h with hcs | ⟨a, len, cap, hcs, hl, hm, hc⟩
  · simp at hcs
    subst hcs
    exact ⟨[], none, 0, rfl, by simp, by decide, rfl, fun h => absurd h (Nat.lt_irrefl 0)⟩
  · simp at hcs
    subst hcs
    obtain ⟨l, hll, hlp⟩ := list_of len (fun i (y : PArc) => w.cell? (a.add (i * 4 + 0)) = some (.int .i64 y.fr) ∧ w.cell? (a.add (i * 4 + 1)) = some (.int .i64 y.inp) ∧ w.cell? (a.add (i * 4 + 2)) = some (.int .i64 y.out) ∧ w.cell? (a.add (i * 4 + 3)) = some (.int .i64 y.tgt)) (fun i hi => by
      obtain ⟨v0, _, _, c0, t0⟩ := hc i hi 0 _ rfl
      obtain ⟨v1, _, _, c1, t1⟩ := hc i hi 1 _ rfl
      obtain ⟨v2, _, _, c2, t2⟩ := hc i hi 2 _ rfl
      obtain ⟨v3, _, _, c3, t3⟩ := hc i hi 3 _ rfl
      obtain ⟨x0, rfl⟩ := open_int1 t0
      obtain ⟨x1, rfl⟩ := open_int1 t1
      obtain ⟨x2, rfl⟩ := open_int1 t2
      obtain ⟨x3, rfl⟩ := open_int1 t3
      exact ⟨⟨x0, x1, x2, x3⟩, c0, c1, c2, c3⟩)
    refine ⟨l, some a, cap, by rw [hll], by rw [hll]; exact hl, by unfold maxLen at hm; exact hm, arcsCells_length l, fun hn => ?_⟩
    obtain ⟨b, off, spot⟩ := a
    have h0 := (hlp 0 l[0] (List.getElem?_eq_getElem hn)).1
    have hspot : spot = none := by simpa [Addr.add] using World.cell?_spot h0
    subst hspot
    refine ⟨b, off, rfl, World.block_lt_of_cell? w _ h0, fun j u hu => ?_⟩
    obtain ⟨y, hy, hu2⟩ := arcsCells_split l j u hu
    obtain ⟨d0, d1, d2, d3⟩ := hlp _ _ hy
    simp only [add_none] at d0 d1 d2 d3
    rcases arcCells_at y _ u hu2 with ⟨e, rfl⟩ | ⟨e, rfl⟩ | ⟨e, rfl⟩ | ⟨e, rfl⟩
    · rw [show j = j / 4 * 4 + 0 by omega]; exact d0
    · rw [show j = j / 4 * 4 + 1 by omega]; exact d1
    · rw [show j = j / 4 * 4 + 2 by omega]; exact d2
    · rw [show j = j / 4 * 4 + 3 by omega]; exact d3
end
end Go.Proofs.Ytdijlakeonionaa

/-
  A map whose keys are the configurations of Accepts, and a row of configurations.
-/
namespace Go.Proofs.Ytdijlakeonionaa
open Go.ChangeShapes Go.WideShapes Go.ChangeAt Go.RowKit
open Go.Maps (Keyed)
set_option maxRecDepth 100000
structure Cfg where
  q : Int
  i : Int
  k : Int
  deriving DecidableEq
def InI (n : Int) : Prop := -9223372036854775808 ≤ n ∧ n ≤ 9223372036854775807
theorem wf_in {n : Int} (h : InI n) : (Lit.int .i64 n).wf = true :=
  WalkArith.wf_i64 h
structure Cfg.Wf (c : Cfg) : Prop where
  q : InI c.q
  i : InI c.i
  k : InI c.k
end Go.Proofs.Ytdijlakeonionaa

