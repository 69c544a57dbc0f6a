/-
  Accepts of the reference.
-/
import Derived.Test.YtmejihlplbeekaaT4
namespace Go.Proofs.Ytmejihlplbeekaa
open Go.ChangeShapes Go.WideShapes Go.ChangeAt Go.RowKit

/-- block g holds the bools M -/
def Bls (w : World) (g : Nat) (M : List Bool) : Prop := w.heap[g]? = some (.cells (M.map Value.bool).toArray 4 (0, 0))
theorem Bls.lt {w : World} {g : Nat} {M : List Bool} (h : Bls w g M) : g < w.heap.size := (Array.getElem?_eq_some_iff.1 h).1
theorem Bls.cell {w : World} {g : Nat} {M : List Bool} (h : Bls w g M) {j : Nat} (hj : j < M.length) : w.cell? ⟨g, j, none⟩ = some (.bool (M.getD j false)) := by
  rw [cell_of_row w g j _ _ (0, 0) h]
  simp [hj]
theorem Bls.free {w : World} {g : Nat} {M : List Bool} (h : Bls w g M) (j : Nat) : w.frozen? ⟨g, j, none⟩ = false := by
  unfold Bls at h
  simp [World.frozen?, h]
theorem Bls.set_ {w : World} {g : Nat} {M : List Bool} (h : Bls w g M) (j : Nat) : Bls (w.setCell ⟨g, j, none⟩ (.bool true)) g (M.set j true) := by
  unfold Bls at h ⊢
  simp [World.setCell, Array.getElem?_modify, h, List.map_set]
theorem Bls.drewN {w : World} {g : Nat} {M : List Bool} (h : Bls w g M) (n : Nat) : Bls (w.drewN n) g M := h
theorem Bls.alloc {w : World} {g : Nat} {M : List Bool} (h : Bls w g M) (o : Obj) : Bls (w.alloc o) g M := (Below.heap_alloc w o g h.lt).trans h

def bArr (M : List Bool) : Array Value := (M.map Value.bool).toArray
theorem made_bools (n : Nat) : madeCells (Value.bool false).cells (n * 1) = bArr (List.replicate n false) := by
  have h := toList_madeCells_one (.bool false) n
  rw [Nat.mul_one]
  apply Array.toList_inj.1
  rw [show (Value.bool false).cells = #[Value.bool false] from rfl, h, bArr]
  simp
theorem bArr_set (M : List Bool) (j : Nat) : (bArr M).setIfInBounds j (.bool true) = bArr (M.set j true) := by simp [bArr, List.map_set]
theorem bArr_zero (n : Nat) (h : 1 ≤ n) : (bArr (List.replicate n false))[0]? = some (.bool false) := by
  obtain ⟨k, rfl⟩ : ∃ k, n = k + 1 := ⟨n - 1, by omega⟩
  simp [bArr, List.replicate_succ]
theorem stf_len (xs ys : List Int) (a : PArc) (i k : Nat) (s : List Bool × Bool) : (stf xs ys a i k s).1.length = s.1.length := by unfold stf; split <;> simp
theorem rowF_len (xs ys : List Int) (a : PArc) (i K : Nat) (s : List Bool × Bool) : (rowF xs ys a i K s).1.length = s.1.length := by
  induction K with
  | zero => rfl
  | succ K ih => rw [rowF_succ, stf_len, ih]
theorem arcF_len (xs ys : List Int) (a : PArc) (I : Nat) (s : List Bool × Bool) : (arcF xs ys a I s).1.length = s.1.length := by
  induction I with
  | zero => rfl
  | succ I ih => rw [arcF_succ, rowF_len, ih]
theorem RdI.drewN {w : World} {v : Value} {xs : List Int} (h : RdI w v xs) (k : Nat) : RdI (w.drewN k) v xs := h
/-- the outer loop's word -/
def R1 (F : PFst) (xs ys : List Int) (w0 : World) (g gk : Nat) (b : Bool) (wr : World) : Prop :=
  ∃ M, Bls wr g M ∧ Inv F xs ys M ∧ (b = false → Closed F xs ys M) ∧ Below w0.heap.size w0 wr ∧ gk = 2 * cf M + (if b then 1 else 0)
/-- an inner loop's word: the table is T, the flag is b -/
def R2 (w0 : World) (g sz : Nat) (s : List Bool × Bool) (b : Bool) (wr : World) : Prop :=
  s.2 = b ∧ s.1.length = sz ∧ Bls wr g s.1 ∧ Below w0.heap.size w0 wr
def ABlk (w : World) (ga : Nat) (x0 x1 x2 x3 : Int) : Prop := w.heap[ga]? = some (.cells #[.int .i64 x0, .int .i64 x1, .int .i64 x2, .int .i64 x3] 42 (0, 0))
theorem ABlk.cells {w : World} {ga : Nat} {x0 x1 x2 x3 : Int} (h : ABlk w ga x0 x1 x2 x3) : w.cell? ⟨ga, 0, none⟩ = some (.int .i64 x0) ∧ w.cell? ⟨ga, 1, none⟩ = some (.int .i64 x1) ∧ w.cell? ⟨ga, 2, none⟩ = some (.int .i64 x2) ∧ w.cell? ⟨ga, 3, none⟩ = some (.int .i64 x3) := by
  refine ⟨?_, ?_, ?_, ?_⟩ <;> rw [cell_of_row w ga _ _ _ (0, 0) h] <;> rfl
theorem ABlk.far {w : World} {ga g j : Nat} {x0 x1 x2 x3 : Int} {u : Value} (h : ABlk w ga x0 x1 x2 x3) (hne : ga ≠ g) : ABlk (w.setCell ⟨g, j, none⟩ u) ga x0 x1 x2 x3 := (Below.heap_setCell w ⟨g, j, none⟩ u ga hne).trans h
theorem stf_no (xs ys : List Int) (a : PArc) (i k : Nat) (T : List Bool) (b : Bool) (h : stepOk xs i a.inp = false ∨ stepOk ys k a.out = false ∨ T.getD (idx (xs.length + 1) (ys.length + 1) a.fr.toNat i k) false = false) : stf xs ys a i k (T, b) = (T, b) := by
  unfold stf
  rw [if_neg]
  simp only [Bool.and_eq_true, not_and]
  intro h1 h2
  rcases h with h | h | h
  · rw [h] at h1; cases h1.1
  · rw [h] at h1; cases h1.2
  · rw [h] at h2; cases h2
theorem stf_yes (xs ys : List Int) (a : PArc) (i k : Nat) (T : List Bool) (b : Bool) (h1 : stepOk xs i a.inp = true) (h2 : stepOk ys k a.out = true) (h3 : T.getD (idx (xs.length + 1) (ys.length + 1) a.fr.toNat i k) false = true) :
    stf xs ys a i k (T, b) = (T.set (idx (xs.length + 1) (ys.length + 1) a.tgt.toNat (i + stepD a.inp) (k + stepD a.out)) true, b || !T.getD (idx (xs.length + 1) (ys.length + 1) a.tgt.toNat (i + stepD a.inp) (k + stepD a.out)) false) := by
  unfold stf
  rw [if_pos (by simp [h1, h2]; simpa using h3)]
theorem infoB0 : (Try.prog.info? 4).map (fun i => (i.zero, i.size, i.bytes)) = some (some (.bool false), 1, 1) := by kernel_rfl
theorem infoB : ∃ i, Try.prog.info? 4 = some i ∧ i.zero = some (.bool false) ∧ i.size = 1 ∧ i.bytes = 1 := by
  obtain ⟨i0, hi, hz0, hz1, hz2⟩ := info_parts infoB0
  exact ⟨i0, hi, hz0, hz1, hz2⟩
theorem run_make_rowN {P : Program} (t e : TypeId) (i : TypeInfo) (z : Value) (ht : P.underlying t = some (.slice e)) (hi : P.info? e = some i) (hz : i.zero = some z)
    (kl kc : IntKind) (n c : Nat) (hnc : n ≤ c) (hbytes : i.bytes * c ≤ 281474976710656) (h63 : c ≤ 9223372036854775807) (w : World) :
    (Instr.makeSlice t (.int kl (n : Int)) (.int kc (c : Int))).run P w = .ok (.slice (some ⟨w.heap.size, 0, none⟩) n c) (w.alloc (.cells (madeCells z.cells (c * i.size)) e)) := by
  have hb : (i.bytes : Int) * (c : Int) ≤ 281474976710656 := by
    have h : ((i.bytes * c : Nat) : Int) ≤ 281474976710656 := by omega
    rwa [Int.natCast_mul] at h
  have hr := run_make (P := P) w t e i z ht hi hz kl kc n c (by omega) (by omega) hb (by omega)
  simp only [Int.toNat_natCast] at hr
  exact hr
set_option maxHeartbeats 4000000 in
set_option maxRecDepth 100000 in
theorem accepts_any (v vx vy : Value) (F : PFst) (xs ys : List Int) (w : World) (hv : RdF w v F) (hx : RdI w vx xs) (hy : RdI w vy ys) (hR : Right F) (hS : F.states ≤ 4096) (hX : xs.length ≤ 1000) (hY : ys.length ≤ 1000) :
    Calls Try.prog 18 #[v, vx, vy] w fun e w' => e = .returned (.bool (accB F xs ys)) ∧ Below w.heap.size w w' := by
  obtain ⟨va, vf, rfl, ha, hf⟩ := hv
  obtain ⟨A, n, c, rfl, h1, h2, hn, hr⟩ := ha.op
  obtain ⟨A', n', c', rfl, h1', h2', hn', hr'⟩ := hf.op
  obtain ⟨Ax, nx, cx, rfl, h1x, h2x, hnx, hrx⟩ := hx.op
  obtain ⟨Ay, ny, cy, rfl, h1y, h2y, hny, hry⟩ := hy.op
  rw [hnx.out] at hX
  rw [hny.out] at hY
  have Hf := Lib.hid hf
  have Ha := Lib.hid ha
  have Hx := Lib.hid hx
  have Hy := Lib.hid hy
  have HR := Lib.hid hR
  clear hf ha hx hy hR
  cases hpx : plainB xs
  · have HA := Lib.hid (accB_no F xs ys (.inl hpx))
    go_enter Try.func18, Try.ntmps18
    go_wp2_with (first | (go_at_call 38; refine (plain_any _ xs _ (Rd.alloc Hx.out _)).mono ?_; rintro e w1 ⟨rfl, rfl⟩))
    go_ret
    exact ⟨by rw [HA.out]; rfl, by repeat (first | assumption | exact Below.refl _ _ | refine Below.alloc ?_ (by first | omega | (simp; done) | (simp; omega)) _ | refine Below.drew ?_ | refine below_drewN ?_ _ | refine Below.setCell ?_ (by first | omega | (simp; done) | (simp; omega)) _)⟩
  cases hpy : plainB ys
  · have HA := Lib.hid (accB_no F xs ys (.inr hpy))
    go_enter Try.func18, Try.ntmps18
    go_wp2_with fail
    refine (plain_any _ xs _ (Rd.alloc Hx.out _)).mono ?_
    rintro e w1 ⟨rfl, rfl⟩
    go_wp2_with fail
    refine (plain_any _ ys _ (Rd.alloc Hy.out _)).mono ?_
    rintro e w1 ⟨rfl, rfl⟩
    go_wp2_with fail
    go_ret
    exact ⟨by rw [HA.out]; rfl, by repeat (first | assumption | exact Below.refl _ _ | refine Below.alloc ?_ (by first | omega | (simp; done) | (simp; omega)) _ | refine Below.drew ?_ | refine below_drewN ?_ _ | refine Below.setCell ?_ (by first | omega | (simp; done) | (simp; omega)) _)⟩
  obtain ⟨SN, hSN⟩ : ∃ SN : Nat, F.states = (SN : Int) := ⟨F.states.toNat, by have := HR.out.1; omega⟩
  have hS1 : 1 ≤ SN := by have := HR.out.1; omega
  have hS2 : SN ≤ 4096 := by omega
  have HSN := Lib.hid hSN
  clear hS
  rw [hSN]
  clear hSN
  obtain ⟨p1, hp1⟩ : ∃ p1 : Nat, (SN : Int) * ((nx : Int) + 1) = (p1 : Int) := ⟨SN * (nx + 1), by simp⟩
  obtain ⟨sz, hsz⟩ : ∃ sz : Nat, (p1 : Int) * ((ny : Int) + 1) = (sz : Int) := ⟨p1 * (ny + 1), by simp⟩
  have Hsz : Hid (size F xs ys = sz) := by
    have e1 : p1 = SN * (nx + 1) := by exact_mod_cast hp1.symm
    have e2 : sz = p1 * (ny + 1) := by exact_mod_cast hsz.symm
    rw [Hid, size, HSN.out, hnx.out, hny.out, e2, e1]
    simp
  have hp1b : p1 ≤ 4100096 := by
    have e1 : p1 = SN * (nx + 1) := by exact_mod_cast hp1.symm
    rw [e1]; exact Nat.mul_le_mul hS2 (by omega : nx + 1 ≤ 1001)
  have hszb : sz ≤ 4104196096 := by
    have e2 : sz = p1 * (ny + 1) := by exact_mod_cast hsz.symm
    rw [e2]; exact Nat.mul_le_mul hp1b (by omega : ny + 1 ≤ 1001)
  have hsz1 : 1 ≤ sz := by
    have := inv_start (xs := xs) (ys := ys) HR.out
    have e2 : sz = p1 * (ny + 1) := by exact_mod_cast hsz.symm
    have e1 : p1 = SN * (nx + 1) := by exact_mod_cast hp1.symm
    have : 0 < SN * (nx + 1) * (ny + 1) := Nat.mul_pos (Nat.mul_pos (by omega) (by omega)) (by omega)
    rw [e2, e1]; exact this
  have hmk := fun W => run_make_rowN (P := Try.prog) 57 4 infoB.choose (.bool false) Try.underlying57 infoB.choose_spec.1 infoB.choose_spec.2.1 .i64 .i64 sz sz (Nat.le_refl _) (by rw [infoB.choose_spec.2.2.2]; omega) (by omega) W
  rw [infoB.choose_spec.2.2.1, made_bools] at hmk
  have hm0 := bArr_zero sz hsz1
  go_enter Try.func18, Try.ntmps18
  go_wp2_with fail
  refine (plain_any _ xs _ (Rd.alloc Hx.out _)).mono ?_
  rintro e w1 ⟨rfl, rfl⟩
  go_wp2_with fail
  refine (plain_any _ ys _ (Rd.alloc Hy.out _)).mono ?_
  rintro e w1 ⟨rfl, rfl⟩
  go_wp2_with fail
  generalize hw0 : World.alloc w _ = w0
  have hz : w0.heap.size = w.heap.size + 1 := by rw [← hw0]; simp
  have b0 : w0.cell? ⟨w.heap.size, 0, none⟩ = some (.int .i64 SN) := by rw [← hw0]; simp [go_sem]
  have b1 : w0.cell? ⟨w.heap.size, 1, none⟩ = some (.slice A n c) := by rw [← hw0]; simp [go_sem]
  have b2 : w0.cell? ⟨w.heap.size, 2, none⟩ = some (.slice A' n' c') := by rw [← hw0]; simp [go_sem]
  have HB0 : Hid (Below w.heap.size w w0) := by rw [← hw0]; exact (Below.refl _ _).alloc (Nat.le_refl _) _
  generalize hg : w.heap.size + 1 = g
  have hgw : w.heap.size < g := by omega
  have HZ : Hid (w0.heap.size = g) := by rw [Hid, hz, hg]
  clear hw0 hz hg hmk hm0
  go_loopg [10] (2 * cf ((List.replicate sz false).set 0 true) + 1) (fun gk more wr => ∃ b, more = .bool b ∧ R1 F xs ys w0 g gk b wr)
  case atStart =>
    refine ⟨true, rfl, (List.replicate sz false).set 0 true, ?_, ?_, (fun h => by cases h), ?_, rfl⟩
    · rw [bArr_set, ← HZ.out]; exact heap_alloc_new w0 _
    · have := inv_start (xs := xs) (ys := ys) HR.out; rw [Hsz.out] at this; exact this
    · exact (Below.refl _ _).alloc (Nat.le_refl _) _
  case round =>
    obtain ⟨b, rfl, M, hM, hI, hC, hB, hg⟩ := hrel
    have HM := Lib.hid hM
    have HI := Lib.hid hI
    have HC := Lib.hid hC
    have HG := Lib.hid hg
    have HB := Lib.hid hB
    clear hM hI hC hg hB
    have c0 := (HB.out.cell (p := ⟨w.heap.size, 0, none⟩) (by rw [HZ.out]; exact hgw)).trans b0
    have c1 := (HB.out.cell (p := ⟨w.heap.size, 1, none⟩) (by rw [HZ.out]; exact hgw)).trans b1
    have c2 := (HB.out.cell (p := ⟨w.heap.size, 2, none⟩) (by rw [HZ.out]; exact hgw)).trans b2
    have hgl : g < wr.heap.size := HM.out.lt
    have HBw := Lib.hid (bchain HB0.out HB.out)
    cases b
    · have HA := Lib.hid (accB_of HR.out HI.out (HC.out rfl) hpx hpy)
      go_wp2_with fail
      obtain ⟨wo, rfl⟩ : ∃ wo : World, wo = wr := ⟨_, rfl⟩
      have HL : Hid (M.length = sz) := by rw [Hid, HI.out.1, Hsz.out]
      go_loopg [20] n' (fun gk i wx => wo = wx ∧ ∃ j : Nat, j ≤ n' ∧ gk = n' - j ∧ i = .int .i64 j ∧ Hid (accB F xs ys = (F.final.drop j).any (fun q => at3 xs ys M q.toNat xs.length ys.length)))
      case atStart => exact ⟨rfl, 0, Nat.zero_le _, rfl, rfl, by rw [Hid, ← HA.out]; rfl⟩
      case round =>
        obtain ⟨rfl, j, hj, hgj, rfl, HP⟩ := hrel
        have HGJ := Lib.hid hgj
        clear hgj
        by_cases hlt : j < n'
        · obtain ⟨b, off, x, rfl, hb, hdr, e0⟩ := (hr'.out j hlt).below HBw.out
          have hxm : x ∈ F.final := by
            have : x ∈ F.final.drop j := by rw [hdr.out]; simp
            exact List.mem_of_mem_drop this
          obtain ⟨hx0, hxS⟩ := HR.out.2.2 x hxm
          obtain ⟨q, rfl⟩ : ∃ q : Nat, x = (q : Int) := ⟨x.toNat, by omega⟩
          have hqS : q < SN := by have := HSN.out; omega
          clear hx0 hxS hxm
          obtain ⟨p2, hp2⟩ : ∃ p2 : Nat, (q : Int) * ((nx : Int) + 1) = (p2 : Int) := ⟨q * (nx + 1), by simp⟩
          obtain ⟨p3, hp3⟩ : ∃ p3 : Nat, ((p2 : Int) + ((nx : Int) + 1) - 1) * ((ny : Int) + 1) = (p3 : Int) := ⟨(p2 + nx) * (ny + 1), by rw [show (p2 : Int) + ((nx : Int) + 1) - 1 = ((p2 + nx : Nat) : Int) by omega]; simp⟩
          have hix : p3 + ny = idx (xs.length + 1) (ys.length + 1) q xs.length ys.length := by
            have e1 : p2 = q * (nx + 1) := by exact_mod_cast hp2.symm
            have e2 : p3 = (p2 + nx) * (ny + 1) := by rw [show (p2 : Int) + ((nx : Int) + 1) - 1 = ((p2 + nx : Nat) : Int) by omega] at hp3; exact_mod_cast hp3.symm
            rw [idx, hnx.out, hny.out, e2, e1]
          have hil : p3 + ny < sz := by
            rw [hix, ← Hsz.out, size]; exact idx_lt (by have := HSN.out; omega) (by omega) (by omega)
          have hp2b : p2 ≤ p3 := by
            have e2 : p3 = (p2 + nx) * (ny + 1) := by rw [show (p2 : Int) + ((nx : Int) + 1) - 1 = ((p2 + nx : Nat) : Int) by omega] at hp3; exact_mod_cast hp3.symm
            rw [e2]; exact Nat.le_trans (Nat.le_add_right p2 nx) (Nat.le_mul_of_pos_right _ (by omega))
          have hck := HM.out.cell (j := p3 + ny) (by rw [HL.out]; exact hil)
          have HV : Hid (M.getD (p3 + ny) false = at3 xs ys M q xs.length ys.length) := by rw [Hid, hix]; rfl
          have hck2 : wo.cell? ⟨g, p3 + (ny + 1) - 1, none⟩ = some (.bool (M.getD (p3 + ny) false)) := hck
          have HIX := Lib.hid hix
          clear hix
          have HP2 : Hid (accB F xs ys = (at3 xs ys M q xs.length ys.length || (F.final.drop (j + 1)).any (fun q => at3 xs ys M q.toNat xs.length ys.length))) := by rw [Hid, HP.out, hdr.out]; rfl
          generalize M.getD (p3 + ny) false = mv at hck hck2 HV
          cases mv
          · go_wp2_with fail
            go_roundg (n' - (j + 1))
            case measure => rw [HGJ.out]; omega
            case rel => exact ⟨rfl, j + 1, by omega, rfl, by go_num, by rw [Hid, HP2.out, ← HV.out]; rfl⟩
          · go_wp2_with fail
            go_ret
            exact ⟨by rw [HP2.out, ← HV.out]; rfl, HBw.out⟩
        · go_wp2_with fail
          go_ret
          exact ⟨by rw [HP.out, List.drop_of_length_le (by rw [hn'.out]; omega)]; rfl, HBw.out⟩
    · have HL : Hid (M.length = sz) := by rw [Hid, HI.out.1, Hsz.out]
      go_wp2_with fail
      obtain ⟨wo, rfl⟩ : ∃ wo : World, wo = wr := ⟨_, rfl⟩
      clear c0 c1 c2 hgl
      go_loopg [10, 11] n (fun gk more x wx => ∃ (j : Nat) (b : Bool), j ≤ n ∧ gk = n - j ∧ x = .int .i64 j ∧ more = .bool b ∧ R2 w0 g sz (passF xs ys (F.arcs.take j) (M, false)) b wx)
      case atStart => exact ⟨0, false, Nat.zero_le _, rfl, rfl, rfl, rfl, HL.out, HM.out, HB.out⟩
      case round =>
        obtain ⟨j, b, hj, hgj, rfl, rfl, hb2, hl2, hm2, hB2⟩ := hrel
        generalize hs2 : passF xs ys (F.arcs.take j) (M, false) = s2 at hb2 hl2 hm2
        have HS2 := Lib.hid hs2
        have HGJ := Lib.hid hgj
        have HB2 := Lib.hid hB2
        have Hb2 := Lib.hid hb2
        have Hl2 := Lib.hid hl2
        have Hm2 := Lib.hid hm2
        clear hs2 hgj hb2 hl2
        have c1 := (HB2.out.cell (p := ⟨w.heap.size, 1, none⟩) (by rw [HZ.out]; exact hgw)).trans b1
        have hgl : g < wr.heap.size := hm2.lt
        have HBw2 := Lib.hid (bchain HB0.out HB2.out)
        clear hm2 hB2
        by_cases hlt : j < n
        · obtain ⟨bb, off, x0, x1, x2, x3, rfl, hbb, hdr, e0, e1, e2, e3⟩ := (hr.out j hlt).below HBw2.out
          have ham : (⟨x0, x1, x2, x3⟩ : PArc) ∈ F.arcs := by
            have : (⟨x0, x1, x2, x3⟩ : PArc) ∈ F.arcs.drop j := by rw [hdr.out]; simp
            exact List.mem_of_mem_drop this
          obtain ⟨y0, y1, y2, y3⟩ := HR.out.2.1 _ ham
          simp only at y0 y1 y2 y3
          obtain ⟨q0, rfl⟩ : ∃ q : Nat, x0 = (q : Int) := ⟨x0.toNat, by omega⟩
          obtain ⟨q3, rfl⟩ : ∃ q : Nat, x3 = (q : Int) := ⟨x3.toNat, by omega⟩
          have hq0 : q0 < SN := by have := HSN.out; omega
          have hq3 : q3 < SN := by have := HSN.out; omega
          clear y0 y1 y2 y3 ham
          have HT : Hid (F.arcs.take (j + 1) = F.arcs.take j ++ [⟨(q0 : Int), x1, x2, (q3 : Int)⟩]) := by
            have hl : j < F.arcs.length := by rw [hn.out]; exact hlt
            have h := hdr.out
            rw [List.drop_eq_getElem_cons hl] at h
            rw [Hid, List.take_succ_eq_append_getElem hl, (List.cons.inj h).1]
          generalize hpa : (⟨(q0 : Int), x1, x2, (q3 : Int)⟩ : PArc) = pa at HT
          have Hpa := Lib.hid hpa
          clear hpa
          have hdj : decide (j < n) = true := by simpa using hlt
          have hdj2 : decide ((j : Int) < (n : Int)) = true := by simpa using hlt
          go_wp2_with fail
          obtain ⟨wp, rfl⟩ : ∃ wp : World, wp = wr := ⟨_, rfl⟩
          generalize hwa : World.alloc wp _ = wa
          have HAb : Hid (ABlk wa wp.heap.size (q0 : Int) x1 x2 (q3 : Int)) := by rw [← hwa]; exact heap_alloc_new wp _
          have HBa : Hid (Below w0.heap.size w0 wa) := by rw [← hwa]; exact HB2.out.alloc (by have := HB2.out.size; exact this) _
          have HMa : Hid (Bls wa g s2.1) := by rw [← hwa]; exact Hm2.out.alloc _
          clear hwa e0 e1 e2 e3 c1
          generalize hga : wp.heap.size = ga at *
          clear hga
          go_loopg [10, 13] (nx + 1) (fun gk more i wy => ∃ (ii : Nat) (b : Bool), ii ≤ nx + 1 ∧ gk = nx + 1 - ii ∧ i = .int .i64 ii ∧ more = .bool b ∧ R2 w0 g sz (arcF xs ys pa ii s2) b wy ∧ ABlk wy ga (q0 : Int) x1 x2 (q3 : Int))
          case atStart => exact ⟨0, b, Nat.zero_le _, rfl, rfl, rfl, ⟨Hb2.out, Hl2.out, HMa.out, HBa.out⟩, HAb.out⟩
          case round =>
            obtain ⟨ii, b', hi, hgi, rfl, rfl, ⟨hb3, hl3, hm3, hB3⟩, hA3⟩ := hrel
            generalize hs3 : arcF xs ys pa ii s2 = s3 at hb3 hl3 hm3
            have HS3 := Lib.hid hs3
            have HGI := Lib.hid hgi
            have HB3 := Lib.hid hB3
            have Hb3 := Lib.hid hb3
            have Hl3 := Lib.hid hl3
            have Hm3 := Lib.hid hm3
            have HA3 := Lib.hid hA3
            clear hs3 hgi hB3 hb3 hl3 hm3 hA3
            by_cases hlti : ii < nx + 1
            · have hdi : decide ((ii : Int) < (nx : Int) + 1) = true := by simp; omega
              go_wp2_with fail
              obtain ⟨wq, rfl⟩ : ∃ wq : World, wq = wr := ⟨_, rfl⟩
              go_loopg [10, 14] (ny + 1) (fun gk more k wz => ∃ (kk : Nat) (b : Bool), kk ≤ ny + 1 ∧ gk = ny + 1 - kk ∧ k = .int .i64 kk ∧ more = .bool b ∧ R2 w0 g sz (rowF xs ys pa ii kk s3) b wz ∧ ABlk wz ga (q0 : Int) x1 x2 (q3 : Int))
              case atStart => exact ⟨0, b', Nat.zero_le _, rfl, rfl, rfl, ⟨Hb3.out, Hl3.out, Hm3.out, HB3.out⟩, HA3.out⟩
              case round =>
                obtain ⟨kk, b4, hk, hgk, rfl, rfl, ⟨hb4, hl4, hm4, hB4⟩, hA4⟩ := hrel
                generalize hs4 : rowF xs ys pa ii kk s3 = s4 at hb4 hl4 hm4
                obtain ⟨T, bT⟩ := s4
                simp only at hb4 hl4 hm4
                subst hb4
                obtain ⟨b4, rfl⟩ : ∃ b4 : Bool, b4 = bT := ⟨_, rfl⟩
                have HS4 := Lib.hid hs4
                have HGK := Lib.hid hgk
                have HB4 := Lib.hid hB4
                have Hl4 := Lib.hid hl4
                have Hm4 := Lib.hid hm4
                have HA4 := Lib.hid hA4
                have HX4 := Lib.hid (Hx.out.below (bchain HB0.out hB4))
                have HY4 := Lib.hid (Hy.out.below (bchain HB0.out hB4))
                obtain ⟨a0, a1, a2, a3⟩ := hA4.cells
                have hgl4 : g < wr.heap.size := hm4.lt
                clear hs4 hgk hB4 hl4 hm4 hA4
                by_cases hltk : kk < ny + 1
                · cases ho1 : stepOk xs ii x1
                  · go_wp2_with fail
                    refine (step_any _ xs ii x1 _ HX4.out).mono ?_
                    rintro e w1 ⟨rfl, nq1, rfl⟩
                    go_wp2_with fail
                    refine (step_any _ ys kk x2 _ (RdI.drewN HY4.out _)).mono ?_
                    rintro e w1 ⟨rfl, nq2, rfl⟩
                    go_wp2_with fail
                    go_roundg (ny + 1 - (kk + 1))
                    case measure => rw [HGK.out]; omega
                    case rel =>
                      refine ⟨kk + 1, b4, by omega, rfl, by go_num, rfl, ?_, HA4.out⟩
                      rw [rowF_succ, HS4.out, stf_no xs ys pa ii kk T b4 (.inl (by rw [← Hpa.out]; exact ho1))]
                      exact ⟨rfl, Hl4.out, Hm4.out, below_drewN HB4.out _⟩
                  cases ho2 : stepOk ys kk x2
                  · go_wp2_with fail
                    refine (step_any _ xs ii x1 _ HX4.out).mono ?_
                    rintro e w1 ⟨rfl, nq1, rfl⟩
                    go_wp2_with fail
                    refine (step_any _ ys kk x2 _ (RdI.drewN HY4.out _)).mono ?_
                    rintro e w1 ⟨rfl, nq2, rfl⟩
                    go_wp2_with fail
                    go_roundg (ny + 1 - (kk + 1))
                    case measure => rw [HGK.out]; omega
                    case rel =>
                      refine ⟨kk + 1, b4, by omega, rfl, by go_num, rfl, ?_, HA4.out⟩
                      rw [rowF_succ, HS4.out, stf_no xs ys pa ii kk T b4 (.inr (.inl (by rw [← Hpa.out]; exact ho2)))]
                      exact ⟨rfl, Hl4.out, Hm4.out, below_drewN HB4.out _⟩
                  have hd1 : ii + stepD x1 ≤ nx := by have := step_le xs ii x1 (by rw [hnx.out]; omega) ho1; rw [hnx.out] at this; exact this
                  have hd2 : kk + stepD x2 ≤ ny := by have := step_le ys kk x2 (by rw [hny.out]; omega) ho2; rw [hny.out] at this; exact this
                  obtain ⟨p2, hp2⟩ : ∃ p2 : Nat, (q0 : Int) * ((nx : Int) + 1) = (p2 : Int) := ⟨q0 * (nx + 1), by simp⟩
                  obtain ⟨p3, hp3⟩ : ∃ p3 : Nat, ((p2 : Int) + (ii : Int)) * ((ny : Int) + 1) = (p3 : Int) := ⟨(p2 + ii) * (ny + 1), by simp⟩
                  obtain ⟨p4, hp4⟩ : ∃ p4 : Nat, (q3 : Int) * ((nx : Int) + 1) = (p4 : Int) := ⟨q3 * (nx + 1), by simp⟩
                  obtain ⟨p5, hp5⟩ : ∃ p5 : Nat, ((p4 : Int) + (ii : Int) + (stepD x1 : Int)) * ((ny : Int) + 1) = (p5 : Int) := ⟨(p4 + ii + stepD x1) * (ny + 1), by simp⟩
                  have f2 : p2 = q0 * (nx + 1) := by exact_mod_cast hp2.symm
                  have f3 : p3 = (p2 + ii) * (ny + 1) := by exact_mod_cast hp3.symm
                  have f4 : p4 = q3 * (nx + 1) := by exact_mod_cast hp4.symm
                  have f5 : p5 = (p4 + ii + stepD x1) * (ny + 1) := by exact_mod_cast hp5.symm
                  have hix : p3 + kk = idx (xs.length + 1) (ys.length + 1) q0 ii kk := by rw [idx, hnx.out, hny.out, f3, f2]
                  have hiy : p5 + kk + stepD x2 = idx (xs.length + 1) (ys.length + 1) q3 (ii + stepD x1) (kk + stepD x2) := by rw [idx, hnx.out, hny.out, f5, f4, Nat.add_assoc (q3 * (nx + 1)) ii, Nat.add_assoc _ kk]
                  have hil : p3 + kk < sz := by rw [hix, ← Hsz.out, size]; exact idx_lt (by have := HSN.out; omega) (by rw [hnx.out]; omega) (by rw [hny.out]; omega)
                  have hiyl : p5 + kk + stepD x2 < sz := by rw [hiy, ← Hsz.out, size]; exact idx_lt (by have := HSN.out; omega) (by rw [hnx.out]; omega) (by rw [hny.out]; omega)
                  have hb23 : p2 + ii ≤ p3 := by rw [f3]; exact Nat.le_mul_of_pos_right _ (by omega)
                  have hb45 : p4 + ii + stepD x1 ≤ p5 := by rw [f5]; exact Nat.le_mul_of_pos_right _ (by omega)
                  have hck := Hm4.out.cell (j := p3 + kk) (by rw [Hl4.out]; exact hil)
                  have hcy := Hm4.out.cell (j := p5 + kk + stepD x2) (by rw [Hl4.out]; exact hiyl)
                  have hfy := Hm4.out.free (p5 + kk + stepD x2)
                  have HIX := Lib.hid hix
                  have HIY := Lib.hid hiy
                  clear f2 f3 f4 f5 hix hiy
                  cases hT : T.getD (p3 + kk) false
                  · rw [hT] at hck
                    have HT2 := Lib.hid hT
                    clear hT
                    go_wp2_with fail
                    refine (step_any _ xs ii x1 _ HX4.out).mono ?_
                    rintro e w1 ⟨rfl, nq1, rfl⟩
                    go_wp2_with fail
                    refine (step_any _ ys kk x2 _ (RdI.drewN HY4.out _)).mono ?_
                    rintro e w1 ⟨rfl, nq2, rfl⟩
                    go_wp2_with fail
                    go_roundg (ny + 1 - (kk + 1))
                    case measure => rw [HGK.out]; omega
                    case rel =>
                      refine ⟨kk + 1, b4, by omega, rfl, by go_num, rfl, ?_, HA4.out⟩
                      rw [rowF_succ, HS4.out, stf_no xs ys pa ii kk T b4 (.inr (.inr (by rw [← Hpa.out]; simp only [Int.toNat_natCast]; rw [← HIX.out]; exact HT2.out)))]
                      exact ⟨rfl, Hl4.out, Hm4.out, below_drewN HB4.out _⟩
                  rw [hT] at hck
                  have HT2 := Lib.hid hT
                  clear hT
                  generalize hyv : T.getD (p5 + kk + stepD x2) false = yv at hcy
                  have HYV := Lib.hid hyv
                  clear hyv
                  cases b4
                  all_goals
                    go_wp2_with fail
                    refine (step_any _ xs ii x1 _ HX4.out).mono ?_
                    rintro e w1 ⟨rfl, nq1, rfl⟩
                    go_wp2_with fail
                    refine (step_any _ ys kk x2 _ (RdI.drewN HY4.out _)).mono ?_
                    rintro e w1 ⟨rfl, nq2, rfl⟩
                    go_wp2_with fail
                    go_roundg (ny + 1 - (kk + 1))
                    case measure => rw [HGK.out]; omega
                    case rel =>
                      refine ⟨kk + 1, _, by omega, rfl, by go_num, rfl, ?_, HA4.out.far (by omega)⟩
                      rw [rowF_succ, HS4.out, stf_yes xs ys pa ii kk T _ (by rw [← Hpa.out]; exact ho1) (by rw [← Hpa.out]; exact ho2) (by rw [← Hpa.out]; simp only [Int.toNat_natCast]; rw [← HIX.out]; exact HT2.out)]
                      rw [← Hpa.out]
                      simp only [Int.toNat_natCast]
                      rw [← HIY.out, HYV.out]
                      exact ⟨rfl, by rw [List.length_set]; exact Hl4.out, Hm4.out.set_ _, (below_drewN HB4.out _).setCell (p := ⟨g, _, none⟩) (by rw [HZ.out]; exact Nat.le_refl _) _⟩
                · go_wp2_with fail
                  have e1 : kk = ny + 1 := by omega
                  go_roundg (nx + 1 - (ii + 1))
                  case measure => rw [HGI.out]; omega
                  case rel =>
                    refine ⟨ii + 1, b4, by omega, rfl, by go_num, rfl, ?_, HA4.out⟩
                    rw [arcF_succ, HS3.out, hny.out, ← e1, HS4.out]
                    exact ⟨rfl, Hl4.out, Hm4.out, HB4.out⟩
            · go_wp2_with fail
              have e1 : ii = nx + 1 := by omega
              go_roundg (n - (j + 1))
              case measure => rw [HGJ.out]; omega
              case rel =>
                refine ⟨j + 1, b', by omega, rfl, by go_num, rfl, ?_⟩
                rw [HT.out, passF_snoc, HS2.out, hnx.out, ← e1, HS3.out]
                exact ⟨Hb3.out, Hl3.out, Hm3.out, HB3.out⟩
        · go_wp2_with fail
          have e1 : F.arcs.take j = F.arcs := List.take_of_length_le (by rw [hn.out]; omega)
          have HPW := Lib.hid (pass_whole HR.out HI.out)
          have HS3 : Hid (passF xs ys F.arcs (M, false) = s2) := by rw [Hid, ← HS2.out, e1]
          clear e1
          go_roundg (2 * cf s2.1 + (if b then 1 else 0))
          case measure =>
            have h := HPW.out
            rw [HS3.out, Hb2.out] at h
            rw [HG.out]
            have hle := pass_le HR.out HI.out
            rw [HS3.out] at hle
            cases b
            · simp; omega
            · have := h.2.1 rfl; simp; omega
          case rel =>
            have h := HPW.out
            rw [HS3.out, Hb2.out] at h
            exact ⟨b, rfl, s2.1, Hm2.out, h.1, h.2.2, HB2.out, rfl⟩
end Go.Proofs.Ytmejihlplbeekaa
