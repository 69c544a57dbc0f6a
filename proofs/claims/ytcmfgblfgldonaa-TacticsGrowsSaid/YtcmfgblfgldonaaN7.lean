/-
  slices.Contains of ints and of steps; Check of tactics.
-/
import Derived.Test.YtcmfgblfgldonaaN6
import Derived.Laws.StructEq
namespace Go.Proofs.Ytcmfgblfgldonaa
open Go.ChangeShapes Go.WideShapes Go.ChangeAt Go.RowKit
def SomeI (p : Int → Prop) (w : World) (e : Ending) (w' : World) : Prop := (∃ i : Int, e = .returned (.int .i64 i) ∧ p i) ∧ Below w.heap.size w w'
set_option maxHeartbeats 1000000 in
theorem idxI_any (v : Value) (l : List Int) (x : Int) (w : World) (hv : RdI w v l) :
    Calls Try.prog 54 #[v, .int .i64 x] w (SomeI (fun i => decide (0 ≤ i) = decide (x ∈ l)) w) := by
  obtain ⟨A, n, c, rfl, h1, h2, HN, HR⟩ := hv.op
  clear hv
  go_enter Try.func54, Try.ntmps54
  go_wp2_with fail
  go_loop [8] (fun i => ∃ k : Nat, k ≤ n ∧ i = .int .i64 k ∧ Hid (x ∉ l.take k)) (fun i => n - (intOf i).toNat)
  case atStart => exact ⟨0, Nat.zero_le _, rfl, by simp [Hid]⟩
  case round =>
    obtain ⟨k, hk, rfl, HP⟩ := hrel
    by_cases hlt : k < n
    · obtain ⟨b, off, y, rfl, hb, hd, hck⟩ := HR.out k hlt
      have HT := Lib.hid (take_of_dropI hd.out)
      cases hxy : (x == y)
      · have hne : x ≠ y := by simpa using hxy
        have HNE := Lib.hid hne
        clear hne
        go_wp2_with fail
        go_round
        case rel => exact ⟨k + 1, by omega, by go_num, by rw [Hid, HT.out]; simp only [List.mem_append, List.mem_singleton, not_or]; exact ⟨HP.out, HNE.out⟩⟩
        case measure => simp [intOf]; omega
      · have heq : x = y := by simpa using hxy
        have HEQ := Lib.hid heq
        clear heq
        go_wp2_with fail
        go_ret
        refine ⟨⟨_, rfl, ?_⟩, Below.refl _ _⟩
        have hm : x ∈ l := by rw [HEQ.out]; exact List.mem_of_mem_drop (by rw [hd.out]; exact List.mem_cons_self)
        simp [hm]
    · go_wp2_with fail
      go_ret
      refine ⟨⟨_, rfl, ?_⟩, Below.refl _ _⟩
      have hm : x ∉ l := by have := HP.out; rwa [List.take_of_length_le (by rw [HN.out]; omega)] at this
      simp [hm]
theorem hasI_any (v : Value) (l : List Int) (x : Int) (w : World) (hv : RdI w v l) :
    Calls Try.prog 48 #[v, .int .i64 x] w fun e w' => e = .returned (.bool (decide (x ∈ l))) ∧ Below w.heap.size w w' := by
  obtain ⟨A, n, c, rfl, _, _, _, _⟩ := hv.op
  have HV := Lib.hid hv
  clear hv
  go_enter Try.func48, Try.ntmps48
  go_wp2_with fail
  refine (idxI_any _ l x _ HV.out).mono ?_
  rintro e w1 ⟨⟨i, rfl, hi⟩, hb⟩
  have HB := Lib.hid hb
  have HI := Lib.hid hi
  clear hb hi
  go_wp2_with fail
  go_ret
  exact ⟨by rw [← HI.out]; rfl, HB.out⟩
theorem take_of_dropS {l : List PStep} {k : Nat} {x : PStep} {r : List PStep} (h : l.drop k = x :: r) : l.take (k + 1) = l.take k ++ [x] := by
  have hk : k < l.length := by
    rcases Nat.lt_or_ge k l.length with h1 | h1
    · exact h1
    · rw [List.drop_of_length_le h1] at h; cases h
  rw [List.drop_eq_getElem_cons hk] at h
  rw [List.take_succ_eq_append_getElem hk, (List.cons.inj h).1]
theorem fieldsS : Try.prog.underlying 42 = some (.struct (Try.prog.fieldsOf 42)) := by kernel_rfl
theorem eqS (w : World) (x0 x1 x2 y0 y1 y2 : Int) : (binOp .eql 42 (.agg #[.int .i64 x0, .int .i64 x1, .int .i64 x2]) (.agg #[.int .i64 y0, .int .i64 y1, .int .i64 y2])).run Try.prog w = .ok (.bool (x0 == y0 && (x1 == y1 && x2 == y2))) w := by
  rw [run_eql_struct, run_equalIn_agg w 9999 _ _ _ fieldsS (by kernel_rfl)]
  have hf : (Try.prog.fieldsOf 42).toList = (match Try.prog.underlying 42 with | some (.struct fs) => fs | _ => #[]).toList := rfl
  rw [hf, Try.underlying42]
  simp only [Op.eqFields]
  cases h0 : (x0 == y0) <;> cases h1 : (x1 == y1) <;> cases h2 : (x2 == y2) <;> simp_all [go_sem, Try.underlying3]
set_option maxHeartbeats 1000000 in
theorem idxS_any (v : Value) (l : List PStep) (x0 x1 x2 : Int) (w : World) (hv : RdS w v l) :
    Calls Try.prog 52 #[v, .agg #[.int .i64 x0, .int .i64 x1, .int .i64 x2]] w (SomeI (fun i => decide (0 ≤ i) = decide ((⟨x0, x1, x2⟩ : PStep) ∈ l)) w) := by
  obtain ⟨A, n, c, rfl, h1, h2, HN, HR⟩ := hv.op
  clear hv
  go_enter Try.func52, Try.ntmps52
  go_wp2_with fail
  generalize hW : World.alloc w _ = W
  have HBW : Hid (Below w.heap.size w W) := by rw [← hW]; repeat (first | assumption | exact Below.refl _ _ | refine Below.alloc ?_ (by first | omega | (simp; done) | (simp; omega)) _ | refine Below.drew ?_ | refine below_drewN ?_ _ | refine Below.setCell ?_ (by first | omega | (simp; done) | (simp; omega)) _)
  have HSB : Hid (SBlk W w.heap.size ⟨x0, x1, x2⟩) := by rw [← hW]; exact heap_alloc_new w _
  clear hW
  go_loopw [8] (fun i wr => ∃ k : Nat, k ≤ n ∧ i = .int .i64 k ∧ Hid ((⟨x0, x1, x2⟩ : PStep) ∉ l.take k) ∧ Hid (Below W.heap.size W wr)) (fun i _ => n - (intOf i).toNat)
  case atStart => exact ⟨0, Nat.zero_le _, rfl, by simp [Hid], Below.refl _ _⟩
  case round =>
    obtain ⟨k, hk, rfl, HP, HB⟩ := hrel
    by_cases hlt : k < n
    · obtain ⟨b, off, y0, y1, y2, rfl, hb, hd, e0, e1, e2⟩ := (HR.out k hlt).below (bchain HBW.out HB.out)
      have HT := Lib.hid (take_of_dropS hd.out)
      have hsb : SBlk wr w.heap.size ⟨x0, x1, x2⟩ := (HB.out.block _ (Array.getElem?_eq_some_iff.1 HSB.out).1).trans HSB.out
      obtain ⟨t0, t1, t2, t3⟩ := hsb.facts
      dsimp only at t0 t1 t2
      clear hsb
      have heq := fun W => eqS W x0 x1 x2 y0 y1 y2
      have hgd := fun (W : World) x y xs ys => run_eqGuard_agg (P := Try.prog) W .eql 42 x y xs ys (by kernel_rfl)
      have HBB : Hid ((x0 == y0 && (x1 == y1 && x2 == y2)) = decide ((⟨x0, x1, x2⟩ : PStep) = ⟨y0, y1, y2⟩)) := by rw [Hid, Bool.eq_iff_iff]; simp
      generalize (x0 == y0 && (x1 == y1 && x2 == y2)) = bb at heq HBB
      have HMEM : Hid ((⟨y0, y1, y2⟩ : PStep) ∈ l) := List.mem_of_mem_drop (by rw [hd.out]; exact List.mem_cons_self)
      cases bb
      · have HNE : Hid (¬ (⟨x0, x1, x2⟩ : PStep) = ⟨y0, y1, y2⟩) := by have h := HBB.out; rw [Hid]; intro h2; rw [h2] at h; simp at h
        go_wp2_with fail
        go_quiet (fail)
        clear heq hgd
        go_wp2_with fail
        go_roundw
        case rel => exact ⟨k + 1, by omega, by go_num, by rw [Hid, HT.out]; simp only [List.mem_append, List.mem_singleton, not_or]; exact ⟨HP.out, HNE.out⟩, by rw [Hid]; have := HB.out; repeat (first | assumption | exact Below.refl _ _ | refine Below.alloc ?_ (by first | omega | (simp; done) | (simp; omega)) _ | refine Below.drew ?_ | refine below_drewN ?_ _ | refine Below.setCell ?_ (by first | omega | (simp; done) | (simp; omega)) _)⟩
        case measure => simp [intOf]; omega
      · have HEQ : Hid ((⟨x0, x1, x2⟩ : PStep) = ⟨y0, y1, y2⟩) := by have h := HBB.out; rw [Hid]; exact of_decide_eq_true h.symm
        go_wp2_with fail
        go_quiet (fail)
        clear heq hgd
        go_wp2_with fail
        go_ret
        refine ⟨⟨_, rfl, ?_⟩, ?_⟩
        · have hm : (⟨x0, x1, x2⟩ : PStep) ∈ l := by rw [HEQ.out]; exact HMEM.out
          simp [hm]
        · have h1 := bchain HBW.out HB.out
          repeat (first | assumption | exact Below.refl _ _ | refine Below.alloc ?_ (by first | omega | (simp; done) | (simp; omega)) _ | refine Below.drew ?_ | refine below_drewN ?_ _ | refine Below.setCell ?_ (by first | omega | (simp; done) | (simp; omega)) _)
    · go_wp2_with fail
      go_ret
      refine ⟨⟨_, rfl, ?_⟩, bchain HBW.out HB.out⟩
      have hm : (⟨x0, x1, x2⟩ : PStep) ∉ l := by have := HP.out; rwa [List.take_of_length_le (by rw [HN.out]; omega)] at this
      simp [hm]
theorem hasS_any (v : Value) (l : List PStep) (x0 x1 x2 : Int) (w : World) (hv : RdS w v l) :
    Calls Try.prog 31 #[v, .agg #[.int .i64 x0, .int .i64 x1, .int .i64 x2]] w fun e w' => e = .returned (.bool (decide ((⟨x0, x1, x2⟩ : PStep) ∈ l))) ∧ Below w.heap.size w w' := by
  obtain ⟨A, n, c, rfl, _, _, _, _⟩ := hv.op
  have HV := Lib.hid hv
  clear hv
  go_enter Try.func31, Try.ntmps31
  go_wp2_with fail
  refine (idxS_any _ l x0 x1 x2 _ (HV.out.below ((Below.refl _ _).alloc (Nat.le_refl _) _))).mono ?_
  rintro e w1 ⟨⟨i, rfl, hi⟩, hb⟩
  have HB := Lib.hid (bchain ((Below.refl _ _).alloc (Nat.le_refl _) _) hb)
  have HI := Lib.hid hi
  clear hb hi
  go_wp2_with fail
  go_ret
  exact ⟨by rw [← HI.out]; rfl, HB.out⟩
/-! Check -/
def stB (n q : Int) : Bool := decide (0 ≤ q) && decide (q < n)
def stepsErr (n : Int) : List PStep → List PStep → Int
  | _, [] => 0
  | b, s :: l => if stB n s.fr && stB n s.tgt then (if s.cls < 1 ∨ 20 < s.cls then 21 else if s ∈ b then 8 else stepsErr n (b ++ [s]) l) else 2
def ordE : List Int → Int
  | x :: y :: l => if y ≤ x then 10 else ordE (y :: l)
  | _ => 0
def finE (n : Int) : List Int → Int
  | [] => 0
  | a :: l => if stB n a then finE n l else 2
def chkN (N : PNet) : Int :=
  if N.states < 1 ∨ 24 < N.states then 2 else if 200 < N.steps.length then 11 else
  if stepsErr N.states [] N.steps ≠ 0 then stepsErr N.states [] N.steps else
  if ordE N.final ≠ 0 then 10 else finE N.states N.final
theorem cst_any (q : Int) (B : Nat) (n : Int) (y z : Value) (w : World) (hB : NBlk w B (.int .i64 n) y z) :
    Calls Try.prog 30 #[.int .i64 q, .pointer (some ⟨B, 0, none⟩)] w fun e w' => e = .returned (.bool (stB n q)) ∧ w = w' := by
  obtain ⟨m0, _, _, _⟩ := hB.facts
  clear hB
  by_cases h0 : 0 ≤ q
  · by_cases h1 : q < n
    · have d0 : decide (0 ≤ q) = true := by simpa using h0
      have d1 : decide (q < n) = true := by simpa using h1
      go_enter Try.func30, Try.ntmps30
      go_wp2_with fail
      go_ret
      exact ⟨by simp [stB, h0, h1], rfl⟩
    · have d0 : decide (0 ≤ q) = true := by simpa using h0
      have d1 : decide (q < n) = false := by simpa using h1
      go_enter Try.func30, Try.ntmps30
      go_wp2_with fail
      go_ret
      exact ⟨by simp [stB, h0, h1], rfl⟩
  · have d0 : decide (0 ≤ q) = false := by simpa using h0
    go_enter Try.func30, Try.ntmps30
    go_wp2_with fail
    go_ret
    exact ⟨by rw [stB, d0]; rfl, rfl⟩
end Go.Proofs.Ytcmfgblfgldonaa
