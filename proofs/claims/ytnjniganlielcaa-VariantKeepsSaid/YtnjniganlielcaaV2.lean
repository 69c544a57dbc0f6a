/-
  Get of the lexicon.
-/
import Derived.Test.YtnjniganlielcaaV1
import Derived.RangeFuncBox
namespace Go.Proofs.Ytnjniganlielcaa
open Go.ChangeShapes Go.WideShapes Go.ChangeAt Go.RowKit
theorem getf_any (e : EV) (B : Nat) (id : Int) (w : World) (hB : Boxed w B 3 (.int .i64 id)) :
    Calls Try.prog 45 #[.agg #[.int .i64 e.id, .slice e.f.A e.f.n e.f.c, .int .i64 e.cls, .slice e.a.A e.a.n e.a.c, .int .i64 e.main, .slice e.s.A e.s.n e.s.c, .slice e.l.A e.l.n e.l.c, .slice e.r.A e.r.n e.r.c], .pointer (some ⟨B, 0, none⟩)] w fun e' w' => e' = .returned (.bool (e.id == id)) ∧ Below w.heap.size w w' := by
  have hl := hB.lt
  have hc := hB.cell
  clear hB
  go_enter Try.func45, Try.ntmps45
  go_wp2_with fail
  go_ret
  exact ⟨rfl, by repeat (first | assumption | exact Below.refl _ _ | refine Below.alloc ?_ (by first | omega | (simp; done) | (simp; omega)) _ | refine Below.drew ?_ | refine below_drewN ?_ _ | refine Below.setCell ?_ (by first | omega | (simp; done) | (simp; omega)) _)⟩
set_option maxHeartbeats 1000000 in
theorem idxf_any (v : Value) (L : List EV) (B : Nat) (id : Int) (w : World) (hv : RdV w v L) (hB : Boxed w B 3 (.int .i64 id)) :
    Calls Try.prog 44 #[v, .func (.func 45) #[] #[.pointer (some ⟨B, 0, none⟩)]] w fun e' w' => e' = .returned (.int .i64 (idxI L id)) ∧ Below w.heap.size w w' := by
  obtain ⟨A, n, c, rfl, h1, h2, HN, HR⟩ := hv.op
  have HB := Lib.hid hB
  clear hv hB
  go_enter Try.func44, Try.ntmps44
  go_wp2_with fail
  go_loopw [8] (fun i wr => ∃ k : Nat, k ≤ n ∧ i = .int .i64 k ∧ Hid (idxE id 0 L = idxE id k (L.drop k)) ∧ Hid (Below w.heap.size w wr)) (fun i _ => n - (intOf i).toNat)
  case atStart => exact ⟨0, Nat.zero_le _, rfl, rfl, Below.refl _ _⟩
  case round =>
    obtain ⟨k, hk, rfl, HP, HW⟩ := hrel
    by_cases hlt : k < n
    · obtain ⟨b, off, e, rfl, hb, hd, c0, c1, c2, c3, c4, c5, c6, c7⟩ := (HR.out k hlt).below HW.out
      have HP2 : Hid (idxE id 0 L = if e.id = id then some k else idxE id (k + 1) (L.drop (k + 1))) := by rw [Hid, HP.out, hd.out]; rfl
      go_wp2_with fail
      refine (getf_any e B id _ ((HW.out.block _ HB.out.lt).trans HB.out)).mono ?_
      rintro e' w1 ⟨rfl, hb1⟩
      have HW1 := Lib.hid (bchain HW.out hb1)
      clear hb1 c0 c1 c2 c3 c4 c5 c6 c7
      cases hid : (e.id == id)
      · have HP3 : Hid (idxE id 0 L = idxE id (k + 1) (L.drop (k + 1))) := by rw [Hid, HP2.out, if_neg (by simpa using hid)]
        clear hid
        go_wp2_with fail
        go_roundw
        case rel => exact ⟨k + 1, by omega, by go_num, HP3.out, HW1.out⟩
        case measure => simp [intOf]; omega
      · have HP3 : Hid (idxE id 0 L = some k) := by rw [Hid, HP2.out, if_pos (by simpa using hid)]
        clear hid
        go_wp2_with fail
        go_ret
        exact ⟨by rw [idxI, HP3.out]; rfl, HW1.out⟩
    · have HP3 : Hid (idxE id 0 L = none) := by rw [Hid, HP.out, List.drop_of_length_le (by rw [HN.out]; omega)]; rfl
      go_wp2_with fail
      go_ret
      exact ⟨by rw [idxI, HP3.out]; rfl, HW.out⟩
def EV.val (e : EV) : Value := .agg #[.int .i64 e.id, .slice e.f.A e.f.n e.f.c, .int .i64 e.cls, .slice e.a.A e.a.n e.a.c, .int .i64 e.main, .slice e.s.A e.s.n e.s.c, .slice e.l.A e.l.n e.l.c, .slice e.r.A e.r.n e.r.c]
def getV (L : List EV) (id : Int) : Value := .tuple #[((getE L id).getD evz).val, .bool (getE L id).isSome]
set_option maxHeartbeats 1000000 in
theorem get_any (v : Value) (L : List EV) (id : Int) (w : World) (hv : RdV w v L) :
    Calls Try.prog 32 #[v, .int .i64 id] w fun e' w' => e' = .returned (getV L id) ∧ Below w.heap.size w w' := by
  obtain ⟨A, n, c, rfl, h1, h2, HN, HR⟩ := hv.op
  have HV := Lib.hid hv
  clear hv
  go_enter Try.func32, Try.ntmps32
  go_wp2_with fail
  generalize hW : World.alloc (World.alloc w _) _ = W
  have HBW : Hid (Below w.heap.size w W) := by rw [← hW]; repeat (first | assumption | exact Below.refl _ _ | refine Below.alloc ?_ (by first | omega | (simp; done) | (simp; omega)) _ | refine Below.drew ?_ | refine below_drewN ?_ _ | refine Below.setCell ?_ (by first | omega | (simp; done) | (simp; omega)) _)
  have HBX : Hid (Boxed W w.heap.size 3 (.int .i64 id)) := by rw [← hW]; exact (Boxed.new w _ _).alloc _
  have HZ : Hid (EBlk W (w.heap.size + 1) evz) := by
    rw [Hid, ← hW]
    have := heap_alloc_new (w.alloc (.cells #[.int .i64 id] 3)) (.cells #[.int .i64 0, .slice none 0 0, .int .i64 0, .slice none 0 0, .int .i64 0, .slice none 0 0, .slice none 0 0, .slice none 0 0] 34)
    rw [World.size_alloc] at this
    exact this
  clear hW
  refine (idxf_any _ L w.heap.size id _ (HV.out.below HBW.out) HBX.out).mono ?_
  rintro e' w1 ⟨rfl, hb⟩
  have HB1 := Lib.hid hb
  clear hb
  rcases idxE_spec id L 0 with ⟨g1, g2⟩ | ⟨i, x, g1, g2, g3⟩
  · have HI : Hid (idxI L id = -1) := by rw [Hid, idxI, g1]
    have HG : Hid (getV L id = .tuple #[evz.val, .bool false]) := by rw [Hid, getV, show getE L id = none from g2]; rfl
    clear g1 g2
    have hf := (HZ.out.below HB1.out).free
    obtain ⟨y0, y1, y2, y3, y4, y5, y6, y7, hl⟩ := (HZ.out.below HB1.out).facts
    rw [HI.out]
    go_wp2_with fail
    generalize hX : World.setCell _ _ _ = X
    have hX' : put8 w1 (w.heap.size + 1) evz = X := by rw [← hX]; simp only [put8, evz, slz]
    have HX : Hid (EBlk X (w.heap.size + 1) evz) := by rw [Hid, ← hX']; exact (HZ.out.below HB1.out).put evz
    have HXB : Hid (Below w.heap.size w X) := by rw [Hid, ← hX']; exact put8_below (bchain HBW.out HB1.out) (by omega) _
    clear hX hX' hf hl y0 y1 y2 y3 y4 y5 y6 y7
    obtain ⟨z0, z1, z2, z3, z4, z5, z6, z7, zl⟩ := HX.out.facts
    rw [HG.out]
    refine bodyPost_ret (v := .tuple #[evz.val, .bool false]) ?_ rfl ?_
    · simp [results, Try.results32, go_sem, z0, z1, z2, z3, z4, z5, z6, z7, EV.val]
    exact ⟨rfl, HXB.out⟩
  · have HI : Hid (idxI L id = (i : Int)) := by rw [Hid, idxI, g1]; simp
    have HG : Hid (getV L id = .tuple #[x.val, .bool true]) := by rw [Hid, getV, show getE L id = some x from g3]; rfl
    have hi : i < n := by have := (List.getElem?_eq_some_iff.1 g2).1; rw [HN.out] at this; exact this
    obtain ⟨b, off, e, rfl, hb, hd, c0, c1, c2, c3, c4, c5, c6, c7⟩ := (HR.out i hi).below (bchain HBW.out HB1.out)
    obtain rfl : e = x := by
      have := hd.out
      rw [List.drop_eq_getElem_cons (by rw [HN.out]; exact hi)] at this
      have h2 := (List.cons.inj this).1
      rw [List.getElem?_eq_getElem (by rw [HN.out]; exact hi), h2] at g2
      exact Option.some.inj g2
    clear g1 g2 g3
    have hf := (HZ.out.below HB1.out).free
    obtain ⟨y0, y1, y2, y3, y4, y5, y6, y7, hl⟩ := (HZ.out.below HB1.out).facts
    rw [HI.out]
    go_wp2_with fail
    generalize hX : World.setCell _ _ _ = X
    have hX' : put8 w1 (w.heap.size + 1) e = X := by rw [← hX]; simp only [put8]
    have HX : Hid (EBlk X (w.heap.size + 1) e) := by rw [Hid, ← hX']; exact (HZ.out.below HB1.out).put e
    have HXB : Hid (Below w.heap.size w X) := by rw [Hid, ← hX']; exact put8_below (bchain HBW.out HB1.out) (by omega) _
    clear hX hX' hf hl y0 y1 y2 y3 y4 y5 y6 y7 c0 c1 c2 c3 c4 c5 c6 c7
    obtain ⟨z0, z1, z2, z3, z4, z5, z6, z7, zl⟩ := HX.out.facts
    rw [HG.out]
    refine bodyPost_ret (v := .tuple #[e.val, .bool true]) ?_ rfl ?_
    · simp [results, Try.results32, go_sem, z0, z1, z2, z3, z4, z5, z6, z7, EV.val]
    exact ⟨rfl, HXB.out⟩
end Go.Proofs.Ytnjniganlielcaa
