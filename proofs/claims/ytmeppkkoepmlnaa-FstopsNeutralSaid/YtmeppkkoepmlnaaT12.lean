/-
  Identity and Pair of fstops.
-/
import Derived.Test.YtmeppkkoepmlnaaT11
namespace Go.Proofs.Ytmeppkkoepmlnaa
open Go.ChangeShapes Go.WideShapes Go.ChangeAt Go.RowKit
def nilV : Value := .slice none 0 0
/-- one slice of ints in a new block -/
theorem rdL_one {w : World} {v : Value} {xs : List Int} {g : Nat} (h : RdI w v xs) (hg : w.heap.size = g) : RdL (w.alloc (.cells #[v] 22)) (.slice (some ⟨g, 0, none⟩) 1 1) [xs] := by
  subst hg
  refine ⟨_, 1, 1, rfl, by omega, by omega, rfl, fun k hk => ?_⟩
  obtain rfl : k = 0 := by omega
  exact ⟨w.heap.size, 0, v, xs, rfl, by simp, rfl, by simp [go_sem], h.below ((Below.refl _ _).alloc (Nat.le_refl _) _)⟩
theorem rdL_two {w : World} {v v' : Value} {xs ys : List Int} {g : Nat} (h : RdI w v xs) (h' : RdI w v' ys) (hg : w.heap.size = g) : RdL (w.alloc (.cells #[v, v'] 22)) (.slice (some ⟨g, 0, none⟩) 2 2) [xs, ys] := by
  subst hg
  refine ⟨_, 2, 2, rfl, by omega, by omega, rfl, fun k hk => ?_⟩
  match k, hk with
  | 0, _ => exact ⟨w.heap.size, 0, v, xs, rfl, by simp, rfl, by simp [go_sem], h.below ((Below.refl _ _).alloc (Nat.le_refl _) _)⟩
  | 1, _ => exact ⟨w.heap.size, 0, v', ys, rfl, by simp, rfl, by simp [go_sem], h'.below ((Below.refl _ _).alloc (Nat.le_refl _) _)⟩
/-- block R is a struct Fst -/
def FBlk (w : World) (R : Nat) (x y z : Value) : Prop := w.heap[R]? = some (.cells #[x, y, z] 29 (0, 0))
section
variable {w w' : World} {R : Nat} {x y z : Value}
theorem FBlk.facts (h : FBlk w R x y z) : w.cell? ⟨R, 0, none⟩ = some x ∧ w.cell? ⟨R, 1, none⟩ = some y ∧ w.cell? ⟨R, 2, none⟩ = some z ∧ w.frozen? ⟨R, 0, none⟩ = false ∧ w.frozen? ⟨R, 1, none⟩ = false ∧ w.frozen? ⟨R, 2, none⟩ = false := by
  unfold FBlk at h
  refine ⟨?_, ?_, ?_, by simp [World.frozen?, h], by simp [World.frozen?, h], by simp [World.frozen?, h]⟩ <;> rw [cell_of_row w R _ _ _ (0, 0) h] <;> rfl
theorem FBlk.lt (h : FBlk w R x y z) : R < w.heap.size := (Array.getElem?_eq_some_iff.1 h).1
theorem FBlk.below (h : FBlk w R x y z) (hb : Below w.heap.size w w') : FBlk w' R x y z := (hb.block R h.lt).trans h
theorem FBlk.fr {base B : Nat} (h : FBlk w R x y z) (hf : Fr base B w w') (hne : R ≠ B) : FBlk w' R x y z :=
  (hf.2 R h.lt hne (fun cs t m he => by unfold FBlk at h; rw [h] at he; cases he; exact ⟨by decide, by decide⟩)).trans h
theorem own_base {w : World} {base base' size n : Nat} {e : TypeId} {v : Value} {xs : List Value} (h : w.ownsRow base e size v n xs) (hb : base' ≤ base) : w.ownsRow base' e size v n xs :=
  ⟨h.1, h.2.imp id fun ⟨g, cap, cur, h1, h2, h3⟩ => ⟨g, cap, cur, h1, Nat.le_trans hb h2, h3⟩⟩
/-- a transducer whose rows lie in blocks from base on -/
def OwnF (base : Nat) (w : World) (v : Value) (F : PFst) : Prop := ∃ va vf, v = .agg #[.int .i64 F.states, va, vf] ∧ OwnA w base va F.arcs ∧ OwnI w base vf F.final
theorem OwnF.rd {base : Nat} {w : World} {v : Value} {F : PFst} (h : OwnF base w v F) : RdF w v F := by
  obtain ⟨va, vf, rfl, h1, h2⟩ := h
  exact ⟨va, vf, rfl, h1.rd, h2.rd⟩
/-- three stores into the result's block leave the rows of a transducer as they are -/
theorem OwnF.past {base base' B : Nat} {T : TypeId} {va vf : Value} {F : PFst} (h : Bld T w base B va vf F) (hR : FBlk w R x y z) (a b c : Value) (hb : base' ≤ base) :
    OwnF base' (((w.setCell ⟨R, 0, none⟩ a).setCell ⟨R, 1, none⟩ b).setCell ⟨R, 2, none⟩ c) (.agg #[.int .i64 F.states, va, vf]) F := by
  have hA : va.ownBlock ≠ some R := fun he => by
    obtain ⟨cs, hc⟩ := row_type h.oa he
    exact ne_of_type hR hc (by decide) rfl
  have hI : vf.ownBlock ≠ some R := fun he => by
    obtain ⟨cs, hc⟩ := row_type h.oi he
    exact ne_of_type hR hc (by decide) rfl
  exact ⟨va, vf, rfl, own_base (own_setCell (own_setCell (own_setCell h.oa hA _ _) hA _ _) hA _ _) hb, own_base (own_setCell (own_setCell (own_setCell h.oi hI _ _) hI _ _) hI _ _) hb⟩
end
theorem ident_no (v : Value) (xs : List Int) (w : World) (hv : RdI w v xs) (hx : xs.length ≤ 1000) (he : wrongE 60 [xs] ≠ 0) :
    Calls Try.prog 21 #[v] w fun e w' => e = .returned (.tuple #[.agg #[.int .i64 0, .slice none 0 0, .slice none 0 0], .int .i64 (wrongE 60 [xs])]) ∧ Below w.heap.size w w' := by
  obtain ⟨x, hxe⟩ : ∃ x, wrongE 60 [xs] = x := ⟨_, rfl⟩
  rw [hxe] at he ⊢
  have HX := Lib.hid hxe
  have hn : (x != 0) = true := by simpa using he
  have HV := Lib.hid hv
  have HL := Lib.hid hx
  obtain ⟨A, n, c, rfl, h1, h2, HN, hr⟩ := hv.op
  clear hv hx hxe he
  go_enter Try.func21, Try.ntmps21
  go_wp2_with fail
  refine (wrong_any 60 _ [xs] _ ?_ (by have := HL.out; simp [total]; omega)).mono ?_
  · exact rdL_one (Rd.alloc HV.out _) (by simp)
  rintro e w1 ⟨rfl, hb⟩
  rw [HX.out]
  have HB := Lib.hid hb
  clear hb
  have hR : Hid (FBlk w1 w.heap.size (.int .i64 0) (.slice none 0 0) (.slice none 0 0)) := FBlk.below ((Below.heap_alloc _ _ _ (by simp)).trans (heap_alloc_new w _)) HB.out
  obtain ⟨r0, r1, r2, f0, f1, f2⟩ := hR.out.facts
  have hz := HB.out.size
  simp at hz
  go_wp2_with fail
  exact bodyPost_ret (v := .tuple #[.agg #[.int .i64 0, .slice none 0 0, .slice none 0 0], .int .i64 x]) (by simp [results, Try.results21, go_sem, r0, r1, r2]) rfl ⟨rfl, ((((bchain (Below.refl _ _) (((Below.refl _ _).alloc (Nat.le_refl _) _).alloc (by simp) _)).trans (HB.out.mono (by simp; omega))).setCell (by simp) _).setCell (by simp) _).setCell (by simp) _⟩

set_option maxHeartbeats 2000000 in
theorem ident_yes (v : Value) (xs : List Int) (w : World) (hv : RdI w v xs) (hx : xs.length ≤ 1000) (he : wrongE 60 [xs] = 0) :
    Calls Try.prog 21 #[v] w fun e w' => (∃ vF, e = .returned (.tuple #[vF, .int .i64 0]) ∧ OwnF w.heap.size w' vF (identF xs)) ∧ Below w.heap.size w w' := by
  have HX := Lib.hid he
  have HV := Lib.hid hv
  obtain ⟨A, n, c, rfl, h1, h2, HN, hr⟩ := hv.op
  have hn : n ≤ 1000 := by rw [← HN.out]; exact hx
  clear hv hx he
  go_enter Try.func21, Try.ntmps21
  go_wp2_with fail
  refine (wrong_any 60 _ [xs] _ ?_ (by rw [show total [xs] = xs.length by simp [total], HN.out]; omega)).mono ?_
  · exact rdL_one (Rd.alloc HV.out _) (by simp)
  rintro e w1 ⟨rfl, hb⟩
  rw [HX.out]
  have HB := Lib.hid hb
  clear hb
  have hR : Hid (FBlk w1 w.heap.size (.int .i64 0) (.slice none 0 0) (.slice none 0 0)) := FBlk.below ((Below.heap_alloc _ _ _ (by simp)).trans (heap_alloc_new w _)) HB.out
  have hz := HB.out.size
  simp at hz
  have HB1 : Hid (Below w.heap.size w w1) := (((Below.refl _ _).alloc (Nat.le_refl _) _).alloc (by simp) _).trans (HB.out.mono (by simp; omega))
  clear HB
  go_wp2_with fail
  generalize hW : World.alloc (World.alloc w1 _) _ = W
  have HW : Hid (Bld 29 W w1.heap.size (w1.heap.size + 1) (.slice none 0 0) (.slice (some ⟨w1.heap.size, 0, none⟩) 1 1) ⟨1, [], [0]⟩) := by
    rw [← hW]
    refine ⟨?_, World.ownsRow_nil _ _ _ _, ?_, by decide, by decide, by omega⟩
    · have := heap_alloc_new (w1.alloc (.cells #[.int .i64 0] 3)) (.cells #[.int .i64 1, .slice none 0 0, .slice (some ⟨w1.heap.size, 0, none⟩) 1 1] 29)
      simpa using this
    · exact World.ownsRow.alloc ⟨rfl, .inr ⟨w1.heap.size, 1, #[.int .i64 0], rfl, Nat.le_refl _, heap_alloc_new w1 _, Nat.le_refl _, by simp [maxLen], rfl, rfl⟩⟩ _
  have HR : Hid (FBlk W w.heap.size (.int .i64 0) (.slice none 0 0) (.slice none 0 0)) := by
    rw [← hW]; exact (Below.heap_alloc _ _ _ (by simp; omega)).trans ((Below.heap_alloc _ _ _ (by omega)).trans hR.out)
  have HB2 : Hid (Below w.heap.size w W) := by rw [← hW]; exact (HB1.out.alloc (by omega) _).alloc (by simp; omega) _
  clear hW hR HB1
  obtain ⟨base, hbase⟩ : ∃ base, base = w1.heap.size := ⟨_, rfl⟩
  rw [← hbase] at HW hz ⊢
  clear hbase
  go_loopw [19] (fun i wr => ∃ k : Nat, k ≤ n ∧ i = .int .i64 k ∧ Hid (∃ va, Bld 29 wr base (base + 1) va (.slice (some ⟨base, 0, none⟩) 1 1) ⟨1, (xs.take k).map idArc, [0]⟩) ∧ Hid (Fr base (base + 1) W wr)) (fun i _ => n - (intOf i).toNat)
  case atStart => exact ⟨0, Nat.zero_le _, rfl, ⟨_, HW.out⟩, Fr.refl _ _ _⟩
  case round =>
    obtain ⟨k, hk, rfl, HBE, HF⟩ := hrel
    obtain ⟨va, hbb⟩ := HBE.out
    have HB := Lib.hid hbb
    clear hbb HBE
    by_cases hlt : k < n
    · obtain ⟨b, off, x, rfl, hbl, hd, hck⟩ := (hr.out k hlt).below (Fr.below HB2.out (by omega) HF.out)
      have c1 := HB.out.c1
      have hBl := HB.out.lt
      obtain ⟨m, hm⟩ : ∃ m, ((xs.take k).map idArc).length = m := ⟨_, rfl⟩
      have hml : m ≤ 1000000 := by simp at hm; omega
      have HM := Lib.hid hm
      clear hm
      go_wp2_with (at_builtin; refine wpList_app_arc rfl (.tmp 24) (.tmp 28) rfl base va ((xs.take k).map idArc) rfl HB.out.oa 0 x x 0 m HM hml (by omega) rfl ?_; intro g' cap w3 ho hg hgr; obtain ⟨k1, k2⟩ := HB.out.mid hgr; have HO := Lib.hid ho; clear ho)
      go_roundw
      case rel =>
        have hp := HB.out.pushed hgr HO.out
        have h3 := hp.1
        have e1 : (xs.take k).map idArc ++ [⟨0, x, x, 0⟩] = (xs.take (k + 1)).map idArc := by rw [take_of_drop hd.out]; simp [idArc]
        simp only [e1] at h3
        exact ⟨k + 1, by omega, by go_num, ⟨_, h3⟩, HF.out.trans hp.2⟩
      case measure => simp [intOf]; omega
    · have e1 : xs.take k = xs := List.take_of_length_le (by rw [HN.out]; omega)
      have HBF : Hid (Bld 29 wr base (base + 1) va (.slice (some ⟨base, 0, none⟩) 1 1) (identF xs)) := by have := HB.out; rw [e1] at this; exact this
      have hRw := HR.out.fr HF.out (by omega)
      obtain ⟨A', n', c', rfl, q1, q2, _, _⟩ := HB.out.oa.rd.op
      obtain ⟨r0, r1, r2, f0, f1, f2⟩ := hRw.facts
      have d0 := HB.out.c0
      have d1 := HB.out.c1
      have d2 := HB.out.c2
      have HRW := Lib.hid hRw
      clear hRw e1
      go_wp2_with fail
      refine bodyPost_ret (v := .tuple #[.agg #[.int .i64 1, .slice A' n' c', .slice (some ⟨base, 0, none⟩) 1 1], .int .i64 0]) ?_ rfl ?_
      · simp [results, Try.results21, go_sem, r0, r1, r2]
      refine ⟨⟨_, rfl, ?_⟩, ?_⟩
      · exact OwnF.past HBF.out HRW.out _ _ _ (by omega)
      · exact (((Fr.below HB2.out (by omega) HF.out).setCell (by simp) _).setCell (by simp) _).setCell (by simp) _
end Go.Proofs.Ytmeppkkoepmlnaa
