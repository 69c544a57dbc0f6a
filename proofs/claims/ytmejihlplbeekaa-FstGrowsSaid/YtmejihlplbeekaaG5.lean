/-
  The finder of fst: what a call may change; rows of places; ends.
-/
import Derived.Test.YtmejihlplbeekaaG3
import Derived.Test.YtmejihlplbeekaaG4
namespace Go.Proofs.Ytmejihlplbeekaa
open Go.ChangeShapes Go.WideShapes Go.ChangeAt Go.RowKit
/-- of the blocks below n, none but those of X is changed -/
def Frm (n : Nat) (X : Nat → Prop) (w w' : World) : Prop := Below 0 w w' ∧ ∀ k, k < n → ¬ X k → w'.heap[k]? = w.heap[k]?
section
variable {n n' : Nat} {X Y : Nat → Prop} {w w1 w2 : World}
theorem Frm.refl (n : Nat) (X : Nat → Prop) (w : World) : Frm n X w w := ⟨Below.refl _ _, fun _ _ _ => rfl⟩
theorem Frm.trans (h : Frm n X w w1) (k : Frm n X w1 w2) : Frm n X w w2 := ⟨h.1.trans k.1, fun j h1 h2 => (k.2 j h1 h2).trans (h.2 j h1 h2)⟩
theorem Frm.mono (h : Frm n X w w1) (hn : n' ≤ n) (hX : ∀ k, k < n' → X k → Y k) : Frm n' Y w w1 := ⟨h.1, fun k h1 h2 => h.2 k (by omega) fun h3 => h2 (hX k h1 h3)⟩
theorem Frm.of_below (h : Below n w w1) : Frm n X w w1 := ⟨h.mono (Nat.zero_le _), fun k h1 _ => h.block k h1⟩
theorem Frm.size (h : Frm n X w w1) : w.heap.size ≤ w1.heap.size := h.1.size
theorem Frm.alloc (h : Frm n X w w1) (hn : n ≤ w1.heap.size) (o : Obj) : Frm n X w (w1.alloc o) := h.trans (.of_below ((Below.refl _ _).alloc hn o))
theorem Frm.drewN (h : Frm n X w w1) (k : Nat) : Frm n X w (w1.drewN k) := ⟨below_drewN h.1 k, h.2⟩
theorem Frm.grown (h : Frm n X w w1) {row : Option Nat} (hg : w1.grownBy w2 row) (hn : n ≤ w1.heap.size) (hr : ∀ j, row = some j → X j ∨ n ≤ j) : Frm n X w w2 := by
  refine ⟨h.1.grown hg (Nat.zero_le _) (fun j _ => Nat.zero_le j), fun k h1 h2 => ?_⟩
  rw [← h.2 k h1 h2]
  refine hg.block k (by omega) fun e => ?_
  rcases hr k e.symm with h3 | h3
  · exact h2 h3
  · omega
theorem Frm.setCell (h : Frm n X w w1) (p : Addr) (u : Value) (hp : X p.block ∨ n ≤ p.block) : Frm n X w (w1.setCell p u) := by
  refine ⟨h.1.setCell (Nat.zero_le _) u, fun k h1 h2 => ?_⟩
  rw [← h.2 k h1 h2]
  refine Below.heap_setCell w1 p u k fun e => ?_
  rcases hp with h3 | h3
  · exact h2 (by rw [e]; exact h3)
  · omega
theorem Frm.below (h : Frm n X w w1) {B : Nat} (hB : B ≤ n) (hX : ∀ k, k < B → ¬ X k) : Below B w w1 :=
  ⟨h.1.os, h.1.tape, h.1.output, h.1.size, fun k hk => h.2 k (by omega) (hX k hk)⟩
theorem Frm.chain (h : Frm w.heap.size X w w1) (k : Frm w1.heap.size X w1 w2) : Frm w.heap.size X w w2 := h.trans (k.mono h.size fun _ _ h => h)
end
/-- a row of places that the call owns -/
def plcCells (c : Plc) : List Value := [.int .i64 c.q, .int .i64 c.i]
def plcsCells (l : List Plc) : List Value := l.flatMap plcCells
def OwnP (w : World) (base : Nat) (v : Value) (l : List Plc) : Prop := w.ownsRow base 64 2 v l.length (plcsCells l)
theorem plcsCells_snoc (l : List Plc) (c : Plc) : plcsCells (l ++ [c]) = plcsCells l ++ plcCells c := by simp [plcsCells]
theorem plcsCells_length (l : List Plc) : (plcsCells l).length = l.length * 2 := by
  induction l with
  | nil => rfl
  | cons a l ih => simp only [plcsCells, List.flatMap_cons, List.length_append] at ih ⊢; rw [ih]; simp [plcCells]; omega
theorem OwnP.last {w : World} {base : Nat} {v : Value} {l : List Plc} {c : Plc} (h : OwnP w base v (l ++ [c])) :
    ∃ g cap, v = .slice (some ⟨g, 0, none⟩) (l.length + 1) cap ∧ l.length + 1 ≤ cap ∧ cap ≤ 9223372036854775807 ∧ g < w.heap.size ∧ w.cell? ⟨g, l.length * 2, none⟩ = some (.int .i64 c.q) ∧ w.cell? ⟨g, l.length * 2 + 1, none⟩ = some (.int .i64 c.i) ∧
      OwnP w base (.slice (some ⟨g, 0, none⟩) l.length cap) l := by
  obtain ⟨h1, h2⟩ := h
  rcases h2 with ⟨_, h0⟩ | ⟨g, cap, cur, rfl, hg, hh, hnc, hcap, hsz, hx⟩
  · simp at h0
  · simp only [List.length_append, List.length_cons, List.length_nil, Nat.zero_add] at hnc hx ⊢
    have hcell : ∀ j, j < 2 → w.cell? ⟨g, l.length * 2 + j, none⟩ = (plcCells c)[j]? := by
      intro j hj
      rw [cell_of_row w g _ cur _ (0, 0) hh]
      have e : (plcsCells (l ++ [c]))[l.length * 2 + j]? = (plcCells c)[j]? := by
        rw [plcsCells_snoc, List.getElem?_append_right (by rw [plcsCells_length]; omega), plcsCells_length]
        congr 1; omega
      rw [← e, ← hx, List.getElem?_take, if_pos (by omega)]
      simp
    refine ⟨g, cap, rfl, hnc, hcap, (Array.getElem?_eq_some_iff.1 hh).1, hcell 0 (by omega), hcell 1 (by omega), plcsCells_length l, .inr ⟨g, cap, cur, rfl, hg, hh, by omega, hcap, hsz, ?_⟩⟩
    have e2 : (plcsCells (l ++ [c])).take (l.length * 2) = plcsCells l := by rw [plcsCells_snoc, List.take_append_of_le_length (by rw [plcsCells_length]; omega), List.take_of_length_le (by rw [plcsCells_length]; omega)]
    rw [← e2, ← hx, List.take_take]
    congr 1; omega
theorem infoP0 : (Try.prog.info? 64).map (fun i => (i.zero, i.size, i.bytes)) = some (some (.agg #[.int .i64 0, .int .i64 0]), 2, 16) := by kernel_rfl
theorem wpList_app_plc {ops : Array Oper} {rest : List Oper} {o : Oper} {a : Act} {Q : Exit → Act → World → Prop} {w : World} (hgd : o.guard = none) (s x : Operand)
    (ho : o.op = .call { callee := .builtin .append, args := #[s, x], argTypes := #[85, 85] })
    (base : Nat) (v : Value) (l : List Plc) (hs : a.eval s = v) (hown : OwnP w base v l) (c : Plc) (hl : l.length ≤ 10000000000) (hbase : base ≤ w.heap.size)
    (hx : a.eval x = .slice (some ⟨w.heap.size, 0, none⟩) 1 1)
    (h : ∀ g' cap w', OwnP w' base (.slice (some ⟨g', 0, none⟩) (l.length + 1) cap) (l ++ [c]) → w.grownBy w' v.ownBlock → (v.ownBlock = some g' ∨ w.heap.size < g') → wpList Try.prog ops Q rest (a.put o.dst (.slice (some ⟨g', 0, none⟩) (l.length + 1) cap)) w') :
    wpList Try.prog ops Q (o :: rest) a (w.alloc (.cells #[.int .i64 c.q, .int .i64 c.i] 64)) := by
  obtain ⟨i0, hi, hz0, hz1, hz2⟩ := info_parts infoP0
  refine wpList_append_lies _ hgd s x 85 ho base 64 i0 _ 2 16 Try.underlying85 hi hz0 hz1 hz2 rfl (by decide) v l.length (plcsCells l) hs (World.ownsRow.alloc hown _) ⟨w.heap.size, 0, none⟩ 1 1
    [.int .i64 c.q, .int .i64 c.i] hx rfl ?_ ?_ (by decide) (by simp only [maxLen]; omega) (by omega) (by simp; omega) (w.heap.size + 1) (by simp) ?_
  · intro j u hu
    match j, hu with
    | 0, hu => simp at hu; subst hu; simp [go_sem, Addr.add]
    | 1, hu => simp at hu; subst hu; simp [go_sem, Addr.add]
  · intro u hu
    simp at hu
    rcases hu with rfl | rfl <;> rfl
  · intro g' cap w' h1 h2 h3 _
    refine h g' cap w' ?_ ?_ (h3.imp_right fun e => by omega)
    · unfold OwnP
      rw [plcsCells_snoc, List.length_append]
      exact h1
    · exact ⟨h2.os, h2.tape, h2.output, Nat.le_trans (by simp) h2.size, fun k hk hne => (h2.block k (by simp; omega) hne).trans (Below.heap_alloc w _ k hk)⟩

set_option maxHeartbeats 1000000 in
theorem ends_any (w₀ w : World) (B S g bN : Nat) (va vf vin lv fv : Value) (m : Int) (F : PFst) (xs : List Int) (V : Plc → Bool) (h0 : w₀.heap.size = B) (hB : Below B w₀ w) (hf : RdI w₀ vf F.final) (hx : RdI w₀ vin xs)
    (hfin : ∀ q, q ∈ F.final → 0 ≤ q ∧ q < F.states) (hS : F.states ≤ 4096) (hX : xs.length ≤ 1000) (hk : FinB w B S va vf g vin lv m fv) (hm : OwnM MB w bN (boxP S xs.length) (setF V)) :
    Calls Try.prog 55 #[.pointer (some ⟨B, 0, none⟩), .map (some bN)] w fun e w' => e = .returned (.bool (F.final.any fun t => V ⟨t, xs.length⟩)) ∧ w = w' := by
  obtain ⟨A', n', c', rfl, h1', h2', hn', hr'⟩ := hf.op
  obtain ⟨Ax, nx, cx, rfl, h1x, h2x, hnx, hrx⟩ := hx.op
  obtain rfl := hnx.out
  clear hnx
  have HB0 := Lib.hid hB
  have H0 := Lib.hid h0
  have HFI := Lib.hid hfin
  have HM := Lib.hid hm
  have hBl := hk.lt
  obtain ⟨k0, k1, k2, k3, k4, k5, k6, k7⟩ := hk.cells
  clear hB h0 hf hx hfin hk hm
  go_enter Try.func55, Try.ntmps55
  go_wp2_with fail
  go_loop [13] (fun i => ∃ k : Nat, k ≤ n' ∧ i = .int .i64 k ∧ Hid ((F.final.any fun t => V ⟨t, xs.length⟩) = (F.final.drop k).any fun t => V ⟨t, xs.length⟩)) (fun i => n' - (intOf i).toNat)
  case atStart => exact ⟨0, Nat.zero_le _, rfl, rfl⟩
  case round =>
    obtain ⟨k, hk, rfl, HP⟩ := hrel
    by_cases hlt : k < n'
    · obtain ⟨b, off, x, rfl, hbl, hd, e0⟩ := (hr'.out k hlt).below (by rw [H0.out]; exact HB0.out)
      obtain ⟨x0, x1⟩ := HFI.out x (List.mem_of_mem_drop (by rw [hd.out]; exact List.mem_cons_self))
      have hl : (Instr.lookup 65 (.map (some bN)) (.agg #[.int .i64 x, .int .i64 (xs.length : Int)]) false).run Try.prog w = .ok (.bool ((setF V ⟨x, xs.length⟩).getD false)) w := HM.out.look ⟨x, xs.length⟩ ⟨by unfold InI; simp only; omega, by unfold InI; simp only; omega⟩
      rw [setF_getD] at hl
      clear x0 x1
      have HD : Hid ((F.final.any fun t => V ⟨t, xs.length⟩) = (V ⟨x, xs.length⟩ || (F.final.drop (k + 1)).any fun t => V ⟨t, xs.length⟩)) := by rw [Hid, HP.out, hd.out]; rfl
      obtain ⟨bb, hbb⟩ : ∃ bb, V ⟨x, xs.length⟩ = bb := ⟨_, rfl⟩
      rw [hbb] at hl HD
      clear hbb
      cases bb
      · go_wp2_with fail
        go_round
        case rel => exact ⟨k + 1, by omega, by go_num, by rw [Hid, HD.out]; rfl⟩
        case measure => simp [intOf]; omega
      · go_wp2_with fail
        go_ret
        exact ⟨by rw [HD.out]; rfl, rfl⟩
    · go_wp2_with fail
      go_ret
      refine ⟨?_, rfl⟩
      rw [HP.out, List.drop_of_length_le (by rw [hn'.out]; omega)]
      rfl
end Go.Proofs.Ytmejihlplbeekaa
