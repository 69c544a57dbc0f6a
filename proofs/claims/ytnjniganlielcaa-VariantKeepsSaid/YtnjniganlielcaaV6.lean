/-
  Rows of entries and of senses of the call's own; slices.Clone; an entry gets another Main.
-/
import Derived.Test.YtnjniganlielcaaV5
namespace Go.Proofs.Ytnjniganlielcaa
open Go.ChangeShapes Go.WideShapes Go.ChangeAt Go.RowKit
section
variable {P : Program}
theorem wpList_app_rd {ops : Array Oper} {rest : List Oper} {o : Oper} {a : Act} {Q : Exit → Act → World → Prop} {w : World} (hgd : o.guard = none) (s x : Operand) (t : TypeId)
    (ho : o.op = .call { callee := .builtin .append, args := #[s, x], argTypes := #[t, t] }) (base : Nat) (e : TypeId) (z : Value) (size bytes : Nat) (ht : P.underlying t = some (.slice e))
    (hinfo : (P.info? e).map (fun i => (i.zero, i.size, i.bytes)) = some (some z, size, bytes)) (hzs : z.cells.size = size) (hsz : 0 < size)
    (v : Value) (n : Nat) (xs : List Value) (hs : a.eval s = v) (hown : w.ownsRow base e size v n xs) (vx : Value) (m : Nat) (news : List Value) (hx : a.eval x = vx) (hr : Rd w size vx m news) (h1 : ∀ u ∈ news, u.oneCell' = true)
    (h63 : n + m ≤ maxLen) (hbytes : (n + m) * bytes ≤ 140737488355328) (hbase : base ≤ w.heap.size)
    (h : ∀ v' w', w'.ownsRow base e size v' (n + m) (xs ++ news) → w.grownBy w' v.ownBlock → (v'.ownBlock = v.ownBlock ∨ v'.ownBlock = some w.heap.size) → wpList P ops Q rest (a.put o.dst v') w') :
    wpList P ops Q (o :: rest) a w := by
  obtain ⟨i, hi, hz0, hz1, hz2⟩ := info_parts hinfo
  exact wpList_plain hgd fun _ hK => wp_append_rd (P := P) w s x t ho base e i z size bytes ht hi hz0 hz1 hz2 hzs hsz v n xs hs hown vx m news hx hr h1 h63 hbytes hbase fun v' w' k1 k2 k3 => hK _ _ (h v' w' k1 k2 k3)
theorem own_newR (w : World) (base g : Nat) (e : TypeId) (size : Nat) (hg : w.heap.size = g) (hb : base ≤ g) : (w.alloc (.cells #[] e)).ownsRow base e size (.slice (some ⟨g, 0, none⟩) 0 0) 0 [] := by
  subst hg
  exact ⟨by simp, .inr ⟨w.heap.size, 0, #[], rfl, hb, heap_alloc_new w _, Nat.le_refl _, by simp [maxLen], by simp, by simp⟩⟩
theorem rd_none (w : World) (size c n : Nat) (xs : List Value) (h : Rd w size (.slice none n c) n xs) : n = 0 ∧ xs = [] := by
  obtain ⟨A, c', he, _, _, hl, hc⟩ := h
  cases he
  rcases Nat.eq_zero_or_pos n with h0 | h0
  · subst h0
    exact ⟨rfl, List.eq_nil_of_length_eq_zero (by simpa using hl)⟩
  · obtain ⟨_, _, h, _⟩ := hc h0
    cases h
end
theorem infoE : (Try.prog.info? 34).map (fun i => (i.zero, i.size, i.bytes)) = some (some (.agg #[.int .i64 0, .slice none 0 0, .int .i64 0, .slice none 0 0, .int .i64 0, .slice none 0 0, .slice none 0 0, .slice none 0 0]), 8, 144) := by kernel_rfl
theorem infoS : (Try.prog.info? 41).map (fun i => (i.zero, i.size, i.bytes)) = some (some (.agg #[.string ⟨#[]⟩, .string ⟨#[]⟩]), 2, 32) := by kernel_rfl
theorem oneCell_evs (L : List EV) : ∀ u ∈ evs L, u.oneCell' = true := by
  intro u hu
  obtain ⟨e, _, he⟩ := List.mem_flatMap.1 hu
  simp only [EV.cells, List.mem_cons, List.not_mem_nil, or_false] at he
  rcases he with rfl | rfl | rfl | rfl | rfl | rfl | rfl | rfl <;> rfl
def OwnV (w : World) (base : Nat) (v : Value) (L : List EV) : Prop := w.ownsRow base 34 8 v L.length (evs L)
theorem OwnV.rd {w : World} {base : Nat} {v : Value} {L : List EV} (h : OwnV w base v L) : RdV w v L := Rd.own h
theorem OwnV.below {w w' : World} {base : Nat} {v : Value} {L : List EV} (h : OwnV w base v L) (hb : Below w.heap.size w w') : OwnV w' base v L := own_below h hb
set_option maxHeartbeats 400000 in
theorem cloneE_any (v : Value) (L : List EV) (w : World) (hv : RdV w v L) (hl : L.length ≤ 100000) :
    Calls Try.prog 50 #[v] w fun e w' => (∃ v', e = .returned v' ∧ OwnV w' w.heap.size v' L) ∧ Below w.heap.size w w' := by
  have HV := Lib.hid hv
  have HL := Lib.hid hl
  obtain ⟨A, n, c, rfl, _, _, HN, hr⟩ := hv.op
  clear hl
  cases A with
  | none =>
    have hxs : L = [] := by
      have hv2 := hv
      unfold RdV at hv2
      rw [HN.out] at hv2
      exact List.length_eq_zero_iff.1 (HN.out.trans (rd_none _ _ _ _ _ hv2).1)
    have HXS := Lib.hid hxs
    clear hxs hv
    have q : ∀ W : World, (binOp .eql 22 (.slice none n c) (.slice none 0 0)).run Try.prog W = .ok (.bool true) W := fun W => Lib.run_eql_slice_nil W _ _ none n c 0 0 Try.underlying22
    go_enter Try.func50, Try.ntmps50
    go_wp2_with fail
    go_ret
    refine ⟨⟨_, rfl, ?_⟩, Below.refl _ _⟩
    rw [HXS.out]
    exact World.ownsRow_nil _ _ _ _
  | some ad =>
    clear hv
    have q : ∀ W : World, (binOp .eql 22 (.slice (some ad) n c) (.slice none 0 0)).run Try.prog W = .ok (.bool false) W := fun W => Lib.run_eql_slice_nil W _ _ (some ad) n c 0 0 Try.underlying22
    go_enter Try.func50, Try.ntmps50
    go_wp2_with (at_builtin; refine wpList_app_rd rfl (.tmp 5) (.tmp 6) 22 rfl w.heap.size 34 _ 8 144 Try.underlying22 infoE rfl (by decide) (.slice (some ⟨w.heap.size, 0, none⟩) 0 0) 0 [] rfl (own_newR w w.heap.size _ _ 8 rfl (Nat.le_refl _)) (.slice (some ad) n c) L.length (evs L) rfl (Rd.alloc HV.out _) (oneCell_evs L) (by have := HL.out; simp only [maxLen]; omega) (by have := HL.out; omega) (by simp) ?_; intro vc w2 ho hg _; have HO := Lib.hid ho; have HG := Lib.hid hg; clear ho hg)
    go_ret
    refine ⟨⟨_, rfl, by simpa [OwnV] using HO.out⟩, ((Below.refl _ _).alloc (Nat.le_refl _) _).grown HG.out (by simp) (fun k hk => by simp [Value.ownBlock] at hk; omega)⟩
end Go.Proofs.Ytnjniganlielcaa
