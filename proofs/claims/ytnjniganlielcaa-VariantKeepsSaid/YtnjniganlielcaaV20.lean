/-
  Copy of the reference of variants.
-/
import Derived.Test.YtnjniganlielcaaV19
namespace Go.Proofs.Ytnjniganlielcaa
open Go.ChangeShapes Go.WideShapes Go.ChangeAt Go.RowKit
theorem wpList_app_ent {ops : Array Oper} {rest : List Oper} {o : Oper} {a : Act} {Q : Exit → Act → World → Prop} {w : World} (hgd : o.guard = none) (s x : Operand)
    (ho : o.op = .call { callee := .builtin .append, args := #[s, x], argTypes := #[22, 22] })
    (base : Nat) (v : Value) (L : List EV) (hs : a.eval s = v) (hown : OwnV w base v L) (e : EV) (m : Nat) (hm : Hid (L.length = m)) (hl : m ≤ 100000) (hbase : base ≤ w.heap.size)
    (hx : a.eval x = .slice (some ⟨w.heap.size, 0, none⟩) 1 1)
    (h : ∀ g' cap w', OwnV w' base (.slice (some ⟨g', 0, none⟩) (m + 1) cap) (L ++ [e]) → base ≤ g' → w.grownBy w' v.ownBlock → wpList Try.prog ops Q rest (a.put o.dst (.slice (some ⟨g', 0, none⟩) (m + 1) cap)) w') :
    wpList Try.prog ops Q (o :: rest) a (w.alloc (.cells #[.int .i64 e.id, .slice e.f.A e.f.n e.f.c, .int .i64 e.cls, .slice e.a.A e.a.n e.a.c, .int .i64 e.main, .slice e.s.A e.s.n e.s.c, .slice e.l.A e.l.n e.l.c, .slice e.r.A e.r.n e.r.c] 34)) := by
  obtain rfl := hm.out
  obtain ⟨i0, hi, hz0, hz1, hz2⟩ := info_parts infoE
  refine wpList_append_own _ hgd s x 22 ho base 34 i0 _ 8 144 Try.underlying22 hi hz0 hz1 hz2 rfl (by decide) v L.length (evs L) hs (World.ownsRow.alloc hown _) ⟨w.heap.size, 0, none⟩ 1 1
    (EV.cells e) hx rfl ?_ ?_ (by simp only [maxLen]; omega) (by omega) (by simp; omega) ?_
  · intro j u hu
    have he : (⟨w.heap.size, 0, none⟩ : Addr).add j = ⟨w.heap.size, j, none⟩ := by unfold Addr.add; split <;> simp_all
    rw [he, cell_of_row _ w.heap.size j #[.int .i64 e.id, .slice e.f.A e.f.n e.f.c, .int .i64 e.cls, .slice e.a.A e.a.n e.a.c, .int .i64 e.main, .slice e.s.A e.s.n e.s.c, .slice e.l.A e.l.n e.l.c, .slice e.r.A e.r.n e.r.c] 34 (0, 0) (heap_alloc_new w _)]
    rw [← hu]
    simp [EV.cells]
  · intro u hu
    simp only [EV.cells, List.mem_cons, List.not_mem_nil, or_false] at hu
    rcases hu with rfl | rfl | rfl | rfl | rfl | rfl | rfl | rfl <;> rfl
  · intro v' w' h1 h2 _
    obtain ⟨g', cap, rfl, hg1, hg2⟩ := h1.form (by omega)
    have hg : w.grownBy w' v.ownBlock := ⟨h2.os, h2.tape, h2.output, Nat.le_trans (by simp) h2.size, fun k hk hne => (h2.block k (by simp; omega) hne).trans (Below.heap_alloc w _ k hk)⟩
    refine h g' cap w' ?_ hg1 hg
    unfold OwnV
    rw [evs_append, List.length_append]
    simpa [evs] using h1
set_option maxHeartbeats 2000000 in
set_option maxRecDepth 100000 in
theorem copy_any (v : Value) (P : List PE) (w : World) (hv : RdP w v P) (hl : P.length ≤ 100000) (hs : ∀ p ∈ P, SmP p) :
    Calls Try.prog 13 #[v] w fun e' w' => (∃ v', e' = .returned v' ∧ RdP w' v' P) ∧ Below w.heap.size w w' := by
  obtain ⟨L, hv, hdp⟩ := hv
  obtain ⟨A, n, c, rfl, h1, h2, HN, HR⟩ := hv.op
  have HDP := Lib.hid hdp
  have HS := Lib.hid hs
  have hln := hl
  rw [← hdp.length, HN.out] at hln
  clear hv hl hdp hs
  go_enter Try.func13, Try.ntmps13
  go_wp2_with fail
  go_loopw [3, 4] (fun v i wr => ∃ (k : Nat) (L' : List EV), k ≤ n ∧ i = .int .i64 k ∧ Hid (L'.length = k) ∧ Hid (OwnV wr w.heap.size v L') ∧ Hid (All2 (DoE wr w.heap.size) L' (P.take k)) ∧ Hid (Below w.heap.size w wr)) (fun _ i _ => n - (intOf i).toNat)
  case atStart => exact ⟨0, [], Nat.zero_le _, rfl, rfl, own_newR w w.heap.size _ _ 8 rfl (Nat.le_refl _), by rw [Hid, List.take_zero]; exact .nil, (Below.refl _ _).alloc (Nat.le_refl _) _⟩
  case round =>
    obtain ⟨k, L', hk, rfl, HLL, HO, HA, HB⟩ := hrel
    by_cases hlt : k < n
    · obtain ⟨b, off, e, rfl, hb, hd, hc⟩ := HR.out k hlt
      obtain ⟨c0, c1, c2, c3, c4, c5, c6, c7⟩ := hc.below HB.out hb
      have hbl : b < wr.heap.size := Nat.lt_of_lt_of_le hb HB.out.size
      have hkL : k < L.length := by rw [HN.out]; exact hlt
      have hLk : L[k]? = some e := by
        have := hd.out
        rw [List.drop_eq_getElem_cons hkL] at this
        rw [List.getElem?_eq_getElem hkL, (List.cons.inj this).1]
      obtain ⟨p, hp, hdp⟩ := HDP.out.get hLk
      have HTK : Hid (P.take (k + 1) = P.take k ++ [p]) := by
        have hkp := (List.getElem?_eq_some_iff.1 hp)
        rw [Hid, List.take_succ_eq_append_getElem hkp.1, hkp.2]
      have hsp := HS.out p (List.mem_of_getElem? hp)
      have HDE := Lib.hid hdp
      have HSP := Lib.hid hsp
      obtain ⟨AO, nO, cO, rfl, _, _, HNO, _⟩ := HO.out.rd.op
      clear hc hLk hp hdp hsp hkL
      go_wp2_with fail
      refine (copy1_any e p _ (HDE.out.below HB.out) HSP.out).mono ?_
      rintro e' w2 ⟨⟨x, rfl, hx⟩, hb2⟩
      have HB2 := Lib.hid hb2
      have HX := Lib.hid hx
      have hsz2 : wr.heap.size ≤ w2.heap.size := hb2.size
      have hwr : w.heap.size ≤ wr.heap.size := HB.out.size
      clear hb2 hx c0 c1 c2 c3 c4 c5 c6 c7
      go_wp2_with (at_builtin; refine wpList_app_ent rfl (.tmp 12) (.tmp 18) rfl w.heap.size (.slice AO nO cO) L' rfl (OwnV.below HO.out HB2.out) x k HLL (by omega) (Nat.le_trans hwr hsz2) rfl ?_; intro g' cap w3 ho3 hg3 hgr; have HO3 := Lib.hid ho3; have HGR := Lib.hid hgr; clear ho3 hgr)
      have HA3 : Hid (All2 (DoE w3 w.heap.size) (L' ++ [x]) (P.take (k + 1))) := by
        rw [Hid, HTK.out]
        refine (HA.out.mono fun a b _ _ h => (h.below HB2.out).grown (OwnV.below HO.out HB2.out) HGR.out).append (.cons ?_ .nil)
        exact (HX.out.grown (OwnV.below HO.out HB2.out) HGR.out).base hwr
      have HB3 : Hid (Below w.heap.size w w3) := below_grown (bchain HB.out HB2.out) (Nat.le_refl _) (OwnV.below HO.out HB2.out) HGR.out
      go_roundw
      case rel => exact ⟨k + 1, L' ++ [x], by omega, by go_num, by rw [Hid, List.length_append, HLL.out]; rfl, HO3.out, HA3.out, HB3.out⟩
      case measure => simp [intOf]; omega
    · have HA2 : Hid (All2 (DoE wr w.heap.size) L' P) := by
        have := HA.out
        rwa [List.take_of_length_le (by rw [← HDP.out.length, HN.out]; omega)] at this
      go_wp2_with fail
      go_ret
      exact ⟨⟨_, rfl, L', HO.out.rd, HA2.out.mono fun _ _ _ _ h => h.rd⟩, HB.out⟩
end Go.Proofs.Ytnjniganlielcaa
