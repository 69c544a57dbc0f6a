/-
  The part of older texts that this seat needs (printed by shake.py): U1
-/
import Derived.Test.YtdijlakeonionaaZ3
/-
  reach of fst.
-/
namespace Go.Proofs.Ytdijlakeonionaa
open Go.ChangeShapes Go.WideShapes Go.ChangeAt Go.RowKit
theorem OwnI.last {w : World} {base : Nat} {v : Value} {l : List Int} {x : Int} (h : OwnI w base v (l ++ [x])) :
    ∃ g cap, v = .slice (some ⟨g, 0, none⟩) (l.length + 1) cap ∧ l.length + 1 ≤ cap ∧ cap ≤ 9223372036854775807 ∧ g < w.heap.size ∧ w.cell? ⟨g, l.length, none⟩ = some (.int .i64 x) ∧
      OwnI w base (.slice (some ⟨g, 0, none⟩) l.length cap) l := by
  obtain ⟨h1, h2⟩ := h
  rcases h2 with ⟨_, h0⟩ | ⟨g, cap, cur, rfl, hg, hh, hnc, hcap, hsz, hx⟩
  · simp at h0
  · simp only [List.length_append, List.length_cons, List.length_nil, Nat.zero_add, Nat.mul_one] at hnc hx ⊢
    refine ⟨g, cap, rfl, hnc, hcap, (Array.getElem?_eq_some_iff.1 hh).1, ?_, by simp, .inr ⟨g, cap, cur, rfl, hg, hh, by omega, hcap, hsz, ?_⟩⟩
    · rw [cell_of_row w g _ cur _ (0, 0) hh]
      have e : ((l ++ [x]).map (Value.int .i64))[l.length]? = some (.int .i64 x) := by simp
      rw [← e, ← hx, List.getElem?_take, if_pos (by omega)]
      simp
    · have e2 : ((l ++ [x]).map (Value.int .i64)).take l.length = l.map (Value.int .i64) := by rw [List.map_append, List.take_append_of_le_length (by simp), List.take_of_length_le (by simp)]
      rw [Nat.mul_one, ← e2, ← hx, List.take_take]
      congr 1
      omega
theorem OwnI.len {w : World} {base : Nat} {A : Option Addr} {n c : Nat} {l : List Int} (h : OwnI w base (.slice A n c) l) : n = l.length := by
  obtain ⟨_, _, _, he⟩ := own_slice h
  cases he
  rfl
theorem wpList_app_intL {ops : Array Oper} {rest : List Oper} {o : Oper} {a : Act} {Q : Exit → Act → World → Prop} {w : World} (hgd : o.guard = none) (s x : Operand)
    (ho : o.op = .call { callee := .builtin .append, args := #[s, x], argTypes := #[25, 25] })
    (base : Nat) (v : Value) (l : List Int) (hs : a.eval s = v) (hown : OwnI w base v l) (x0 : Int) (hl : l.length ≤ 1000000) (hbase : base ≤ w.heap.size)
    (hx : a.eval x = .slice (some ⟨w.heap.size, 0, none⟩) 1 1)
    (h : ∀ g' cap w', OwnI w' base (.slice (some ⟨g', 0, none⟩) (l.length + 1) cap) (l ++ [x0]) → w.grownBy w' v.ownBlock → (v.ownBlock = some g' ∨ w.heap.size < g') → wpList Try.prog ops Q rest (a.put o.dst (.slice (some ⟨g', 0, none⟩) (l.length + 1) cap)) w') :
    wpList Try.prog ops Q (o :: rest) a (w.alloc (.cells #[.int .i64 x0] 3)) := by
  obtain ⟨i0, hi, hz0, hz1, hz2⟩ := info_parts infoI0
  refine wpList_append_lies _ hgd s x 25 ho base 3 i0 _ 1 8 Try.underlying25 hi hz0 hz1 hz2 rfl (by decide) v l.length (l.map (Value.int .i64)) hs (World.ownsRow.alloc hown _) ⟨w.heap.size, 0, none⟩ 1 1
    [.int .i64 x0] hx rfl ?_ ?_ (by decide) (by simp only [maxLen]; omega) (by omega) (by simp; omega) (w.heap.size + 1) (by simp) ?_
  · intro j u hu
    match j, hu with
    | 0, hu => simp at hu; subst hu; simp [go_sem, Addr.add]
  · intro u hu
    simp at hu
    subst hu
    rfl
  · intro g' cap w' h1 h2 h3 _
    refine h g' cap w' ?_ ?_ (h3.imp_right fun e => by omega)
    · unfold OwnI
      rw [List.map_append, List.length_append]
      exact h1
    · exact ⟨h2.os, h2.tape, h2.output, Nat.le_trans (by simp) h2.size, fun k hk hne => (h2.block k (by simp; omega) hne).trans (Below.heap_alloc w _ k hk)⟩
theorem infoLx : ∃ i, Try.prog.info? 25 = some i ∧ i.zero = some (.slice none 0 0) ∧ i.size = 1 ∧ i.bytes = 24 := by
  obtain ⟨i0, hi, hz0, hz1, hz2⟩ := info_parts infoL0
  exact ⟨i0, hi, hz0, hz1, hz2⟩
def nCells (L : List PArc) (d : Bool) (q : Nat) : List Value := (nexts L d q).map (Value.int .i64)
/-- the table of what follows, while it is filled -/
def NTbl (w : World) (base g S : Nat) (L : List PArc) (d : Bool) : Prop := ∃ vs, vs.length = S ∧ Tbl 25 3 1 w base g vs (fun q => (nexts L d q).length) (nCells L d)
theorem NTbl.push {w w1 : World} {base g S : Nat} {L : List PArc} {d : Bool} {vs : List Value} (hS : vs.length = S) (h : Tbl 25 3 1 w base g vs (fun q => (nexts L d q).length) (nCells L d)) {a : PArc} {q : Nat} {v : Value} (hq : vs[q]? = some v) (ha : srcA d a = (q : Int)) (hg : w.grownBy w1 v.ownBlock) {g' cap : Nat}
    (ho : OwnI w1 base (.slice (some ⟨g', 0, none⟩) ((nexts L d q).length + 1) cap) (nexts L d q ++ [dstA d a])) (hl : v.ownBlock = some g' ∨ w.heap.size ≤ g') :
    NTbl (w1.setCell ⟨g, q, none⟩ (.slice (some ⟨g', 0, none⟩) ((nexts L d q).length + 1) cap)) base g S (L ++ [a]) d := by
  have ho' : w1.ownsRow base 3 1 (.slice (some ⟨g', 0, none⟩) ((nexts L d q).length + 1) cap) ((nexts L d q).length + 1) ((nexts L d q ++ [dstA d a]).map (Value.int .i64)) := by
    have := ho
    unfold OwnI at this
    rw [List.length_append] at this
    exact this
  refine ⟨_, by simpa using hS, h.push hq hg ho' hl ?_ ?_ ?_⟩
  · simp [nexts_snoc, ha]
  · simp [nCells, nexts_snoc, ha]
  · intro q' hne
    have hne' : ¬ srcA d a = (q' : Int) := by omega
    simp [nCells, nexts_snoc, hne']
/-- the table as it is read -/
def NRd (w : World) (g S : Nat) (L : List PArc) (d : Bool) : Prop := RTbl 1 w g S (fun q => (nexts L d q).length) (nCells L d)
theorem NRd.at_ {w : World} {g S : Nat} {L : List PArc} {d : Bool} (h : NRd w g S L d) {q : Nat} (hq : q < S) : ∃ A n c, w.cell? ⟨g, q, none⟩ = some (.slice A n c) ∧ RdI w (.slice A n c) (nexts L d q) := by
  obtain ⟨v, h1, h2⟩ := h.2 q hq
  have h3 : RdI w v (nexts L d q) := h2
  obtain ⟨A, n, c, rfl, _, _, _, _⟩ := h3.op
  exact ⟨A, n, c, h1, h3⟩
set_option maxHeartbeats 400000 in
theorem edge_fwd (x0 x1 x2 x3 : Int) (w : World) : Calls Try.prog 86 #[.agg #[.int .i64 x0, .int .i64 x1, .int .i64 x2, .int .i64 x3]] w fun e w' => e = .returned (.tuple #[.int .i64 x0, .int .i64 x3]) ∧ Below w.heap.size w w' := by
  go_enter Try.func86, Try.ntmps86
  go_wp2_with fail
  go_quiet (fail)
  go_wp2_with fail
  go_ret2
  exact ⟨rfl, by repeat (first | assumption | exact Below.refl _ _ | refine Below.alloc ?_ (by first | omega | (simp; done) | (simp; omega)) _ | refine Below.drew ?_ | refine below_drewN ?_ _ | refine Below.setCell ?_ (by first | omega | (simp; done) | (simp; omega)) _)⟩
set_option maxHeartbeats 400000 in
theorem edge_back (x0 x1 x2 x3 : Int) (w : World) : Calls Try.prog 87 #[.agg #[.int .i64 x0, .int .i64 x1, .int .i64 x2, .int .i64 x3]] w fun e w' => e = .returned (.tuple #[.int .i64 x3, .int .i64 x0]) ∧ Below w.heap.size w w' := by
  go_enter Try.func87, Try.ntmps87
  go_wp2_with fail
  go_quiet (fail)
  go_wp2_with fail
  go_ret2
  exact ⟨rfl, by repeat (first | assumption | exact Below.refl _ _ | refine Below.alloc ?_ (by first | omega | (simp; done) | (simp; omega)) _ | refine Below.drew ?_ | refine below_drewN ?_ _ | refine Below.setCell ?_ (by first | omega | (simp; done) | (simp; omega)) _)⟩
set_option maxHeartbeats 4000000 in
set_option maxRecDepth 100000 in
theorem reach_fwd (w : World) (S : Nat) (vf va : Value) (L : List PArc) (fm : List Int) (hf : RdI w vf fm) (ha : RdA w va L) (hL : ∀ a, a ∈ L → 0 ≤ srcA false a ∧ srcA false a < S ∧ 0 ≤ dstA false a ∧ dstA false a < S) (hfm : ∀ q, q ∈ fm → 0 ≤ q ∧ q < S) (hS : S ≤ 100000) (hLl : L.length ≤ 1000000) (hfl : fm.length ≤ 1000000) :
    Calls Try.prog 85 #[.int .i64 (S : Int), vf, .func (.func 86) #[] #[], va] w fun e w' => (∃ g, e = .returned (.slice (some ⟨g, 0, none⟩) S S) ∧ ∃ M, Bls w' g M ∧ M.length = S ∧ ∀ q : Nat, M.getD q false = true ↔ Rch L false (· ∈ fm) (q : Int)) ∧ Below w.heap.size w w' := by
  obtain ⟨A, n, c, rfl, h1, h2, hn, hr⟩ := ha.op
  obtain ⟨A', n', c', rfl, h1', h2', hn', hr'⟩ := hf.op
  have HL := Lib.hid hL
  have HF := Lib.hid hf
  have HFM := Lib.hid hfm
  have HFL := Lib.hid hfl
  have HLL := Lib.hid hLl
  have hnl : n ≤ 1000000 := by rw [← hn.out]; exact hLl
  clear hL hf ha hfm hfl hLl hr'
  have hmk := fun W => run_make_rowN (P := Try.prog) 41 25 infoLx.choose (.slice none 0 0) Try.underlying41 infoLx.choose_spec.1 infoLx.choose_spec.2.1 .i64 .i64 S S (Nat.le_refl _) (by rw [infoLx.choose_spec.2.2.2]; omega) (by omega) W
  rw [infoLx.choose_spec.2.2.1, made_nils] at hmk
  have hmb := fun W => run_make_rowN (P := Try.prog) 102 4 infoB.choose (.bool false) Try.underlying102 infoB.choose_spec.1 infoB.choose_spec.2.1 .i64 .i64 S S (Nat.le_refl _) (by rw [infoB.choose_spec.2.2.2]; omega) (by omega) W
  rw [infoB.choose_spec.2.2.1, made_bools] at hmb
  go_enter Try.func85, Try.ntmps85
  go_wp2_with fail
  generalize hX : World.alloc w _ = X
  obtain ⟨g, hg⟩ : ∃ g, w.heap.size = g := ⟨_, rfl⟩
  have HG0 := Lib.hid hg
  have HT : Hid (NTbl X g g S [] false) := by
    rw [← hX, ← List.toArray_replicate]
    exact ⟨List.replicate S (.slice none 0 0), by simp, Tbl.made (by decide) w S g (Nat.le_refl _) hg⟩
  have HBX : Hid (Below g w X) := by rw [← hX, ← hg]; exact (Below.refl _ _).alloc (Nat.le_refl _) _
  rw [hg]
  clear hX hg hmk
  go_loopw [21] (fun i wr => ∃ k : Nat, k ≤ n ∧ i = .int .i64 k ∧ Hid (NTbl wr g g S (L.take k) false) ∧ Hid (Below g w wr)) (fun i _ => n - (intOf i).toNat)
  case atStart => exact ⟨0, Nat.zero_le _, rfl, HT.out, HBX.out⟩
  case round =>
    obtain ⟨k, hk, rfl, HTK, HBK⟩ := hrel
    by_cases hlt : k < n
    · obtain ⟨bb, off, x0, x1, x2, x3, rfl, hbb, hdr, e0, e1, e2, e3⟩ := (hr.out k hlt).below (by rw [HG0.out]; exact HBK.out)
      have HTA : Hid (L.take (k + 1) = L.take k ++ [⟨x0, x1, x2, x3⟩]) := take_of_drop hdr.out
      obtain ⟨y0, y1, y2, y3⟩ := HL.out _ (List.mem_of_mem_drop (by rw [hdr.out]; exact List.mem_cons_self))
      simp only [srcA, dstA, if_false, Bool.false_eq_true] at y0 y1 y2 y3
      obtain ⟨q, hq⟩ : ∃ q : Nat, x0 = (q : Int) := ⟨(x0).toNat, by omega⟩
      obtain ⟨p, hp⟩ : ∃ p : Nat, x3 = (p : Int) := ⟨(x3).toNat, by omega⟩
      subst hq
      subst hp
      have hqS : q < S := by omega
      clear y0 y1 y2 y3
      obtain ⟨vs, hvs, htb⟩ := HTK.out
      have HVS := Lib.hid hvs
      obtain ⟨vq, hvq⟩ : ∃ vq, vs[q]? = some vq := ⟨vs[q]'(by omega), List.getElem?_eq_getElem (by omega)⟩
      have HVQ := Lib.hid hvq
      have HTB := Lib.hid htb
      clear hvs htb hvq HTK
      go_wp2_with fail
      obtain ⟨wo, rfl⟩ : ∃ wo : World, wo = wr := ⟨_, rfl⟩
      generalize hY : World.alloc wo _ = Y
      obtain ⟨ga, hga⟩ : ∃ ga, wo.heap.size = ga := ⟨_, rfl⟩
      have HYB : Hid (Below wo.heap.size wo Y) := by rw [← hY]; exact (Below.refl _ _).alloc (Nat.le_refl _) _
      clear hY hga e0 e1 e2 e3
      refine (edge_fwd _ _ _ _ _).mono ?_
      rintro e Z ⟨rfl, hbz⟩
      have HZB : Hid (Below wo.heap.size wo Z) := bchain HYB.out hbz
      have HTZ := Lib.hid (HTB.out.below HZB.out)
      have HBZ : Hid (Below g w Z) := HBK.out.trans (HZB.out.mono (by have := HBK.out.size; have := HG0.out; omega))
      clear hbz HYB HTB HBK
      have hgl := HTZ.out.lt
      have hcz := HTZ.out.cell HVQ.out
      have HROW : Hid (OwnI Z g vq (nexts (L.take k) false q)) := HTZ.out.row q vq HVQ.out
      have hlen : (nexts (L.take k) false q).length ≤ 1000000 := Nat.le_trans (nexts_len _ _ _) (by rw [List.length_take]; omega)
      have hgZ : g ≤ Z.heap.size := by omega
      have hq0 : (0 : Int) ≤ (q : Int) := by omega
      have hq1 : (q : Int) < (S : Int) := by omega
      go_wp2_with (at_builtin; refine wpList_app_intL rfl (.tmp 36) (.tmp 38) rfl g vq (nexts (L.take k) false q) rfl HROW.out (p : Int) hlen hgZ rfl ?_; intro g' cap w3 ho hgr hloc; obtain ⟨m1, m2, m3⟩ := HTZ.out.mid HVQ.out hgr; have hgl3 : g < w3.heap.size := Nat.lt_of_lt_of_le HTZ.out.lt hgr.size; have HO := Lib.hid ho; have HGR := Lib.hid hgr; have HLOC := Lib.hid hloc; clear ho hgr hloc m3)
      go_roundw
      case rel =>
        have hp := NTbl.push HVS.out HTZ.out HVQ.out (a := ⟨(q : Int), x1, x2, (p : Int)⟩) (by simp [srcA]) HGR.out HO.out (HLOC.out.imp_right Nat.le_of_lt)
        rw [← HTA.out] at hp
        refine ⟨k + 1, by omega, by go_num, hp, ?_⟩
        exact (HBZ.out.grown HGR.out hgZ (fun j hj => (World.ownsRow.lt HROW.out j hj).1)).setCell (p := ⟨g, q, none⟩) (Nat.le_refl _) _
      case measure => simp [intOf]; omega
    · obtain ⟨vs, hvs, htb⟩ := HTK.out
      have hrd := htb.rd
      rw [hvs, List.take_of_length_le (by rw [hn.out]; omega)] at hrd
      have HNR : Hid (NRd wr g S L false) := hrd
      have HBW : Hid (Below w.heap.size w wr) := by rw [HG0.out]; exact HBK.out
      clear hvs htb hrd HTK HBK HT HBX
      go_wp2_with fail
      obtain ⟨wo, rfl⟩ : ∃ wo : World, wo = wr := ⟨_, rfl⟩
      generalize hY : World.alloc wo _ = Y
      obtain ⟨gm, hgm⟩ : ∃ gm, wo.heap.size = gm := ⟨_, rfl⟩
      have HMY : Hid (Bls Y gm (List.replicate S false)) := by rw [← hY, ← hgm]; exact heap_alloc_new wo _
      have HYB : Hid (Below gm wo Y) := by rw [← hY, ← hgm]; exact (Below.refl _ _).alloc (Nat.le_refl _) _
      have HGM0 := Lib.hid hgm
      rw [hgm]
      clear hY hgm hmb
      refine (clone_any _ fm _ (HF.out.below (bchain HBW.out (by rw [HGM0.out]; exact HYB.out))) HFL.out).mono ?_
      rintro e Z ⟨⟨vq, rfl, hq⟩, hbz⟩
      have HMZ := Lib.hid (HMY.out.below hbz)
      have HBZ : Hid (Below gm wo Z) := HYB.out.trans (hbz.mono (by have := HMY.out.lt; omega))
      have HQ : Hid (OwnI Z gm vq fm) := own_base hq (by have := HMY.out.lt; omega)
      obtain ⟨_, Aq, cq, rfl⟩ := own_slice hq
      clear hbz hq HMY HYB
      go_wp2_with fail
      have HIN : Hid (RInv L false S fm (List.replicate S false) fm) := RInv.start HFM.out
      go_loopg [15] (fm.length + L.length) (fun gk v15 wr => ∃ (Aq : Option Addr) (nq cq : Nat) (Qs : List Int) (M : List Bool), v15 = .slice Aq nq cq ∧ Hid (OwnI wr gm (.slice Aq nq cq) Qs) ∧ Hid (Bls wr gm M) ∧ Hid (RInv L false S fm M Qs) ∧ Hid (Qs.length + (restA L false M).length ≤ gk) ∧ Hid (Below gm wo wr))
      case atStart => exact ⟨_, _, _, fm, _, rfl, HQ.out, HMZ.out, HIN.out, HIN.out.cnt, HBZ.out⟩
      case round =>
        obtain ⟨Aq, nq, cq2, Qs, M, rfl, HQ2, HM2, HI2, HG2, HB2⟩ := hrel
        clear HQ HMZ HIN HBZ
        rcases List.eq_nil_or_concat Qs with rfl | ⟨Qs', y, rfl⟩
        · have hnq : nq = 0 := HQ2.out.len
          subst hnq
          go_wp2_with fail
          go_ret
          exact ⟨⟨gm, rfl, M, HM2.out, HI2.out.len, HI2.out.done (fun a ha => ⟨(HL.out a ha).1, (HL.out a ha).2.2⟩) (fun q hq => (HFM.out q hq).1)⟩, bchain HBW.out (by rw [HGM0.out]; exact HB2.out)⟩
        · have hsnoc : Qs'.concat y = Qs' ++ [y] := by simp
          simp only [hsnoc] at HQ2 HI2 HG2
          clear hsnoc
          obtain ⟨gr, cap, he, hcap, hcap2, hgr, q0, hq'⟩ := HQ2.out.last
          cases he
          obtain ⟨y0, y1, _⟩ := HI2.out.qs y (by simp)
          obtain ⟨q, rfl⟩ : ∃ q : Nat, y = (q : Int) := ⟨y.toNat, by omega⟩
          have hqS : q < S := by omega
          clear y0 y1
          have HQP := Lib.hid hq'
          have hql : Qs'.length ≤ 2000000 := by have := HI2.out.cnt; have := HFL.out; have := HLL.out; simp at *; omega
          obtain ⟨ql, hql0⟩ : ∃ ql, Qs'.length = ql := ⟨_, rfl⟩
          rw [hql0] at hcap q0 HQP hql ⊢
          have HQL := Lib.hid hql0
          clear hq' HQ2 hql0
          have hq0 : (0 : Int) ≤ (q : Int) := by omega
          have hq1 : (q : Int) < (S : Int) := by omega
          have hgl := HM2.out.lt
          have hck := HM2.out.cell (j := q) (by rw [HI2.out.len]; exact hqS)
          have hfk := HM2.out.free q
          cases hm : M.getD q false
          · rw [hm] at hck
            have HMQ := Lib.hid hm
            clear hm
            have hgw : g < gm := by have := HNR.out.1; have := HGM0.out; omega
            obtain ⟨Aa, na, ca, hta, hra⟩ := HNR.out.at_ hqS
            have htaw := (HB2.out.cell (p := ⟨g, q, none⟩) hgw).trans hta
            have hglw : g < wr.heap.size := World.block_lt_of_cell? wr _ htaw
            have HNE : Hid ((Value.slice (some ⟨gr, 0, none⟩) ql cq2).ownBlock ≠ some gm) := by
              intro e
              obtain ⟨cs, hc⟩ := row_type HQP.out e
              have h2 := HM2.out
              unfold Bls at h2
              rw [h2] at hc
              injection hc with hc2
              injection hc2 with _ h3
              exact absurd h3 (by decide)
            generalize hV : wr.setCell ⟨gm, q, none⟩ (.bool true) = V
            have HMV : Hid (Bls V gm (M.set q true)) := by rw [← hV]; exact HM2.out.set_ q
            have HBV : Hid (Below gm wo V) := by rw [← hV]; exact HB2.out.setCell (p := ⟨gm, q, none⟩) (Nat.le_refl _) _
            have HQV : Hid (OwnI V gm (.slice (some ⟨gr, 0, none⟩) ql cq2) Qs') := by
              rw [← hV]
              exact own_setCell HQP.out HNE.out _ _
            have hgw : g < gm := by have := HNR.out.1; have := HGM0.out; omega
            obtain ⟨Aa, na, ca, hta, hra⟩ := HNR.out.at_ hqS
            have htaw := (HBV.out.cell (p := ⟨g, q, none⟩) hgw).trans hta
            have hglw : g < V.heap.size := World.block_lt_of_cell? V _ htaw
            have HRA : Hid (RdI V (.slice Aa na ca) (nexts L false q)) := hra.below (by rw [HGM0.out]; exact HBV.out)
            have hlx : Qs'.length + (nexts L false q).length ≤ 300000000 := by have := nexts_len L false q; have := HLL.out; have := HQL.out; omega
            have hgV : gm ≤ V.heap.size := Nat.le_of_lt HMV.out.lt
            clear hta hra
            have hV2 := hV
            go_wp2_with (at_builtin; refine wpList_app_ints rfl (.tmp 68) (.tmp 72) rfl gm (.slice (some ⟨gr, 0, none⟩) ql cq2) Qs' rfl HQV.out (.slice Aa na ca) (nexts L false q) rfl HRA.out hlx hgV ?_; intro v8 w8 ho8 hg8 hor8; have HO8 := Lib.hid ho8; have HG8 := Lib.hid hg8; obtain ⟨_, A8, c8, rfl⟩ := own_slice ho8; clear ho8 hg8 hor8)
            have HIM := Lib.hid (HI2.out.mark (fun a ha => ⟨(HL.out a ha).1, (HL.out a ha).2.2⟩) HMQ.out)
            have HRS := Lib.hid (restA_set L false M q (fun a ha => (HL.out a ha).1) (by rw [HI2.out.len]; exact hqS) HMQ.out)
            go_roundg ((Qs' ++ nexts L false q).length + (restA L false (M.set q true)).length)
            case measure => have h1 := HG2.out; have h2 := HRS.out; simp only [List.length_append, List.length_cons, List.length_nil] at h1 ⊢; omega
            case rel => exact ⟨_, _, _, Qs' ++ nexts L false q, M.set q true, rfl, by rw [← List.length_append]; exact HO8.out, (HG8.out.block gm HMV.out.lt (Ne.symm HNE.out)).trans HMV.out, HIM.out, Nat.le_refl _, HBV.out.grown HG8.out hgV (fun j hj => (World.ownsRow.lt HQV.out j hj).1)⟩
          · rw [hm] at hck
            have HMQ := Lib.hid hm
            clear hm
            go_wp2_with fail
            go_roundg (ql + (restA L false M).length)
            case measure => have := HG2.out; rw [← HQL.out]; simp at this; omega
            case rel => exact ⟨_, _, _, Qs', M, rfl, HQP.out, HM2.out, HI2.out.skip HMQ.out, by rw [HQL.out]; exact Nat.le_refl _, HB2.out⟩
set_option maxHeartbeats 4000000 in
set_option maxRecDepth 100000 in
theorem reach_back (w : World) (S : Nat) (vf va : Value) (L : List PArc) (fm : List Int) (hf : RdI w vf fm) (ha : RdA w va L) (hL : ∀ a, a ∈ L → 0 ≤ srcA true a ∧ srcA true a < S ∧ 0 ≤ dstA true a ∧ dstA true a < S) (hfm : ∀ q, q ∈ fm → 0 ≤ q ∧ q < S) (hS : S ≤ 100000) (hLl : L.length ≤ 1000000) (hfl : fm.length ≤ 1000000) :
    Calls Try.prog 85 #[.int .i64 (S : Int), vf, .func (.func 87) #[] #[], va] w fun e w' => (∃ g, e = .returned (.slice (some ⟨g, 0, none⟩) S S) ∧ ∃ M, Bls w' g M ∧ M.length = S ∧ ∀ q : Nat, M.getD q false = true ↔ Rch L true (· ∈ fm) (q : Int)) ∧ Below w.heap.size w w' := by
  obtain ⟨A, n, c, rfl, h1, h2, hn, hr⟩ := ha.op
  obtain ⟨A', n', c', rfl, h1', h2', hn', hr'⟩ := hf.op
  have HL := Lib.hid hL
  have HF := Lib.hid hf
  have HFM := Lib.hid hfm
  have HFL := Lib.hid hfl
  have HLL := Lib.hid hLl
  have hnl : n ≤ 1000000 := by rw [← hn.out]; exact hLl
  clear hL hf ha hfm hfl hLl hr'
  have hmk := fun W => run_make_rowN (P := Try.prog) 41 25 infoLx.choose (.slice none 0 0) Try.underlying41 infoLx.choose_spec.1 infoLx.choose_spec.2.1 .i64 .i64 S S (Nat.le_refl _) (by rw [infoLx.choose_spec.2.2.2]; omega) (by omega) W
  rw [infoLx.choose_spec.2.2.1, made_nils] at hmk
  have hmb := fun W => run_make_rowN (P := Try.prog) 102 4 infoB.choose (.bool false) Try.underlying102 infoB.choose_spec.1 infoB.choose_spec.2.1 .i64 .i64 S S (Nat.le_refl _) (by rw [infoB.choose_spec.2.2.2]; omega) (by omega) W
  rw [infoB.choose_spec.2.2.1, made_bools] at hmb
  go_enter Try.func85, Try.ntmps85
  go_wp2_with fail
  generalize hX : World.alloc w _ = X
  obtain ⟨g, hg⟩ : ∃ g, w.heap.size = g := ⟨_, rfl⟩
  have HG0 := Lib.hid hg
  have HT : Hid (NTbl X g g S [] true) := by
    rw [← hX, ← List.toArray_replicate]
    exact ⟨List.replicate S (.slice none 0 0), by simp, Tbl.made (by decide) w S g (Nat.le_refl _) hg⟩
  have HBX : Hid (Below g w X) := by rw [← hX, ← hg]; exact (Below.refl _ _).alloc (Nat.le_refl _) _
  rw [hg]
  clear hX hg hmk
  go_loopw [21] (fun i wr => ∃ k : Nat, k ≤ n ∧ i = .int .i64 k ∧ Hid (NTbl wr g g S (L.take k) true) ∧ Hid (Below g w wr)) (fun i _ => n - (intOf i).toNat)
  case atStart => exact ⟨0, Nat.zero_le _, rfl, HT.out, HBX.out⟩
  case round =>
    obtain ⟨k, hk, rfl, HTK, HBK⟩ := hrel
    by_cases hlt : k < n
    · obtain ⟨bb, off, x0, x1, x2, x3, rfl, hbb, hdr, e0, e1, e2, e3⟩ := (hr.out k hlt).below (by rw [HG0.out]; exact HBK.out)
      have HTA : Hid (L.take (k + 1) = L.take k ++ [⟨x0, x1, x2, x3⟩]) := take_of_drop hdr.out
      obtain ⟨y0, y1, y2, y3⟩ := HL.out _ (List.mem_of_mem_drop (by rw [hdr.out]; exact List.mem_cons_self))
      simp only [srcA, dstA, if_true] at y0 y1 y2 y3
      obtain ⟨q, hq⟩ : ∃ q : Nat, x3 = (q : Int) := ⟨(x3).toNat, by omega⟩
      obtain ⟨p, hp⟩ : ∃ p : Nat, x0 = (p : Int) := ⟨(x0).toNat, by omega⟩
      subst hq
      subst hp
      have hqS : q < S := by omega
      clear y0 y1 y2 y3
      obtain ⟨vs, hvs, htb⟩ := HTK.out
      have HVS := Lib.hid hvs
      obtain ⟨vq, hvq⟩ : ∃ vq, vs[q]? = some vq := ⟨vs[q]'(by omega), List.getElem?_eq_getElem (by omega)⟩
      have HVQ := Lib.hid hvq
      have HTB := Lib.hid htb
      clear hvs htb hvq HTK
      go_wp2_with fail
      obtain ⟨wo, rfl⟩ : ∃ wo : World, wo = wr := ⟨_, rfl⟩
      generalize hY : World.alloc wo _ = Y
      obtain ⟨ga, hga⟩ : ∃ ga, wo.heap.size = ga := ⟨_, rfl⟩
      have HYB : Hid (Below wo.heap.size wo Y) := by rw [← hY]; exact (Below.refl _ _).alloc (Nat.le_refl _) _
      clear hY hga e0 e1 e2 e3
      refine (edge_back _ _ _ _ _).mono ?_
      rintro e Z ⟨rfl, hbz⟩
      have HZB : Hid (Below wo.heap.size wo Z) := bchain HYB.out hbz
      have HTZ := Lib.hid (HTB.out.below HZB.out)
      have HBZ : Hid (Below g w Z) := HBK.out.trans (HZB.out.mono (by have := HBK.out.size; have := HG0.out; omega))
      clear hbz HYB HTB HBK
      have hgl := HTZ.out.lt
      have hcz := HTZ.out.cell HVQ.out
      have HROW : Hid (OwnI Z g vq (nexts (L.take k) true q)) := HTZ.out.row q vq HVQ.out
      have hlen : (nexts (L.take k) true q).length ≤ 1000000 := Nat.le_trans (nexts_len _ _ _) (by rw [List.length_take]; omega)
      have hgZ : g ≤ Z.heap.size := by omega
      have hq0 : (0 : Int) ≤ (q : Int) := by omega
      have hq1 : (q : Int) < (S : Int) := by omega
      go_wp2_with (at_builtin; refine wpList_app_intL rfl (.tmp 36) (.tmp 38) rfl g vq (nexts (L.take k) true q) rfl HROW.out (p : Int) hlen hgZ rfl ?_; intro g' cap w3 ho hgr hloc; obtain ⟨m1, m2, m3⟩ := HTZ.out.mid HVQ.out hgr; have hgl3 : g < w3.heap.size := Nat.lt_of_lt_of_le HTZ.out.lt hgr.size; have HO := Lib.hid ho; have HGR := Lib.hid hgr; have HLOC := Lib.hid hloc; clear ho hgr hloc m3)
      go_roundw
      case rel =>
        have hp := NTbl.push HVS.out HTZ.out HVQ.out (a := ⟨(p : Int), x1, x2, (q : Int)⟩) (by simp [srcA]) HGR.out HO.out (HLOC.out.imp_right Nat.le_of_lt)
        rw [← HTA.out] at hp
        refine ⟨k + 1, by omega, by go_num, hp, ?_⟩
        exact (HBZ.out.grown HGR.out hgZ (fun j hj => (World.ownsRow.lt HROW.out j hj).1)).setCell (p := ⟨g, q, none⟩) (Nat.le_refl _) _
      case measure => simp [intOf]; omega
    · obtain ⟨vs, hvs, htb⟩ := HTK.out
      have hrd := htb.rd
      rw [hvs, List.take_of_length_le (by rw [hn.out]; omega)] at hrd
      have HNR : Hid (NRd wr g S L true) := hrd
      have HBW : Hid (Below w.heap.size w wr) := by rw [HG0.out]; exact HBK.out
      clear hvs htb hrd HTK HBK HT HBX
      go_wp2_with fail
      obtain ⟨wo, rfl⟩ : ∃ wo : World, wo = wr := ⟨_, rfl⟩
      generalize hY : World.alloc wo _ = Y
      obtain ⟨gm, hgm⟩ : ∃ gm, wo.heap.size = gm := ⟨_, rfl⟩
      have HMY : Hid (Bls Y gm (List.replicate S false)) := by rw [← hY, ← hgm]; exact heap_alloc_new wo _
      have HYB : Hid (Below gm wo Y) := by rw [← hY, ← hgm]; exact (Below.refl _ _).alloc (Nat.le_refl _) _
      have HGM0 := Lib.hid hgm
      rw [hgm]
      clear hY hgm hmb
      refine (clone_any _ fm _ (HF.out.below (bchain HBW.out (by rw [HGM0.out]; exact HYB.out))) HFL.out).mono ?_
      rintro e Z ⟨⟨vq, rfl, hq⟩, hbz⟩
      have HMZ := Lib.hid (HMY.out.below hbz)
      have HBZ : Hid (Below gm wo Z) := HYB.out.trans (hbz.mono (by have := HMY.out.lt; omega))
      have HQ : Hid (OwnI Z gm vq fm) := own_base hq (by have := HMY.out.lt; omega)
      obtain ⟨_, Aq, cq, rfl⟩ := own_slice hq
      clear hbz hq HMY HYB
      go_wp2_with fail
      have HIN : Hid (RInv L true S fm (List.replicate S false) fm) := RInv.start HFM.out
      go_loopg [15] (fm.length + L.length) (fun gk v15 wr => ∃ (Aq : Option Addr) (nq cq : Nat) (Qs : List Int) (M : List Bool), v15 = .slice Aq nq cq ∧ Hid (OwnI wr gm (.slice Aq nq cq) Qs) ∧ Hid (Bls wr gm M) ∧ Hid (RInv L true S fm M Qs) ∧ Hid (Qs.length + (restA L true M).length ≤ gk) ∧ Hid (Below gm wo wr))
      case atStart => exact ⟨_, _, _, fm, _, rfl, HQ.out, HMZ.out, HIN.out, HIN.out.cnt, HBZ.out⟩
      case round =>
        obtain ⟨Aq, nq, cq2, Qs, M, rfl, HQ2, HM2, HI2, HG2, HB2⟩ := hrel
        clear HQ HMZ HIN HBZ
        rcases List.eq_nil_or_concat Qs with rfl | ⟨Qs', y, rfl⟩
        · have hnq : nq = 0 := HQ2.out.len
          subst hnq
          go_wp2_with fail
          go_ret
          exact ⟨⟨gm, rfl, M, HM2.out, HI2.out.len, HI2.out.done (fun a ha => ⟨(HL.out a ha).1, (HL.out a ha).2.2⟩) (fun q hq => (HFM.out q hq).1)⟩, bchain HBW.out (by rw [HGM0.out]; exact HB2.out)⟩
        · have hsnoc : Qs'.concat y = Qs' ++ [y] := by simp
          simp only [hsnoc] at HQ2 HI2 HG2
          clear hsnoc
          obtain ⟨gr, cap, he, hcap, hcap2, hgr, q0, hq'⟩ := HQ2.out.last
          cases he
          obtain ⟨y0, y1, _⟩ := HI2.out.qs y (by simp)
          obtain ⟨q, rfl⟩ : ∃ q : Nat, y = (q : Int) := ⟨y.toNat, by omega⟩
          have hqS : q < S := by omega
          clear y0 y1
          have HQP := Lib.hid hq'
          have hql : Qs'.length ≤ 2000000 := by have := HI2.out.cnt; have := HFL.out; have := HLL.out; simp at *; omega
          obtain ⟨ql, hql0⟩ : ∃ ql, Qs'.length = ql := ⟨_, rfl⟩
          rw [hql0] at hcap q0 HQP hql ⊢
          have HQL := Lib.hid hql0
          clear hq' HQ2 hql0
          have hq0 : (0 : Int) ≤ (q : Int) := by omega
          have hq1 : (q : Int) < (S : Int) := by omega
          have hgl := HM2.out.lt
          have hck := HM2.out.cell (j := q) (by rw [HI2.out.len]; exact hqS)
          have hfk := HM2.out.free q
          cases hm : M.getD q false
          · rw [hm] at hck
            have HMQ := Lib.hid hm
            clear hm
            have hgw : g < gm := by have := HNR.out.1; have := HGM0.out; omega
            obtain ⟨Aa, na, ca, hta, hra⟩ := HNR.out.at_ hqS
            have htaw := (HB2.out.cell (p := ⟨g, q, none⟩) hgw).trans hta
            have hglw : g < wr.heap.size := World.block_lt_of_cell? wr _ htaw
            have HNE : Hid ((Value.slice (some ⟨gr, 0, none⟩) ql cq2).ownBlock ≠ some gm) := by
              intro e
              obtain ⟨cs, hc⟩ := row_type HQP.out e
              have h2 := HM2.out
              unfold Bls at h2
              rw [h2] at hc
              injection hc with hc2
              injection hc2 with _ h3
              exact absurd h3 (by decide)
            generalize hV : wr.setCell ⟨gm, q, none⟩ (.bool true) = V
            have HMV : Hid (Bls V gm (M.set q true)) := by rw [← hV]; exact HM2.out.set_ q
            have HBV : Hid (Below gm wo V) := by rw [← hV]; exact HB2.out.setCell (p := ⟨gm, q, none⟩) (Nat.le_refl _) _
            have HQV : Hid (OwnI V gm (.slice (some ⟨gr, 0, none⟩) ql cq2) Qs') := by
              rw [← hV]
              exact own_setCell HQP.out HNE.out _ _
            have hgw : g < gm := by have := HNR.out.1; have := HGM0.out; omega
            obtain ⟨Aa, na, ca, hta, hra⟩ := HNR.out.at_ hqS
            have htaw := (HBV.out.cell (p := ⟨g, q, none⟩) hgw).trans hta
            have hglw : g < V.heap.size := World.block_lt_of_cell? V _ htaw
            have HRA : Hid (RdI V (.slice Aa na ca) (nexts L true q)) := hra.below (by rw [HGM0.out]; exact HBV.out)
            have hlx : Qs'.length + (nexts L true q).length ≤ 300000000 := by have := nexts_len L true q; have := HLL.out; have := HQL.out; omega
            have hgV : gm ≤ V.heap.size := Nat.le_of_lt HMV.out.lt
            clear hta hra
            have hV2 := hV
            go_wp2_with (at_builtin; refine wpList_app_ints rfl (.tmp 68) (.tmp 72) rfl gm (.slice (some ⟨gr, 0, none⟩) ql cq2) Qs' rfl HQV.out (.slice Aa na ca) (nexts L true q) rfl HRA.out hlx hgV ?_; intro v8 w8 ho8 hg8 hor8; have HO8 := Lib.hid ho8; have HG8 := Lib.hid hg8; obtain ⟨_, A8, c8, rfl⟩ := own_slice ho8; clear ho8 hg8 hor8)
            have HIM := Lib.hid (HI2.out.mark (fun a ha => ⟨(HL.out a ha).1, (HL.out a ha).2.2⟩) HMQ.out)
            have HRS := Lib.hid (restA_set L true M q (fun a ha => (HL.out a ha).1) (by rw [HI2.out.len]; exact hqS) HMQ.out)
            go_roundg ((Qs' ++ nexts L true q).length + (restA L true (M.set q true)).length)
            case measure => have h1 := HG2.out; have h2 := HRS.out; simp only [List.length_append, List.length_cons, List.length_nil] at h1 ⊢; omega
            case rel => exact ⟨_, _, _, Qs' ++ nexts L true q, M.set q true, rfl, by rw [← List.length_append]; exact HO8.out, (HG8.out.block gm HMV.out.lt (Ne.symm HNE.out)).trans HMV.out, HIM.out, Nat.le_refl _, HBV.out.grown HG8.out hgV (fun j hj => (World.ownsRow.lt HQV.out j hj).1)⟩
          · rw [hm] at hck
            have HMQ := Lib.hid hm
            clear hm
            go_wp2_with fail
            go_roundg (ql + (restA L true M).length)
            case measure => have := HG2.out; rw [← HQL.out]; simp at this; omega
            case rel => exact ⟨_, _, _, Qs', M, rfl, HQP.out, HM2.out, HI2.out.skip HMQ.out, by rw [HQL.out]; exact Nat.le_refl _, HB2.out⟩
end Go.Proofs.Ytdijlakeonionaa

