/-
  outgoing of fst: the arcs of each state.
-/
import Derived.Test.YtmejihlplbeekaaF1
import Derived.Test.YtmejihlplbeekaaF2
namespace Go.Proofs.Ytmejihlplbeekaa
open Go.ChangeShapes Go.WideShapes Go.ChangeAt Go.RowKit
def arcsOf (L : List PArc) (q : Nat) : List PArc := L.filter fun a => a.fr == (q : Int)
theorem arcsOf_snoc (L : List PArc) (a : PArc) (q : Nat) : arcsOf (L ++ [a]) q = arcsOf L q ++ if a.fr = (q : Int) then [a] else [] := by
  simp only [arcsOf, List.filter_append, List.filter_cons, List.filter_nil, beq_iff_eq]
theorem arcsOf_len (L : List PArc) (q : Nat) : (arcsOf L q).length ≤ L.length := List.length_filter_le _ _
/-- the table of outgoing arcs, as it is read -/
def Arcs (w : World) (g S : Nat) (L : List PArc) : Prop := RTbl 4 w g S (fun q => (arcsOf L q).length) (fun q => arcsCells (arcsOf L q))
theorem Arcs.below {w w' : World} {g S : Nat} {L : List PArc} (h : Arcs w g S L) (hb : Below w.heap.size w w') : Arcs w' g S L := RTbl.below h hb
theorem Arcs.at_ {w : World} {g S : Nat} {L : List PArc} (h : Arcs w g S L) {q : Nat} (hq : q < S) : ∃ A n c, w.cell? ⟨g, q, none⟩ = some (.slice A n c) ∧ RdA w (.slice A n c) (arcsOf L q) := by
  obtain ⟨v, h1, h2⟩ := h.2 q hq
  have h3 : RdA w v (arcsOf L q) := h2
  obtain ⟨A, n, c, rfl, _, _, _, _⟩ := h3.op
  exact ⟨A, n, c, h1, h3⟩
theorem infoS0 : (Try.prog.info? 22).map (fun i => (i.zero, i.size, i.bytes)) = some (some (.slice none 0 0), 1, 24) := by kernel_rfl
theorem made_nils (n : Nat) : madeCells (Value.slice none 0 0).cells (n * 1) = (List.replicate n (Value.slice none 0 0)).toArray := by
  have h := toList_madeCells_one (.slice none 0 0) n
  rw [Nat.mul_one]
  apply Array.toList_inj.1
  rw [show (Value.slice none 0 0).cells = #[Value.slice none 0 0] from rfl, h]
theorem wp_app_arc1 {w : World} {o : Oper} {a : Act} {K : Act → World → Prop} {Q : Exit → Act → World → Prop} (s x : Operand)
    (ho : o.op = .call { callee := .builtin .append, args := #[s, x], argTypes := #[22, 22] })
    (base : Nat) (v : Value) (l : List PArc) (hs : a.eval s = v) (hown : OwnA w base v l) (x0 x1 x2 x3 : Int) (hl : l.length ≤ 1000000) (hbase : base ≤ w.heap.size)
    (hx : a.eval x = .slice (some ⟨w.heap.size, 0, none⟩) 1 1)
    (h : ∀ g' cap w', OwnA w' base (.slice (some ⟨g', 0, none⟩) (l.length + 1) cap) (l ++ [⟨x0, x1, x2, x3⟩]) → w.grownBy w' v.ownBlock → (v.ownBlock = some g' ∨ w.heap.size ≤ g') → g' < w'.heap.size → K (a.put o.dst (.slice (some ⟨g', 0, none⟩) (l.length + 1) cap)) w') :
    o.wp Try.prog a (w.alloc (.cells #[.int .i64 x0, .int .i64 x1, .int .i64 x2, .int .i64 x3] 42)) K Q := by
  obtain ⟨i0, hi, hz0, hz1, hz2⟩ := info_parts infoA0
  refine wp_append_lies _ s x 22 ho base 42 i0 _ 4 32 Try.underlying22 hi hz0 hz1 hz2 rfl (by decide) v l.length (arcsCells l) hs (World.ownsRow.alloc hown _) ⟨w.heap.size, 0, none⟩ 1 1
    [.int .i64 x0, .int .i64 x1, .int .i64 x2, .int .i64 x3] hx rfl ?_ ?_ (by decide) (by simp only [maxLen]; omega) (by omega) (by simp; omega) (w.heap.size + 1) (by simp) ?_
  · intro j u hu
    match j, hu with
    | 0, hu => simp at hu; subst hu; simp [go_sem, Addr.add]
    | 1, hu => simp at hu; subst hu; simp [go_sem, Addr.add]
    | 2, hu => simp at hu; subst hu; simp [go_sem, Addr.add]
    | 3, hu => simp at hu; subst hu; simp [go_sem, Addr.add]
  · intro u hu
    simp at hu
    rcases hu with rfl | rfl | rfl | rfl <;> rfl
  · intro g' cap w' h1 h2 h3 h4
    refine h g' cap w' ?_ ?_ (h3.imp_right fun e => by omega) h4
    · unfold OwnA
      rw [arcsCells_snoc, List.length_append]
      exact h1
    · exact ⟨h2.os, h2.tape, h2.output, Nat.le_trans (by simp) h2.size, fun k hk hne => (h2.block k (by simp; omega) hne).trans (Below.heap_alloc w _ k hk)⟩
/-- the table that is being filled -/
def ATbl (w : World) (base g S : Nat) (L : List PArc) : Prop := ∃ vs, vs.length = S ∧ Tbl 22 42 4 w base g vs (fun q => (arcsOf L q).length) (fun q => arcsCells (arcsOf L q))
theorem ATbl.push {w w1 : World} {base g S : Nat} {L : List PArc} {vs : List Value} (hS : vs.length = S) (h : Tbl 22 42 4 w base g vs (fun q => (arcsOf L q).length) (fun q => arcsCells (arcsOf L q))) {a : PArc} {q : Nat} {v : Value} (hq : vs[q]? = some v) (ha : a.fr = (q : Int)) (hg : w.grownBy w1 v.ownBlock) {g' cap : Nat}
    (ho : OwnA w1 base (.slice (some ⟨g', 0, none⟩) ((arcsOf L q).length + 1) cap) (arcsOf L q ++ [a])) (hl : v.ownBlock = some g' ∨ w.heap.size ≤ g') :
    ATbl (w1.setCell ⟨g, q, none⟩ (.slice (some ⟨g', 0, none⟩) ((arcsOf L q).length + 1) cap)) base g S (L ++ [a]) := by
  have ho' : w1.ownsRow base 42 4 (.slice (some ⟨g', 0, none⟩) ((arcsOf L q).length + 1) cap) ((arcsOf L q).length + 1) (arcsCells (arcsOf L q ++ [a])) := by
    have := ho
    unfold OwnA at this
    rw [List.length_append] at this
    exact this
  refine ⟨_, by simpa using hS, h.push hq hg ho' hl ?_ ?_ ?_⟩
  · simp [arcsOf_snoc, ha]
  · simp [arcsOf_snoc, ha]
  · intro q' hne
    have hne' : ¬ a.fr = (q' : Int) := by omega
    simp [arcsOf_snoc, hne']
set_option maxHeartbeats 4000000 in
set_option maxRecDepth 100000 in
theorem outgoing_any (v : Value) (F : PFst) (w : World) (hv : RdF w v F) (hR : Right F) (hS : F.states ≤ 4096) (hL : F.arcs.length ≤ 262144) :
    Calls Try.prog 35 #[v] w fun e w' => (∃ g S : Nat, e = .returned (.slice (some ⟨g, 0, none⟩) S S) ∧ F.states = (S : Int) ∧ Arcs w' g S F.arcs) ∧ Below w.heap.size w w' := by
  obtain ⟨va, vf, rfl, ha, hf⟩ := hv
  obtain ⟨A, n, c, rfl, h1, h2, hn, hr⟩ := ha.op
  obtain ⟨A', n', c', rfl, h1', h2', hn', hr'⟩ := hf.op
  have HR := Lib.hid hR
  rw [hn.out] at hL
  clear hf ha
  obtain ⟨S, hSN⟩ : ∃ S : Nat, F.states = (S : Int) := ⟨F.states.toNat, by have := hR.1; omega⟩
  have hS1 : 1 ≤ S := by have := hR.1; omega
  have hS2 : S ≤ 4096 := by omega
  have HSN := Lib.hid hSN
  clear hS hR
  rw [hSN]
  clear hSN
  obtain ⟨i0, hi, hz0, hz1, hz2⟩ := info_parts infoS0
  have hmk := fun W => run_make_rowN (P := Try.prog) 48 22 i0 (.slice none 0 0) Try.underlying48 hi hz0 .i64 .i64 S S (Nat.le_refl _) (by rw [hz2]; omega) (by omega) W
  rw [hz1, made_nils] at hmk
  clear hi hz0 hz1 hz2
  go_enter Try.func35, Try.ntmps35
  go_wp2_with fail
  generalize hW : World.alloc w _ = W
  have HBW : Hid (Below w.heap.size w W) := by rw [← hW]; repeat (first | assumption | exact Below.refl _ _ | refine Below.alloc ?_ (by first | omega | (simp; done) | (simp; omega)) _ | refine Below.drew ?_ | refine below_drewN ?_ _ | refine Below.setCell ?_ (by first | omega | (simp; done) | (simp; omega)) _)
  have hz : w.heap.size + 1 = W.heap.size := by rw [← hW]; simp
  simp only [hz]
  clear hW
  generalize hX : World.alloc W _ = X
  obtain ⟨g, hg⟩ : ∃ g, W.heap.size = g := ⟨_, rfl⟩
  have HT : Hid (ATbl X g g S []) := by
    rw [← hX, ← List.toArray_replicate]
    exact ⟨List.replicate S (.slice none 0 0), by simp, Tbl.made (by decide) W S g (Nat.le_refl _) hg⟩
  have HBX : Hid (Below W.heap.size W X) := by rw [← hX]; repeat (first | assumption | exact Below.refl _ _ | refine Below.alloc ?_ (by first | omega | (simp; done) | (simp; omega)) _ | refine Below.drew ?_ | refine below_drewN ?_ _ | refine Below.setCell ?_ (by first | omega | (simp; done) | (simp; omega)) _)
  rw [hg] at hz HBX ⊢
  have HG := Lib.hid hg
  clear hX hg hmk
  go_loopw [12] (fun i wr => ∃ k : Nat, k ≤ n ∧ i = .int .i64 k ∧ Hid (ATbl wr g g S (F.arcs.take k)) ∧ Hid (Below g W wr)) (fun i _ => n - (intOf i).toNat)
  case atStart => exact ⟨0, Nat.zero_le _, rfl, HT.out, HBX.out⟩
  case round =>
    obtain ⟨k, hk, rfl, HTK, HBK⟩ := hrel
    have HBR := Lib.hid (bchain HBW.out (by rw [HG.out]; exact HBK.out))
    by_cases hlt : k < n
    · obtain ⟨bb, off, x0, x1, x2, x3, rfl, hbb, hdr, e0, e1, e2, e3⟩ := (hr.out k hlt).below HBR.out
      have HTA : Hid (F.arcs.take (k + 1) = F.arcs.take k ++ [⟨x0, x1, x2, x3⟩]) := by
        have hl : k < F.arcs.length := by rw [hn.out]; exact hlt
        have h := hdr.out
        rw [List.drop_eq_getElem_cons hl] at h
        rw [Hid, List.take_succ_eq_append_getElem hl, (List.cons.inj h).1]
      obtain ⟨y0, y1, _, _⟩ := HR.out.2.1 _ (List.mem_of_mem_drop (by rw [hdr.out]; exact List.mem_cons_self))
      simp only at y0 y1
      rw [HSN.out] at y1
      obtain ⟨q, rfl⟩ : ∃ q : Nat, x0 = (q : Int) := ⟨x0.toNat, by omega⟩
      have hq : q < S := by omega
      clear y0 y1
      obtain ⟨vs, hvs, htb⟩ := HTK.out
      have HVS := Lib.hid hvs
      have HTB := Lib.hid htb
      obtain ⟨vq, hvq⟩ : ∃ vq, vs[q]? = some vq := ⟨vs[q]'(by omega), List.getElem?_eq_getElem (by omega)⟩
      have HVQ := Lib.hid hvq
      have hgl := htb.lt
      clear hvs htb hvq HTK
      go_wp2_with fail
      generalize hY : World.alloc wr _ = Y
      obtain ⟨ga, hga⟩ : ∃ ga, wr.heap.size = ga := ⟨_, rfl⟩
      have HYB : Hid (Below wr.heap.size wr Y) := by rw [← hY]; exact (Below.refl _ _).alloc (Nat.le_refl _) _
      have HYA : Hid (ABlk Y ga (q : Int) x1 x2 x3) := by rw [← hY, ← hga]; exact heap_alloc_new wr _
      have HYT := Lib.hid (HTB.out.below HYB.out)
      have HROW := Lib.hid (HTB.out.row q vq HVQ.out)
      have HGA : Hid (vq.ownBlock ≠ some ga) := fun he => by have := (World.ownsRow.lt HROW.out ga he).2; omega
      have hgag : g ≠ ga := by omega
      have HBY : Hid (Below g W Y) := HBK.out.trans (HYB.out.mono (by have := HBK.out.size; have := HG.out; omega))
      rw [hga]
      have HGAE := Lib.hid hga
      clear hY hga e0 e1 e2 e3 hgl
      have hgl := HYT.out.lt
      refine wp_region_ord 11 [0, 1, 2, 3, 4, 5, 6, 7, 8, 9, 10] [] [0, 1, 2, 3, 4, 5, 6, 7, 8] [9, 10, 11, 12] (fun w' => w'.heap[ga]? = Y.heap[ga]? ∧ w'.heap[g]? = Y.heap[g]?) (by kernel_rfl) (by kernel_rfl) ?_
      rintro D hD
      have HDT : Hid (Tbl 22 42 4 D g g vs (fun q => (arcsOf (F.arcs.take k) q).length) (fun q => arcsCells (arcsOf (F.arcs.take k) q))) := by rw [hD]; exact HYT.out.below (Below.refl _ _).drew
      have HDB : Hid (Below g W D) := by rw [hD]; exact HBY.out.drew
      have HDA : Hid (ABlk D ga (q : Int) x1 x2 x3) := by rw [hD]; exact HYA.out
      have HDS : Hid (D.heap[ga]? = Y.heap[ga]? ∧ D.heap[g]? = Y.heap[g]?) := by rw [hD]; exact ⟨rfl, rfl⟩
      clear hD
      refine ⟨HDS.out, ?_⟩
      have HS : Hid (∀ w' : World, (w'.heap[ga]? = Y.heap[ga]? ∧ w'.heap[g]? = Y.heap[g]?) → (w'.cell? ⟨ga, 0, none⟩ = some (.int .i64 q) ∧ w'.cell? ⟨ga, 1, none⟩ = some (.int .i64 x1) ∧ w'.cell? ⟨ga, 2, none⟩ = some (.int .i64 x2) ∧ w'.cell? ⟨ga, 3, none⟩ = some (.int .i64 x3)) ∧ w'.cell? ⟨g, q, none⟩ = some vq) := by
        intro w' h
        have h4 := ABlk.cells (h.1.trans HYA.out)
        exact ⟨h4, (World.cell?_of_block (a := ⟨g, q, none⟩) h.2).trans (HYT.out.cell HVQ.out)⟩
      have hq0 : (0 : Int) ≤ (q : Int) := by omega
      have hq1 : (q : Int) < (S : Int) := by omega
      iterate 9 (refine wpHead_cons (v := ?_) rfl rfl (fun w' hS => ?_) ?_; rotate_left; (focus ((try obtain ⟨⟨s0, s1, s2, s3⟩, s4⟩ := HS.out _ (hS rfl)); clear hS; go_simp; try with_reducible rfl; done)); (try simp only [Act.put, List.setIfInBounds_toArray, List.set_cons_zero, List.set_cons_succ]))
      refine wpHead_nil ?_
      refine wpTail_cons rfl rfl (fun K hK => ?_)
      go_simp
      have hga1 : ga < D.heap.size := (Array.getElem?_eq_some_iff.1 HDA.out).1
      have hg1 := HDT.out.lt
      have hgD : g ≤ D.heap.size := by omega
      refine hK.out _ _ (fun _ => ⟨(Below.heap_alloc _ _ _ hga1).trans HDS.out.1, (Below.heap_alloc _ _ _ hg1).trans HDS.out.2⟩) ?_
      clear hK K
      (try simp only [Act.put, List.setIfInBounds_toArray, List.set_cons_zero, List.set_cons_succ])
      refine wpTail_cons rfl rfl (fun K hK => ?_)
      have HOWN : Hid (OwnA D g vq (arcsOf (F.arcs.take k) q)) := HDT.out.row q vq HVQ.out
      have hlen : (arcsOf (F.arcs.take k) q).length ≤ 1000000 := Nat.le_trans (arcsOf_len _ _) (by rw [List.length_take]; omega)
      refine wp_app_arc1 (.tmp 23) (.tmp 25) rfl g vq (arcsOf (F.arcs.take k) q) rfl HOWN.out (q : Int) x1 x2 x3 hlen hgD rfl ?_
      intro g' cap w3 ho hgr hloc hlt3
      refine hK.out _ _ (fun _ => ⟨(hgr.block ga hga1 (Ne.symm HGA.out)).trans HDS.out.1, (hgr.block g hg1 (Ne.symm (HDT.out.neq HVQ.out))).trans HDS.out.2⟩) ?_
      clear hK K
      (try simp only [Act.put, List.setIfInBounds_toArray, List.set_cons_zero, List.set_cons_succ])
      obtain ⟨k1, k2, k3⟩ := HDT.out.mid HVQ.out hgr
      have HO := Lib.hid ho
      have HLOC := Lib.hid hloc
      have HGR := Lib.hid hgr
      clear ho hloc k3 hgr hlen
      refine wpTail_rest 11 rfl ?_
      simp only [List.drop_succ_cons, List.drop_zero]
      go_wp2_with fail
      refine NoPanic.normal ?_
      go_wp2_with fail
      go_roundw
      case rel =>
        have hp := ATbl.push HVS.out HDT.out HVQ.out (a := ⟨(q : Int), x1, x2, x3⟩) rfl HGR.out HO.out HLOC.out
        rw [← HTA.out] at hp
        refine ⟨k + 1, by omega, by go_num, hp, ?_⟩
        exact (HDB.out.grown HGR.out hgD (fun j hj => by have := (World.ownsRow.lt HOWN.out j hj).1; have := HG.out; omega)).setCell (p := ⟨g, q, none⟩) (Nat.le_refl _) _
      case measure => simp [intOf]; omega
    · obtain ⟨vs, hvs, htb⟩ := HTK.out
      have HTB := Lib.hid htb
      have HVS := Lib.hid hvs
      clear hvs htb
      go_wp2_with fail
      go_ret
      refine ⟨⟨g, S, rfl, rfl, ?_⟩, HBR.out⟩
      have h := HTB.out.rd
      rw [HVS.out, List.take_of_length_le (by rw [hn.out]; omega)] at h
      exact h
end Go.Proofs.Ytmejihlplbeekaa
