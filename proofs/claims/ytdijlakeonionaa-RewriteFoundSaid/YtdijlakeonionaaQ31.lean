/-
  search of the finder.
-/
import Derived.Test.YtdijlakeonionaaQ30
namespace Go.Proofs.Ytdijlakeonionaa
open Go.ChangeShapes Go.WideShapes Go.ChangeAt Go.RowKit
theorem wp_app_word {o : Oper} {a : Act} {K : Act → World → Prop} {Q : Exit → Act → World → Prop} {w : World} (s x : Operand)
    (ho : o.op = .call { callee := .builtin .append, args := #[s, x], argTypes := #[41, 41] })
    (base : Nat) (v : Value) (Ls : List (List Int)) (hs : a.eval s = v) (hown : OwnL w base v Ls) (vc : Value) (l : List Int) (hvc : OwnI w base vc l) (m : Nat) (hm : Hid (Ls.length = m)) (hl : m ≤ 1000000) (hbase : base ≤ w.heap.size)
    (hx : a.eval x = .slice (some ⟨w.heap.size, 0, none⟩) 1 1)
    (h : ∀ g' cap w', OwnL w' base (.slice (some ⟨g', 0, none⟩) (m + 1) cap) (Ls ++ [l]) → w.grownBy w' v.ownBlock → K (a.put o.dst (.slice (some ⟨g', 0, none⟩) (m + 1) cap)) w') :
    o.wp Try.prog a (w.alloc (.cells #[vc] 25)) K Q := by
  obtain rfl := hm.out
  obtain ⟨us, hu1, hu2, hu3⟩ := hown
  obtain ⟨i0, hi, hz0, hz1, hz2⟩ := info_parts infoL0
  refine wp_append_own _ s x 41 ho base 25 i0 _ 1 24 Try.underlying41 hi hz0 hz1 hz2 rfl (by decide) v Ls.length us hs (World.ownsRow.alloc hu1 _) ⟨w.heap.size, 0, none⟩ 1 1
    [vc] hx rfl ?_ ?_ (by simp only [maxLen]; omega) (by omega) (by simp; omega) ?_
  · intro j u hu
    match j, hu with
    | 0, hu => simp at hu; subst hu; simp [go_sem, Addr.add]
  · intro u hu
    simp at hu
    subst hu
    exact (own_slice hvc).1
  · intro v' w' h1 h2 _
    obtain ⟨g', cap, rfl, hg1, hg2⟩ := h1.form (by omega)
    have hg : w.grownBy w' v.ownBlock := ⟨h2.os, h2.tape, h2.output, Nat.le_trans (by simp) h2.size, fun k hk hne => (h2.block k (by simp; omega) hne).trans (Below.heap_alloc w _ k hk)⟩
    refine h g' cap w' ⟨us ++ [vc], by simpa using h1, by simp [hu2], fun i u l' hu hl' => ?_⟩ hg
    by_cases hil : i < us.length
    · rw [List.getElem?_append_left hil] at hu
      rw [List.getElem?_append_left (by omega)] at hl'
      exact ownI_grownL (hu3 i u l' hu hl') hu1 (by decide) hg
    · have hi0 : i = us.length := by
        have := (List.getElem?_eq_some_iff.1 hu).1
        simp at this
        omega
      subst hi0
      rw [List.getElem?_append_right (Nat.le_refl _)] at hu
      rw [hu2, List.getElem?_append_right (Nat.le_refl _)] at hl'
      simp at hu hl'
      subst hu
      subst hl'
      exact ownI_grownL hvc hu1 (by decide) hg
section
variable {w₀ : World} {I : List PPh} {R : PRule} {wl : List Int} {m : Mch} {beg fin : Bool} {Aw : Option Addr} {nw cw B bm : Nat}
/-- what holds of the world while search runs, begun in w, at W behind its box -/
structure SR (w₀ w wr : World) (I : List PPh) (R : PRule) (wl : List Int) (m : Mch) (beg fin : Bool) (Aw : Option Addr) (nw cw B bm bs : Nat) (wv lv vf : Value) (word : List Int) (l : List Pl) (Ls : List (List Int)) : Prop where
  fb : Below w₀.heap.size w₀ wr
  ff : FndBlk wr B m beg fin Aw nw cw bm vf
  fo : OwnL wr B vf Ls
  fk : KnM I R wl bm wr
  fx : Boxed wr bs 72 (.pointer (some ⟨B, 0, none⟩))
  fw : OwnI wr w₀.heap.size wv word
  fl : OwnPl wr w₀.heap.size lv l
  fr : FrW w.heap.size B (fun k => k = bm) w wr
section
variable {w wr wx : World} {bs : Nat} {wv lv vf : Value} {word : List Int} {l : List Pl} {Ls : List (List Int)}
theorem SR.below (h : SR w₀ w wr I R wl m beg fin Aw nw cw B bm bs wv lv vf word l Ls) (hb : Below wr.heap.size wr wx) : SR w₀ w wx I R wl m beg fin Aw nw cw B bm bs wv lv vf word l Ls :=
  ⟨h.fb.trans (hb.mono h.fb.size), h.ff.below hb, h.fo.below hb, h.fk.below hb, (hb.block bs h.fx.lt).trans h.fx, own_below h.fw hb, own_below h.fl hb, h.fr.trans (.of_below (hb.mono h.fr.size))⟩
theorem SR.fnd (h : SR w₀ w wr I R wl m beg fin Aw nw cw B bm bs wv lv vf word l Ls) (hB : w₀.heap.size ≤ B) {vf' : Value} {Ls' : List (List Int)} (ho : OwnL wx B vf' Ls') (hg : wr.grownBy wx vf.ownBlock) : SR w₀ w (wx.setCell ⟨B, 13, none⟩ vf') I R wl m beg fin Aw nw cw B bm bs wv lv vf' word l Ls' := by
  obtain ⟨us, hu⟩ := h.fo.row
  have hf : FndBlk wx B m beg fin Aw nw cw bm vf := blk_apart h.ff hu (by decide) hg
  have hx : Boxed wx bs 72 (.pointer (some ⟨B, 0, none⟩)) := blk_apart h.fx hu (by decide) hg
  have hb : Below w₀.heap.size w₀ wx := h.fb.grown hg h.fb.size fun j hj => Nat.le_trans hB (World.ownsRow.lt hu j hj).1
  have hk := h.fk.apart hu hg
  have key : ∀ {k : Nat} {cs : Array Value} {t : TypeId} {mm : Nat × Nat} (v : Value), wx.heap[k]? = some (.cells cs t mm) → t ≠ 80 → (wx.setCell ⟨B, 13, none⟩ v).heap[k]? = some (.cells cs t mm) := fun v hc ht =>
    (Below.heap_setCell wx ⟨B, 13, none⟩ v _ (fun e => by
      have e : _ = B := e
      rw [e] at hc
      have h2 : wx.heap[B]? = _ := hf
      rw [hc] at h2
      cases h2
      exact ht rfl)).trans hc
  refine ⟨hb.setCell hB _, hf.set _, ho.keep fun k cs t mm hc ht _ => (key _ hc (by rcases ht with rfl | rfl <;> decide)).trans hc.symm, ?_, key _ hx (by decide), ?_, ?_, (h.fr.app hu (Nat.le_refl _) h.fr.size hg).setB _ _⟩
  · obtain ⟨kn, h1, h2⟩ := hk
    exact ⟨kn, h1.same (Below.heap_setCell wx ⟨B, 13, none⟩ _ bm (fun e => h1.ne hf e.symm)), h2⟩
  · exact own_keep (own_apart h.fw hu (by decide) hg) fun k cs mm _ hc _ => (key _ hc (by decide)).trans hc.symm
  · exact own_keep (own_apart h.fl hu (by decide) hg) fun k cs mm _ hc _ => (key _ hc (by decide)).trans hc.symm
/-- behind the calls of can -/
theorem SR.del (h : SR w₀ w wr I R wl m beg fin Aw nw cw B bm bs wv lv vf word l Ls) (hE : FE w₀ I R wl m beg fin Aw nw cw B bm) {v : Value} {N : List Pl} (hv : OwnPl wr w.heap.size v N) (hww : w₀.heap.size ≤ w.heap.size) (hl : ∀ j, lv.ownBlock = some j → j < w.heap.size) (hd : Frm wr.heap.size (DelX bm v) wr wx) (hk : KnM I R wl bm wx) :
    SR w₀ w wx I R wl m beg fin Aw nw cw B bm bs wv lv vf word l Ls := by
  have hge : ∀ j, v.ownBlock = some j → w.heap.size ≤ j := fun j hj => (World.ownsRow.lt hv j hj).1
  refine ⟨h.fb.trans (hd.below h.fb.size (fun k hk e => ?_)), blk_del h.fk hv hd h.ff (by decide), h.fo.del h.fk hv hd, hk, blk_del h.fk hv hd h.fx (by decide), ?_, ?_, h.fr.del hd h.fr.size hge⟩
  · rcases e with e | e
    · have := hE.bb.2; omega
    · have := hge k e; omega
  · exact own_keep h.fw fun k cs mm _ hc _ => (blk_del h.fk hv hd hc (by decide)).trans hc.symm
  · exact own_del h.fl h.fk hd fun j hj e => by have := hl j hj; have := hge j e; omega
theorem SR.grow (h : SR w₀ w wr I R wl m beg fin Aw nw cw B bm bs wv lv vf word l Ls) {v : Value} {N : List Pl} (hv : OwnPl wr w.heap.size v N) (hww : w₀.heap.size ≤ w.heap.size) (hl : ∀ j, lv.ownBlock = some j → j < w.heap.size) (hg : wr.grownBy wx v.ownBlock) : SR w₀ w wx I R wl m beg fin Aw nw cw B bm bs wv lv vf word l Ls := by
  have hge : ∀ j, v.ownBlock = some j → w.heap.size ≤ j := fun j hj => (World.ownsRow.lt hv j hj).1
  refine ⟨h.fb.grown hg h.fb.size fun j hj => Nat.le_trans hww (hge j hj), blk_apart h.ff hv (by decide) hg, h.fo.apart hv (by decide) (by decide) hg, h.fk.apart hv hg, blk_apart h.fx hv (by decide) hg, own_apart h.fw hv (by decide) hg, ?_, h.fr.grown hg h.fr.size hge⟩
  exact own_keep h.fl fun k cs mm hu hc _ => hg.block k (Array.getElem?_eq_some_iff.1 hc).1 fun e => by
    have := hl k hu
    have := hge k e.symm
    omega
theorem SR.inner (h : SR w₀ w wr I R wl m beg fin Aw nw cw B bm bs wv lv vf word l Ls) (hE : FE w₀ I R wl m beg fin Aw nw cw B bm) {vf' : Value} {Ls' : List (List Int)} (hf : FndBlk wx B m beg fin Aw nw cw bm vf') (ho : OwnL wx B vf' Ls') (hk : KnM I R wl bm wx) (hr : FrW wr.heap.size B (fun k => k = bm) wr wx) :
    SR w₀ w wx I R wl m beg fin Aw nw cw B bm bs wv lv vf' word l Ls' := by
  have hne : ∀ {k : Nat} {cs : Array Value} {t : TypeId} {mm : Nat × Nat}, wr.heap[k]? = some (.cells cs t mm) → t ≠ 80 → k ≠ B ∧ k ≠ bm := fun hc ht => ⟨fun e => by
    rw [e] at hc
    have h2 : wr.heap[B]? = _ := h.ff
    rw [hc] at h2
    cases h2
    exact ht rfl, h.fk.ne hc⟩
  have hx := hne h.fx (by decide)
  exact ⟨h.fb.trans (hr.low h.fb.size hE.bb.1 hE.bb.2), hf, ho, hk, hr.blk h.fx h.fx.lt hx.1 hx.2 (by decide), hr.own h.fw (Nat.le_refl _) (fun k cs mm hc => hne hc (by decide)) (by decide), hr.own h.fl (Nat.le_refl _) (fun k cs mm hc => hne hc (by decide)) (by decide), h.fr.inner hr h.fr.size (fun _ _ h => h)⟩
end
def SrchC (w₀ : World) (I : List PPh) (R : PRule) (wl : List Int) (m : Mch) (beg fin : Bool) (Aw : Option Addr) (nw cw B bm len k : Nat) : Prop :=
  ∀ (word : List Int) (l : List Pl) (wv lv vf : Value) (Ls : List (List Int)) (w : World), word.length + k = len → OwnI w w₀.heap.size wv word → OwnPl w w₀.heap.size lv l → l.length ≤ 2 ^ word.length → (∀ p, p ∈ l → p.left = k ∧ PlOk p ∧ p.at_ ≤ nw) →
    Below w₀.heap.size w₀ w → FndBlk w B m beg fin Aw nw cw bm vf → OwnL w B vf Ls → KnM I R wl bm w → Ls.length + cF I.length k ≤ 1000000 →
    Calls Try.prog 48 #[.pointer (some ⟨B, 0, none⟩), wv, lv] w fun e w' => e = .returned (.tuple #[]) ∧ ∃ vf', FndBlk w' B m beg fin Aw nw cw bm vf' ∧ OwnL w' B vf' (Ls ++ srch I R wl k word l) ∧ KnM I R wl bm w' ∧ FrW w.heap.size B (fun k => k = bm) w w'
set_option maxHeartbeats 16000000 in
set_option maxRecDepth 100000 in
theorem search_step (HE : Hid (FE w₀ I R wl m beg fin Aw nw cw B bm)) (len : Nat) (hlen : len ≤ 24) (k : Nat) (ih : ∀ k', k = k' + 1 → SrchC w₀ I R wl m beg fin Aw nw cw B bm len k') : SrchC w₀ I R wl m beg fin Aw nw cw B bm len k := by
  intro word l wv lv vf Ls w hlk hw hl hll hlo h0 hf ho hkn hcap
  obtain ⟨Ao, no, co, rfl⟩ := own_sliceN hw
  obtain ⟨Al, nl, cl, rfl⟩ := own_sliceN hl
  have HIH := Lib.hid ih
  have HLK := Lib.hid hlk
  have HLL := Lib.hid hll
  have HLO := Lib.hid hlo
  have HCAP := Lib.hid hcap
  have HNL : Hid (l.length = nl) := (own_n hl).symm
  have HFW0 := Lib.hid hw
  have HFL0 := Lib.hid hl
  have HB0 := Lib.hid h0
  have HF0 := Lib.hid hf
  have HO0 := Lib.hid ho
  have HK0 := Lib.hid hkn
  have HLB : Hid (∀ j, (Value.slice Al nl cl).ownBlock = some j → j < w.heap.size) := fun j hj => (World.ownsRow.lt hl j hj).2
  have HWW : Hid (w₀.heap.size ≤ w.heap.size) := h0.size
  have HBL : Hid (B ≤ w.heap.size) := Nat.le_of_lt hf.lt
  have hnl : nl ≤ 16777216 := by
    rw [← HNL.out]
    exact Nat.le_trans hll (Nat.le_trans (Nat.pow_le_pow_right (by decide) (show word.length ≤ 24 by omega)) (by decide))
  have HWL : Hid (word.length ≤ 24) := by rw [Hid]; omega
  clear ih hlk hw hl hll hlo h0 hf ho hkn hcap
  go_enter Try.func48, Try.ntmps48
  go_upto_region 1 with (fail)
  obtain ⟨bs, hbs⟩ : ∃ bs, w.heap.size = bs := ⟨_, rfl⟩
  generalize hW : World.alloc w _ = W
  have hbW : Below w.heap.size w W := by rw [← hW]; exact al_below _ _
  have HSR : Hid (SR w₀ w W I R wl m beg fin Aw nw cw B bm bs (.slice Ao no co) (.slice Al nl cl) vf word l Ls) :=
    ⟨HB0.out.trans (hbW.mono HB0.out.size), HF0.out.below hbW, HO0.out.below hbW, HK0.out.below hbW, by rw [← hW, ← hbs]; exact heap_alloc_new w _, own_below HFW0.out hbW, own_below HFL0.out hbW, .of_below hbW⟩
  rw [hbs]
  clear hW hbs hbW HFW0 HFL0 HB0 HF0 HO0 HK0
  have x0 := HSR.out.fx.cell
  have x1 := HSR.out.fx.lt
  go_wp2_with fail
  clear x0 x1
  refine (contB_any 68 (.pointer (some ⟨B, 0, none⟩)) (doneP R wl) _ l w₀.heap.size W (fun w' => Below W.heap.size W w') (Below.refl _ _) (fun w' h => own_below HSR.out.fl h) (fun q W' => by go_simp)
    (fun q _ w' h => (done_any HE q vf w' (HSR.out.fb.trans (h.mono HSR.out.fb.size)) (HSR.out.ff.below h)).mono fun e w'' hh => ⟨hh.1, bchain h hh.2⟩)).mono ?_
  rintro e w1 ⟨rfl, hb1⟩
  have HS1 := Lib.hid (HSR.out.below hb1)
  obtain ⟨dn, hdn⟩ : ∃ dn, l.any (doneP R wl) = dn := ⟨_, rfl⟩
  have HDN := Lib.hid hdn
  rw [hdn]
  clear hdn hb1 HSR
  go_upto_if 13 with (fail)
  go_cut [] (fun wx => ∃ vf1 Ls1, Hid (Ls1 = Ls ++ if dn then [word] else []) ∧ Hid (SR w₀ w wx I R wl m beg fin Aw nw cw B bm bs (.slice Ao no co) (.slice Al nl cl) vf1 word l Ls1))
  case first =>
    cases dn
    · go_wp2_with fail
      go_meet
      exact ⟨vf, Ls, by simp [Hid], HS1.out⟩
    · obtain ⟨Af, nf, cf, rfl⟩ := ownL_formN HS1.out.fo
      have HNF : Hid (Ls.length = nf) := by
        obtain ⟨A', c', he⟩ := ownL_form HS1.out.fo
        cases he; rfl
      have hnf : nf ≤ 1000000 := by have := HCAP.out; have := HNF.out; omega
      go_upto_region 2 with (fail)
      refine wp_region_ord 9 [0, 1, 2, 3, 4, 5, 6, 7, 8] [] [0, 1, 2, 3, 4, 5] [6, 7, 8, 9, 10, 11] (fun w' => Boxed w' bs 72 (.pointer (some ⟨B, 0, none⟩)) ∧ FndBlk w' B m beg fin Aw nw cw bm (.slice Af nf cf)) (by kernel_rfl) (by kernel_rfl) ?_
      rintro D hD
      have hbD : Below w1.heap.size w1 D := by rw [hD]; exact (Below.refl _ _).drew
      have HSD := Lib.hid (HS1.out.below hbD)
      clear hD hbD
      refine ⟨⟨HSD.out.fx, HSD.out.ff⟩, ?_⟩
      have HS := Lib.hid (fun (w' : World) (h : Boxed w' bs 72 (.pointer (some ⟨B, 0, none⟩)) ∧ FndBlk w' B m beg fin Aw nw cw bm (.slice Af nf cf)) => And.intro h.1.cell h.2.cells)
      iterate 6 (refine wpHead_cons (v := ?_) rfl rfl (fun w' hS => ?_) ?_; rotate_left; (focus ((try obtain ⟨x0, _, t0, t1, t2⟩ := HS.out _ (hS rfl)); clear hS; go_simp; try with_reducible rfl; done)); (try simp only [Act.put, List.setIfInBounds_toArray, List.set_cons_zero, List.set_cons_succ]))
      refine wpHead_nil ?_
      clear HS
      refine wpTail_cons rfl rfl (fun K hK => ?_)
      go_simp
      refine (clone_any _ word D HSD.out.fw.rd (by have := HWL.out; omega)).mono ?_
      rintro e w2 ⟨⟨v2, rfl, ho2⟩, hb2⟩
      obtain ⟨A2, n2, c2, rfl⟩ := own_sliceN ho2
      have HS2 := Lib.hid (HSD.out.below hb2)
      have HW2 : Hid (OwnI w2 B (.slice A2 n2 c2) word) := own_base ho2 (Nat.le_trans HBL.out HSD.out.fr.size)
      refine hK.out _ _ (fun _ => ⟨HS2.out.fx, HS2.out.ff⟩) ?_
      clear hK K ho2 hb2 HSD
      (try simp only [Act.put, List.setIfInBounds_toArray, List.set_cons_zero, List.set_cons_succ])
      refine wpTail_cons rfl rfl (fun K hK => ?_)
      go_simp
      refine hK.out _ _ (fun _ => ⟨(HS2.out.below (al_below w2 _)).fx, (HS2.out.below (al_below w2 _)).ff⟩) ?_
      clear hK K
      (try simp only [Act.put, List.setIfInBounds_toArray, List.set_cons_zero, List.set_cons_succ])
      refine wpTail_cons rfl rfl (fun K hK => ?_)
      refine wp_app_word (.tmp 18) (.tmp 21) rfl B (.slice Af nf cf) Ls rfl HS2.out.fo (.slice A2 n2 c2) word HW2.out nf HNF hnf (Nat.le_trans HBL.out HS2.out.fr.size) rfl ?_
      intro g' cap' w5 ho5 hg5
      have HO5 := Lib.hid ho5
      have HS5 := Lib.hid (HS2.out.fnd HE.out.bb.1 ho5 hg5)
      have hx5 : Boxed w5 bs 72 (.pointer (some ⟨B, 0, none⟩)) ∧ FndBlk w5 B m beg fin Aw nw cw bm (.slice Af nf cf) := by
        obtain ⟨us, hu⟩ := HS2.out.fo.row
        exact ⟨blk_apart HS2.out.fx hu (by decide) hg5, blk_apart HS2.out.ff hu (by decide) hg5⟩
      refine hK.out _ _ (fun _ => hx5) ?_
      clear hK K ho5 hg5
      (try simp only [Act.put, List.setIfInBounds_toArray, List.set_cons_zero, List.set_cons_succ])
      refine wpTail_rest 9 rfl ?_
      simp only [List.drop_succ_cons, List.drop_zero]
      have t3 := (hx5.2.cells).2.2.2
      have tf := hx5.2.free 13
      have tl := hx5.2.lt
      clear hx5
      go_wp2_with fail
      refine NoPanic.normal ?_
      go_wp2_with fail
      go_meet
      exact ⟨_, Ls ++ [word], by simp [Hid], HS5.out⟩
  case rest =>
  obtain ⟨vf1, Ls1, HL1, HS2⟩ := hcut
  clear HS1
  obtain ⟨ni, hni⟩ : ∃ ni, m.i.n = ni := ⟨_, rfl⟩
  have HNI := Lib.hid hni
  have HLI : Hid (I.length = ni) := by rw [Hid, HE.out.ib]; exact hni
  have hni60 : ni ≤ 60 := by have := HE.out.il; rw [HLI.out] at this; exact this
  have HALL : Hid (∀ p, p ∈ l → p.left = k) := fun p hp => (HLO.out p hp).1
  have HFIN : Hid (Ls ++ srch I R wl k word l = Ls1 ++ srchT I R wl k word l ni) := by
    rw [Hid, srch_split, HDN.out, HLI.out, HL1.out, List.append_assoc]
  have HL1N : Hid (Ls1.length ≤ Ls.length + 1) := by
    rw [Hid, HL1.out, List.length_append]
    have : (if dn = true then [word] else []).length ≤ 1 := by split <;> simp
    omega
  clear hni HL1 HDN
  go_wp2_with fail
  go_loopw [6] (fun v6 wx => ∃ (j : Nat) (vfj : Value) (Lj : List (List Int)), j ≤ ni ∧ v6 = .int .i64 ((j : Int) + 1) ∧ Hid (Lj = Ls1 ++ srchT I R wl k word l j) ∧ Hid (SR w₀ w wx I R wl m beg fin Aw nw cw B bm bs (.slice Ao no co) (.slice Al nl cl) vfj word l Lj)) (fun v6 _ => ni + 1 - (intOf v6).toNat)
  case atStart => exact ⟨0, vf1, Ls1, Nat.zero_le _, rfl, by cases k <;> simp [Hid, srchT, srchK], HS2.out⟩
  case round =>
    clear HS2
    obtain ⟨j, vfj, Lj, hj, rfl, HLJ, HSJ⟩ := hrel
    have hj0 : (0 : Int) ≤ (j : Int) := by omega
    have x0 := HSJ.out.fx.cell
    have x1 := HSJ.out.fx.lt
    obtain ⟨⟨s0, _⟩, _⟩ := HSJ.out.ff.cells
    rw [HNI.out] at s0
    have sl := HSJ.out.ff.lt
    by_cases hlt : j < ni
    rotate_left
    · have d1 : decide ((j : Int) + 1 ≤ (ni : Int)) = false := by simp; omega
      have d1' : decide (j + 1 ≤ ni) = false := by simp; omega
      have d1'' : decide (j < ni) = false := by simp; omega
      have HF : Hid (Ls ++ srch I R wl k word l = Lj) := by rw [Hid, HFIN.out, HLJ.out, show j = ni by omega]
      go_wp2_with fail
      go_end0
      exact ⟨rfl, vfj, HSJ.out.ff, by rw [HF.out]; exact HSJ.out.fo, HSJ.out.fk, HSJ.out.fr⟩
    · have d1 : decide ((j : Int) + 1 ≤ (ni : Int)) = true := by simp; omega
      have d1' : decide (j + 1 ≤ ni) = true := by simp; omega
      have d1'' : decide (j < ni) = true := by simp; omega
      go_wp2_with fail
      clear x0 x1 s0 sl d1 d1' d1''
      go_loopw [7, 38] (fun v7 v38 wx => ∃ (q : Nat) (A7 : Option Addr) (n7 c7 : Nat), q ≤ nl ∧ v38 = .int .i64 (q : Int) ∧ v7 = .slice A7 n7 c7 ∧ Hid (OwnPl wx w.heap.size (.slice A7 n7 c7) (nextL I R wl (l.take q) ((j : Int) + 1))) ∧ Hid (SR w₀ w wx I R wl m beg fin Aw nw cw B bm bs (.slice Ao no co) (.slice Al nl cl) vfj word l Lj)) (fun _ v38 _ => nl - (intOf v38).toNat)
      case atStart => exact ⟨0, _, _, _, Nat.zero_le _, rfl, rfl, World.ownsRow_nil _ _ _ _, HSJ.out⟩
      case round =>
        clear HSJ
        obtain ⟨q, A7, n7, c7, hq, rfl, rfl, HO, HS⟩ := hrel
        have hq0 : (0 : Int) ≤ (q : Int) := by omega
        have hn7 : n7 ≤ 100000000 := by
          have h1 := nextL_len I R wl (l.take q) ((j : Int) + 1)
          have h2 := own_n HO.out
          have h3 := HNL.out
          rw [List.length_take] at h1
          omega
        by_cases hql : q < nl
        · have d2 : decide ((q : Int) < (nl : Int)) = true := by simp; exact hql
          obtain ⟨pb, po, p, rfl, hpb, hpd, e0, e1, e2, e3, e4, e5, e6, e7⟩ := HS.out.fl.at_ hql
          have HPL := Lib.hid (HLO.out p (List.mem_of_mem_drop (by rw [hpd.out]; exact List.mem_cons_self)))
          have HNT := Lib.hid (nextL_take I R wl ((j : Int) + 1) hpd.out)
          go_upto_region 10 with (fail)
          clear e0 e1 e2 e3 e4 e5 e6 e7 hpb hpd d2
          obtain ⟨bx, hbx⟩ : ∃ bx, wr.heap.size = bx := ⟨_, rfl⟩
          generalize hX : World.alloc wr _ = X
          have hbX : Below wr.heap.size wr X := by rw [← hX]; exact al_below _ _
          have HPX : Hid (PBlk X bx p) := by rw [← hX, ← hbx]; exact heap_alloc_new wr _
          have HOX : Hid (OwnPl X w.heap.size (.slice A7 n7 c7) (nextL I R wl (l.take q) ((j : Int) + 1))) := own_below HO.out hbX
          have HSX := Lib.hid (HS.out.below hbX)
          rw [hbx]
          clear hX hbx hbX HO HS
          obtain ⟨u0, u1, u2, u3, u4, u5, u6, u7⟩ := HPX.out.cells
          have hul := HPX.out.lt
          have x0 := HSX.out.fx.cell
          have x1 := HSX.out.fx.lt
          by_cases hpz : p.left = 0
          · have d3 : decide ((0 : Int) < (p.left : Int)) = false := by simp; omega
            have d3' : decide (0 < p.left) = false := by simp; omega
            have HNT2 : Hid (nextL I R wl (l.take (q + 1)) ((j : Int) + 1) = nextL I R wl (l.take q) ((j : Int) + 1)) := by rw [Hid, HNT.out, if_neg (by omega), List.append_nil]
            go_wp2_with fail
            go_roundw
            case rel => exact ⟨q + 1, _, _, _, by omega, by go_num, rfl, by rw [Hid, HNT2.out]; exact HOX.out, HSX.out⟩
            case measure => simp [intOf]; omega
          · have d3 : decide ((0 : Int) < (p.left : Int)) = true := by simp; omega
            have d3' : decide (0 < p.left) = true := by simp; omega
            have HNT2 : Hid (nextL I R wl (l.take (q + 1)) ((j : Int) + 1) = nextL I R wl (l.take q) ((j : Int) + 1) ++ stepP I R wl p ((j : Int) + 1)) := by rw [Hid, HNT.out, if_pos (by omega)]
            have HPZ := Lib.hid (Nat.pos_of_ne_zero hpz)
            clear hpz
            go_wp2_with fail
            clear u0 u1 u2 u3 u4 u5 u6 u7 hul x0 x1 d3 d3'
            have hstep := fstep_any HE p ((j : Int) + 1) vfj X HSX.out.fb HSX.out.ff HPL.out.2.1 HPZ.out
            simp only [plV, plA] at hstep
            refine hstep.mono ?_
            clear hstep
            rintro e w3 ⟨⟨v3, rfl, ho3⟩, hb3⟩
            obtain ⟨A3, n3, c3, rfl⟩ := own_sliceN ho3
            have HO3 := Lib.hid ho3.rd
            have HOY : Hid (OwnPl w3 w.heap.size (.slice A7 n7 c7) (nextL I R wl (l.take q) ((j : Int) + 1))) := own_below HOX.out hb3
            have HSY := Lib.hid (HSX.out.below hb3)
            have hsum : (nextL I R wl (l.take q) ((j : Int) + 1)).length + (stepP I R wl p ((j : Int) + 1)).length ≤ 1000000000 := by
              have h1 := own_n HOX.out
              have h2 := stepP_len I R wl p ((j : Int) + 1)
              omega
            have hbs : w.heap.size ≤ w3.heap.size := HSY.out.fr.size
            clear ho3 hb3 HPX HOX HSX
            go_wp2_with (at_builtin; refine wpList_app_rows 88 87 8 32 _ plC Try.underlying88 infoPl rfl (by decide) (by decide) plC_one rfl (.tmp 45) (.tmp 49) rfl w.heap.size (.slice A7 n7 c7) (nextL I R wl (l.take q) ((j : Int) + 1)) rfl HOY.out (.slice A3 n3 c3) (stepP I R wl p ((j : Int) + 1)) rfl HO3.out hsum hbs ?_; intro v8 w8 ho8 hg8; have HO8 : Hid (OwnPl w8 w.heap.size v8 (nextL I R wl (l.take q) ((j : Int) + 1) ++ stepP I R wl p ((j : Int) + 1))) := ho8; have HS8 := Lib.hid (HSY.out.grow HOY.out HWW.out HLB.out hg8); clear ho8 hg8 hsum hbs; obtain ⟨A8, n8, c8, rfl⟩ := own_sliceN HO8.out)
            go_roundw
            case rel => exact ⟨q + 1, _, _, _, by omega, by go_num, rfl, by rw [Hid, HNT2.out]; exact HO8.out, HS8.out⟩
            case measure => simp [intOf]; omega
        · have d2 : decide ((q : Int) < (nl : Int)) = false := by simp; omega
          have hlq : l.take q = l := List.take_of_length_le (by rw [HNL.out]; omega)
          rw [hlq] at HO
          clear hlq
          go_wp2_with fail
          clear d2
          have HNP : Hid (∀ r, r ∈ nextL I R wl l ((j : Int) + 1) → r.left + 1 = k ∧ PlOk r ∧ r.at_ ≤ nw) := by
            intro r hr
            obtain ⟨p, hp, hr⟩ := List.mem_flatMap.1 hr
            obtain ⟨p1, p2, p3⟩ := HLO.out p hp
            split at hr
            · rename_i hpos
              have h1 := stepP_left hr
              have h2 := pstep_ok (R := R) p2 (by rw [HE.out.nl]; exact p3) (by rw [HE.out.nl]; exact HE.out.lw) HE.out.good.l1 hr
              rw [HE.out.nl] at h2
              exact ⟨by omega, h2⟩
            · cases hr
          have HNN : Hid ((nextL I R wl l ((j : Int) + 1)).length ≤ l.length * 2) := nextL_len _ _ _ _ _
          refine (delF_any HE _ (nextL I R wl l ((j : Int) + 1)) w.heap.size bs vfj wr HO.out HWW.out (fun r hr => (HNP.out r hr).2) (by have := HNN.out; have := HNL.out; omega) HS.out.fb HS.out.ff HS.out.fx HS.out.fk).mono ?_
          rintro e w3 ⟨⟨v3, rfl, ho3⟩, hk3, hd3⟩
          have HS3 := Lib.hid (HS.out.del HE.out HO.out HWW.out HLB.out hd3 hk3)
          obtain ⟨N, hN⟩ : ∃ N, (nextL I R wl l ((j : Int) + 1)).filter (canP I R wl) = N := ⟨_, rfl⟩
          have HNP3 : Hid (∀ r, r ∈ N → r.left + 1 = k ∧ PlOk r ∧ r.at_ ≤ nw) := by
            intro r hr
            rw [← hN] at hr
            exact HNP.out r (List.mem_filter.1 hr).1
          have HNN3 : Hid (N.length ≤ l.length * 2) := by rw [Hid, ← hN]; exact Nat.le_trans (List.length_filter_le _ _) HNN.out
          have HSU := Lib.hid (srchT_succ (R := R) (wl := wl) (word := word) HALL.out j (I := I))
          rw [hN] at HSU ho3
          obtain ⟨A3, n3, c3, rfl⟩ := own_sliceN ho3
          have HO3 := Lib.hid ho3
          have HN3 : Hid (N.length = n3) := (own_n ho3).symm
          clear hN ho3 hk3 hd3 HNP HNN HO HS
          by_cases hn0 : n3 = 0
          · have d4 : decide ((0 : Int) < (n3 : Int)) = false := by simp; omega
            have d4' : decide (0 < n3) = false := by simp; omega
            have HLJ2 : Hid (Lj = Ls1 ++ srchT I R wl k word l (j + 1)) := by
              rw [Hid, HSU.out, if_pos (List.eq_nil_of_length_eq_zero (by rw [HN3.out]; exact hn0)), List.append_nil, HLJ.out]
            clear hn0
            go_wp2_with fail
            go_roundw
            case rel => exact ⟨j + 1, vfj, Lj, by omega, by go_num, HLJ2.out, HS3.out⟩
            case measure => simp [intOf]; omega
          · have d4 : decide ((0 : Int) < (n3 : Int)) = true := by simp; omega
            have d4' : decide (0 < n3) = true := by simp; omega
            have hNe : N ≠ [] := by intro h; rw [h] at HN3; exact hn0 HN3.out.symm
            obtain ⟨r0, hr0⟩ := List.exists_mem_of_ne_nil N hNe
            obtain ⟨k', hk'⟩ : ∃ k', k = k' + 1 := ⟨r0.left, (HNP3.out r0 hr0).1.symm⟩
            subst hk'
            rw [if_neg hNe] at HSU
            have HSU2 : Hid (srchT I R wl (k' + 1) word l (j + 1) = srchT I R wl (k' + 1) word l j ++ srch I R wl k' (word ++ [(j : Int) + 1]) N) := HSU.out
            have hwl24 : word.length ≤ 24 := HWL.out
            clear hn0 hNe hr0 HSU
            go_upto_region 15 with (fail)
            clear d4 d4'
            refine wp_region_steps 8 7 [0, 1, 2, 3, 4, 5, 6] [] (fun w' => Below w3.heap.size w3 w') (by kernel_rfl) (by kernel_rfl) ?_
            rintro D hD
            have HSD : Hid (Below w3.heap.size w3 D) := by rw [hD]; exact (Below.refl _ _).drew
            clear hD
            have HS := Lib.hid (fun (w' : World) (h : Below w3.heap.size w3 w') => And.intro (HS3.out.below h).fx.cell (HS3.out.below h).fx.lt)
            (refine wpE_take 0 (v := ?_) (by kernel_rfl) rfl rfl (by exact HSD.out) (fun w' hS => ?_) ?_; rotate_left; (focus ((try obtain ⟨x0, _⟩ := HS.out _ (hS rfl)); clear hS; go_simp; try with_reducible rfl; done)); (try simp only [Act.put, List.setIfInBounds_toArray, List.set_cons_zero, List.set_cons_succ]))
            (refine wpE_take 1 (v := ?_) (by kernel_rfl) rfl rfl (by exact HSD.out) (fun w' hS => ?_) ?_; rotate_left; (focus ((try obtain ⟨x0, _⟩ := HS.out _ (hS rfl)); clear hS; go_simp; try with_reducible rfl; done)); (try simp only [Act.put, List.setIfInBounds_toArray, List.set_cons_zero, List.set_cons_succ]))
            (refine wpE_take 3 (v := ?_) (by kernel_rfl) rfl rfl (by exact HSD.out) (fun w' hS => ?_) ?_; rotate_left; (focus ((try obtain ⟨x0, _⟩ := HS.out _ (hS rfl)); clear hS; go_simp; try with_reducible rfl; done)); (try simp only [Act.put, List.setIfInBounds_toArray, List.set_cons_zero, List.set_cons_succ]))
            (refine wpE_take 6 (v := ?_) (by kernel_rfl) rfl rfl (by exact HSD.out) (fun w' hS => ?_) ?_; rotate_left; (focus ((try obtain ⟨x0, _⟩ := HS.out _ (hS rfl)); clear hS; go_simp; try with_reducible rfl; done)); (try simp only [Act.put, List.setIfInBounds_toArray, List.set_cons_zero, List.set_cons_succ]))
            refine wpE_br [2, 4] (by kernel_rfl) ?_
            refine AllE.cons rfl rfl (fun K hK => ?_) (AllE.cons rfl rfl (fun K hK => ?_) AllE.nil)
            · skip
              go_simp
              refine (clone_any _ word D (HS3.out.fw.rd.below HSD.out) (by have := HWL.out; omega)).mono ?_
              rintro e Y1 ⟨⟨vc, rfl, ho2⟩, hb2⟩
              obtain ⟨Ac, nc, cc, rfl⟩ := own_sliceN ho2
              have HCL : Hid (OwnI Y1 D.heap.size (.slice Ac nc cc) word) := ho2
              have HSY1 : Hid (Below w3.heap.size w3 Y1) := bchain HSD.out hb2
              have HXY1 := Lib.hid hb2
              have HCY1 : Hid (D.heap.size ≤ Y1.heap.size) := hb2.size
              refine hK.out _ _ HSY1.out ?_
              clear hK K ho2 hb2
              (try simp only [Act.put, List.setIfInBounds_toArray, List.set_cons_zero, List.set_cons_succ])
              refine wpE_br [4] (by kernel_rfl) ?_
              refine AllE.cons rfl rfl (fun K hK => ?_) AllE.nil
              go_simp
              refine hK.out _ _ (HSY1.out.alloc HSY1.out.size _) ?_
              clear hK K
              (try simp only [Act.put, List.setIfInBounds_toArray, List.set_cons_zero, List.set_cons_succ])
              generalize hX : World.alloc Y1 _ = Y2
              have HSY2 : Hid (Below w3.heap.size w3 Y2) := by rw [← hX]; exact HSY1.out.alloc HSY1.out.size _
              have HXY2 : Hid (Below Y1.heap.size Y1 Y2) := by rw [← hX]; exact al_below _ _
              have HRN : Hid (RdI Y2 (.slice (some ⟨Y1.heap.size, 0, none⟩) 1 1) [(j : Int) + 1]) := by rw [← hX]; exact rdI_blk [(j : Int) + 1] (by simp) Y1
              clear hX
              refine wpE_br [5] (by kernel_rfl) ?_
              refine AllE.cons rfl rfl (fun K hK => ?_) AllE.nil
              refine wp_app_ints (.tmp 60) (.tmp 62) rfl (D.heap.size) _ word rfl (own_below HCL.out HXY2.out) _ [(j : Int) + 1] rfl HRN.out (by simp; omega) (Nat.le_trans HCY1.out HXY2.out.size) ?_
              intro v5 Y3 ho5 hg5 _
              have HSY3 : Hid (Below w3.heap.size w3 Y3) := HSY2.out.grown hg5 HSY2.out.size (fun i hi => Nat.le_trans (HSD.out.size) (World.ownsRow.lt ((own_below HCL.out HXY2.out)) i hi).1)
              obtain ⟨A5, n5, c5, rfl⟩ := own_sliceN ho5
              refine hK.out _ _ HSY3.out ?_
              clear hK K
              (try simp only [Act.put, List.setIfInBounds_toArray, List.set_cons_zero, List.set_cons_succ])
              refine wpE_rest 7 (by kernel_rfl) ?_
              simp only [List.drop_succ_cons, List.drop_zero]
              have HSR5 := Lib.hid (HS3.out.below HSY3.out)
              have HW5 : Hid (OwnI Y3 w₀.heap.size (.slice A5 n5 c5) (word ++ [(j : Int) + 1])) := own_base ho5 (Nat.le_trans HS3.out.fb.size (HSD.out.size))
              have HN5 : Hid (OwnPl Y3 w₀.heap.size (.slice A3 n3 c3) N) := own_base (own_below HO3.out HSY3.out) HWW.out
              have HLEN5 : Hid ((word ++ [(j : Int) + 1]).length + k' = len) := by have := HLK.out; rw [Hid, List.length_append, List.length_singleton]; omega
              have HPOW : Hid (N.length ≤ 2 ^ (word ++ [(j : Int) + 1]).length) := by
                have h1 := HNN3.out
                have h2 := HLL.out
                rw [Hid, List.length_append, List.length_singleton, Nat.pow_succ]
                omega
              have HNP5 : Hid (∀ r, r ∈ N → r.left = k' ∧ PlOk r ∧ r.at_ ≤ nw) := fun r hr => ⟨by have := (HNP3.out r hr).1; omega, (HNP3.out r hr).2⟩
              have HCAP5 : Hid (Lj.length + cF I.length k' ≤ 1000000) := by
                have h1 := srchT_len I R wl k' word l j
                have h2 : (j + 1) * cF I.length k' ≤ I.length * cF I.length k' := Nat.mul_le_mul_right _ (by rw [HLI.out]; omega)
                rw [Nat.succ_mul] at h2
                have h3 := HCAP.out
                rw [cF] at h3
                have h4 := HL1N.out
                rw [Hid, HLJ.out, List.length_append]
                clear HCAP HL1N
                generalize (srchT I R wl (k' + 1) word l j).length = y1 at h1 ⊢
                generalize j * cF I.length k' = y2 at h1 h2
                generalize I.length * cF I.length k' = y3 at h2 h3
                omega
              clear ho5 hg5 hwl24
              go_wp2_with fail
              refine (HIH.out k' rfl (word ++ [(j : Int) + 1]) N _ _ vfj Lj Y3 HLEN5.out HW5.out HN5.out HPOW.out HNP5.out HSR5.out.fb HSR5.out.ff HSR5.out.fo HSR5.out.fk HCAP5.out).mono ?_
              rintro e w9 ⟨rfl, vf9, hf9, ho9, hk9, hr9⟩
              have HS9 := Lib.hid (HSR5.out.inner HE.out hf9 ho9 hk9 hr9)
              have HLJ9 : Hid (Lj ++ srch I R wl k' (word ++ [(j : Int) + 1]) N = Ls1 ++ srchT I R wl (k' + 1) word l (j + 1)) := by rw [Hid, HSU2.out, HLJ.out, List.append_assoc]
              clear hf9 ho9 hk9 hr9
              go_wp2_with fail
              refine NoPanic.normal ?_
              go_wp2_with fail
              go_roundw
              case rel => exact ⟨j + 1, vf9, _, by omega, by go_num, HLJ9.out, HS9.out⟩
              case measure => simp [intOf]; omega
            · skip
              go_simp
              refine hK.out _ _ (HSD.out.alloc HSD.out.size _) ?_
              clear hK K
              (try simp only [Act.put, List.setIfInBounds_toArray, List.set_cons_zero, List.set_cons_succ])
              generalize hX : World.alloc D _ = Y1
              have HSY1 : Hid (Below w3.heap.size w3 Y1) := by rw [← hX]; exact HSD.out.alloc HSD.out.size _
              have HXY1 : Hid (Below D.heap.size D Y1) := by rw [← hX]; exact al_below _ _
              have HRN : Hid (RdI Y1 (.slice (some ⟨D.heap.size, 0, none⟩) 1 1) [(j : Int) + 1]) := by rw [← hX]; exact rdI_blk [(j : Int) + 1] (by simp) D
              clear hX
              refine wpE_br [2] (by kernel_rfl) ?_
              refine AllE.cons rfl rfl (fun K hK => ?_) AllE.nil
              go_simp
              refine (clone_any _ word Y1 (HS3.out.fw.rd.below HSY1.out) (by have := HWL.out; omega)).mono ?_
              rintro e Y2 ⟨⟨vc, rfl, ho2⟩, hb2⟩
              obtain ⟨Ac, nc, cc, rfl⟩ := own_sliceN ho2
              have HCL : Hid (OwnI Y2 Y1.heap.size (.slice Ac nc cc) word) := ho2
              have HSY2 : Hid (Below w3.heap.size w3 Y2) := bchain HSY1.out hb2
              have HXY2 := Lib.hid hb2
              have HCY2 : Hid (Y1.heap.size ≤ Y2.heap.size) := hb2.size
              refine hK.out _ _ HSY2.out ?_
              clear hK K ho2 hb2
              (try simp only [Act.put, List.setIfInBounds_toArray, List.set_cons_zero, List.set_cons_succ])
              refine wpE_br [5] (by kernel_rfl) ?_
              refine AllE.cons rfl rfl (fun K hK => ?_) AllE.nil
              refine wp_app_ints (.tmp 60) (.tmp 62) rfl (Y1.heap.size) _ word rfl HCL.out _ [(j : Int) + 1] rfl (HRN.out.below HXY2.out) (by simp; omega) HCY2.out ?_
              intro v5 Y3 ho5 hg5 _
              have HSY3 : Hid (Below w3.heap.size w3 Y3) := HSY2.out.grown hg5 HSY2.out.size (fun i hi => Nat.le_trans (HSY1.out.size) (World.ownsRow.lt (HCL.out) i hi).1)
              obtain ⟨A5, n5, c5, rfl⟩ := own_sliceN ho5
              refine hK.out _ _ HSY3.out ?_
              clear hK K
              (try simp only [Act.put, List.setIfInBounds_toArray, List.set_cons_zero, List.set_cons_succ])
              refine wpE_rest 7 (by kernel_rfl) ?_
              simp only [List.drop_succ_cons, List.drop_zero]
              have HSR5 := Lib.hid (HS3.out.below HSY3.out)
              have HW5 : Hid (OwnI Y3 w₀.heap.size (.slice A5 n5 c5) (word ++ [(j : Int) + 1])) := own_base ho5 (Nat.le_trans HS3.out.fb.size (HSY1.out.size))
              have HN5 : Hid (OwnPl Y3 w₀.heap.size (.slice A3 n3 c3) N) := own_base (own_below HO3.out HSY3.out) HWW.out
              have HLEN5 : Hid ((word ++ [(j : Int) + 1]).length + k' = len) := by have := HLK.out; rw [Hid, List.length_append, List.length_singleton]; omega
              have HPOW : Hid (N.length ≤ 2 ^ (word ++ [(j : Int) + 1]).length) := by
                have h1 := HNN3.out
                have h2 := HLL.out
                rw [Hid, List.length_append, List.length_singleton, Nat.pow_succ]
                omega
              have HNP5 : Hid (∀ r, r ∈ N → r.left = k' ∧ PlOk r ∧ r.at_ ≤ nw) := fun r hr => ⟨by have := (HNP3.out r hr).1; omega, (HNP3.out r hr).2⟩
              have HCAP5 : Hid (Lj.length + cF I.length k' ≤ 1000000) := by
                have h1 := srchT_len I R wl k' word l j
                have h2 : (j + 1) * cF I.length k' ≤ I.length * cF I.length k' := Nat.mul_le_mul_right _ (by rw [HLI.out]; omega)
                rw [Nat.succ_mul] at h2
                have h3 := HCAP.out
                rw [cF] at h3
                have h4 := HL1N.out
                rw [Hid, HLJ.out, List.length_append]
                clear HCAP HL1N
                generalize (srchT I R wl (k' + 1) word l j).length = y1 at h1 ⊢
                generalize j * cF I.length k' = y2 at h1 h2
                generalize I.length * cF I.length k' = y3 at h2 h3
                omega
              clear ho5 hg5 hwl24
              go_wp2_with fail
              refine (HIH.out k' rfl (word ++ [(j : Int) + 1]) N _ _ vfj Lj Y3 HLEN5.out HW5.out HN5.out HPOW.out HNP5.out HSR5.out.fb HSR5.out.ff HSR5.out.fo HSR5.out.fk HCAP5.out).mono ?_
              rintro e w9 ⟨rfl, vf9, hf9, ho9, hk9, hr9⟩
              have HS9 := Lib.hid (HSR5.out.inner HE.out hf9 ho9 hk9 hr9)
              have HLJ9 : Hid (Lj ++ srch I R wl k' (word ++ [(j : Int) + 1]) N = Ls1 ++ srchT I R wl (k' + 1) word l (j + 1)) := by rw [Hid, HSU2.out, HLJ.out, List.append_assoc]
              clear hf9 ho9 hk9 hr9
              go_wp2_with fail
              refine NoPanic.normal ?_
              go_wp2_with fail
              go_roundw
              case rel => exact ⟨j + 1, vf9, _, by omega, by go_num, HLJ9.out, HS9.out⟩
              case measure => simp [intOf]; omega
theorem search_any (HE : Hid (FE w₀ I R wl m beg fin Aw nw cw B bm)) (len : Nat) (hlen : len ≤ 24) : ∀ k, SrchC w₀ I R wl m beg fin Aw nw cw B bm len k
  | 0 => search_step HE len hlen 0 (fun k' h => by omega)
  | k + 1 => search_step HE len hlen (k + 1) (fun k' h => by
      have h : k = k' := by omega
      rw [← h]
      exact search_any HE len hlen k)
end
end Go.Proofs.Ytdijlakeonionaa
