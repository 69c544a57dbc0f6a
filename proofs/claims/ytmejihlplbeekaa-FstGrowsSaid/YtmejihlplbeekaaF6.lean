/-
  Accepts of fst.
-/
import Derived.Test.YtmejihlplbeekaaF5
import Derived.Test.YtmejihlplbeekaaT45
import Derived.Test.YtmejihlplbeekaaT46
namespace Go.Proofs.Ytmejihlplbeekaa
open Go.ChangeShapes Go.WideShapes Go.ChangeAt Go.RowKit
theorem infoC0 : (Try.prog.info? 51).map (fun i => (i.zero, i.size, i.bytes)) = some (some (.agg #[.int .i64 0, .int .i64 0, .int .i64 0]), 3, 24) := by kernel_rfl
theorem wpList_app_cfg {ops : Array Oper} {rest : List Oper} {o : Oper} {a : Act} {Q : Exit → Act → World → Prop} {w : World} (hgd : o.guard = none) (s x : Operand)
    (ho : o.op = .call { callee := .builtin .append, args := #[s, x], argTypes := #[53, 53] })
    (base : Nat) (v : Value) (l : List Cfg) (hs : a.eval s = v) (hown : OwnC w base v l) (c : Cfg) (hl : l.length ≤ 10000000000) (hbase : base ≤ w.heap.size)
    (hx : a.eval x = .slice (some ⟨w.heap.size, 0, none⟩) 1 1)
    (h : ∀ g' cap w', OwnC w' base (.slice (some ⟨g', 0, none⟩) (l.length + 1) cap) (l ++ [c]) → w.grownBy w' v.ownBlock → (v.ownBlock = some g' ∨ w.heap.size < g') → wpList Try.prog ops Q rest (a.put o.dst (.slice (some ⟨g', 0, none⟩) (l.length + 1) cap)) w') :
    wpList Try.prog ops Q (o :: rest) a (w.alloc (.cells #[.int .i64 c.q, .int .i64 c.i, .int .i64 c.k] 51)) := by
  obtain ⟨i0, hi, hz0, hz1, hz2⟩ := info_parts infoC0
  refine wpList_append_lies _ hgd s x 53 ho base 51 i0 _ 3 24 Try.underlying53 hi hz0 hz1 hz2 rfl (by decide) v l.length (cfgsCells l) hs (World.ownsRow.alloc hown _) ⟨w.heap.size, 0, none⟩ 1 1
    [.int .i64 c.q, .int .i64 c.i, .int .i64 c.k] hx rfl ?_ ?_ (by decide) (by simp only [maxLen]; omega) (by omega) (by simp; omega) (w.heap.size + 1) (by simp) ?_
  · intro j u hu
    match j, hu with
    | 0, hu => simp at hu; subst hu; simp [go_sem, Addr.add]
    | 1, hu => simp at hu; subst hu; simp [go_sem, Addr.add]
    | 2, hu => simp at hu; subst hu; simp [go_sem, Addr.add]
  · intro u hu
    simp at hu
    rcases hu with rfl | rfl | rfl <;> rfl
  · intro g' cap w' h1 h2 h3 _
    refine h g' cap w' ?_ ?_ (h3.imp_right fun e => by omega)
    · unfold OwnC
      rw [cfgsCells_snoc, List.length_append]
      exact h1
    · exact ⟨h2.os, h2.tape, h2.output, Nat.le_trans (by simp) h2.size, fun k hk hne => (h2.block k (by simp; omega) hne).trans (Below.heap_alloc w _ k hk)⟩
theorem OwnV.ne {w : World} {b n base : Nat} {Vs Qs : List Cfg} {v : Value} (h : OwnV w b n Vs) (k : OwnC w base v Qs) : v.ownBlock ≠ some b := fun he => by
  obtain ⟨cs, hc⟩ := row_type k he
  obtain ⟨es, cl, hm⟩ := h.block
  rw [hc] at hm
  cases hm
theorem size_le {F : PFst} {xs ys : List Int} (hR : Right F) (hS : F.states ≤ 4096) (hX : xs.length ≤ 1000) (hY : ys.length ≤ 1000) : size F xs ys ≤ 4104196096 := by
  have := hR.1
  exact Nat.mul_le_mul (Nat.mul_le_mul (by omega : F.states.toNat ≤ 4096) (by omega : xs.length + 1 ≤ 1001)) (by omega : ys.length + 1 ≤ 1001)
theorem OwnC.len {w : World} {base : Nat} {A : Option Addr} {n c : Nat} {l : List Cfg} (h : OwnC w base (.slice A n c) l) : n = l.length := by
  rcases h.2 with ⟨h2, h3⟩ | ⟨g, cap, cur, h2, _⟩
  · cases h2; omega
  · cases h2; rfl
def CBlk (w : World) (g : Nat) (c : Cfg) : Prop := w.heap[g]? = some (.cells #[.int .i64 c.q, .int .i64 c.i, .int .i64 c.k] 51 (0, 0))
theorem CBlk.lt {w : World} {g : Nat} {c : Cfg} (h : CBlk w g c) : g < w.heap.size := (Array.getElem?_eq_some_iff.1 h).1
theorem CBlk.below {w w' : World} {g : Nat} {c : Cfg} (h : CBlk w g c) (hb : Below w.heap.size w w') : CBlk w' g c := (hb.block g h.lt).trans h
theorem CBlk.cells {w : World} {g : Nat} {c : Cfg} (h : CBlk w g c) : w.cell? ⟨g, 0, none⟩ = some (.int .i64 c.q) ∧ w.cell? ⟨g, 1, none⟩ = some (.int .i64 c.i) ∧ w.cell? ⟨g, 2, none⟩ = some (.int .i64 c.k) := by
  refine ⟨?_, ?_, ?_⟩ <;> rw [cell_of_row w g _ _ _ (0, 0) h] <;> rfl
set_option maxHeartbeats 4000000 in
set_option maxRecDepth 100000 in
theorem faccepts_any (v vx vy : Value) (F : PFst) (xs ys : List Int) (w : World) (hv : RdF w v F) (hx : RdI w vx xs) (hy : RdI w vy ys) (hR : Right F) (hO : F.final.Pairwise (· < ·)) (hS : F.states ≤ 4096) (hL : F.arcs.length ≤ 262144) (hFl : F.final.length ≤ 1000000) (hX : xs.length ≤ 1000) (hY : ys.length ≤ 1000) :
    Calls Try.prog 17 #[v, vx, vy] w fun e w' => e = .returned (.bool (accB F xs ys)) ∧ Below w.heap.size w w' := by
  have HV := Lib.hid hv
  obtain ⟨va, vf, rfl, ha, hf⟩ := hv
  obtain ⟨A, n, c, rfl, h1, h2, hn, hr⟩ := ha.op
  obtain ⟨A', n', c', rfl, h1', h2', hn', hr'⟩ := hf.op
  obtain ⟨Ax, nx, cx, rfl, h1x, h2x, hnx, hrx⟩ := hx.op
  obtain ⟨Ay, ny, cy, rfl, h1y, h2y, hny, hry⟩ := hy.op
  have HX1 := Lib.hid hX
  have HY1 := Lib.hid hY
  rw [hnx.out] at hX
  rw [hny.out] at hY
  have Hf := Lib.hid hf
  have Hx := Lib.hid hx
  have Hy := Lib.hid hy
  have HR := Lib.hid hR
  have HO := Lib.hid hO
  have HFL := Lib.hid hFl
  have HLL := Lib.hid hL
  have HSS := Lib.hid hS
  clear hf ha hx hy hR hO hFl hL hr hr' hrx hry
  cases hpx : plainB xs
  · have HA := Lib.hid (accB_no F xs ys (.inl hpx))
    go_enter Try.func17, Try.ntmps17
    go_wp2_with fail
    refine (positive_any _ xs _ (Rd.alloc Hx.out _)).mono ?_
    rintro e w1 ⟨rfl, rfl⟩
    rw [hpx]
    go_wp2_with fail
    go_ret
    exact ⟨by rw [HA.out]; rfl, by repeat (first | assumption | exact Below.refl _ _ | refine Below.alloc ?_ (by first | omega | (simp; done) | (simp; omega)) _ | refine Below.drew ?_ | refine below_drewN ?_ _ | refine Below.setCell ?_ (by first | omega | (simp; done) | (simp; omega)) _)⟩
  cases hpy : plainB ys
  · have HA := Lib.hid (accB_no F xs ys (.inr hpy))
    go_enter Try.func17, Try.ntmps17
    go_wp2_with fail
    refine (positive_any _ xs _ (Rd.alloc Hx.out _)).mono ?_
    rintro e w1 ⟨rfl, rfl⟩
    rw [hpx]
    go_wp2_with fail
    refine (positive_any _ ys _ (Rd.alloc Hy.out _)).mono ?_
    rintro e w1 ⟨rfl, rfl⟩
    rw [hpy]
    go_wp2_with fail
    go_ret
    exact ⟨by rw [HA.out]; rfl, by repeat (first | assumption | exact Below.refl _ _ | refine Below.alloc ?_ (by first | omega | (simp; done) | (simp; omega)) _ | refine Below.drew ?_ | refine below_drewN ?_ _ | refine Below.setCell ?_ (by first | omega | (simp; done) | (simp; omega)) _)⟩
  have HPX := Lib.hid hpx
  have HPY := Lib.hid hpy
  have hmm := @run_makeMap Try.prog
  go_enter Try.func17, Try.ntmps17
  go_wp2_with fail
  refine (positive_any _ xs _ (Rd.alloc Hx.out _)).mono ?_
  rintro e w1 ⟨rfl, rfl⟩
  rw [hpx]
  go_wp2_with fail
  refine (positive_any _ ys _ (Rd.alloc Hy.out _)).mono ?_
  rintro e w1 ⟨rfl, rfl⟩
  rw [hpy]
  clear hpx hpy
  go_wp2_with fail
  generalize hW : World.alloc w _ = W
  have HP : Hid (FBlk W w.heap.size (.int .i64 F.states) (.slice A n c) (.slice A' n' c')) := by rw [← hW]; exact heap_alloc_new w _
  have HBW : Hid (Below w.heap.size w W) := by rw [← hW]; repeat (first | assumption | exact Below.refl _ _ | refine Below.alloc ?_ (by first | omega | (simp; done) | (simp; omega)) _ | refine Below.drew ?_ | refine below_drewN ?_ _ | refine Below.setCell ?_ (by first | omega | (simp; done) | (simp; omega)) _)
  clear hW
  refine (outgoing_any _ F _ (HV.out.below HBW.out) HR.out HSS.out HLL.out).mono ?_
  rintro e w2 ⟨⟨g, S, rfl, hSN, hT⟩, hb⟩
  have HT := Lib.hid hT
  have HSN := Lib.hid hSN
  have HB2 := Lib.hid (bchain HBW.out hb)
  have HP2 := Lib.hid (HP.out.below hb)
  clear hT hSN hb HBW HP
  have HM0 := Lib.hid (OwnV.made w2)
  go_wp2_with (refine wpList_putV rfl (.tmp 30) (.tmp 31) (.const (.bool true)) (.inr rfl) w2.heap.size 0 [] ⟨0, 0, 0⟩ rfl rfl rfl HM0.out ⟨⟨by decide, by decide⟩, ⟨by decide, by decide⟩, ⟨by decide, by decide⟩⟩ (by decide) ?_; intro w3 hm3 hg3)
  obtain ⟨b, hb0⟩ : ∃ b, w2.heap.size = b := ⟨_, rfl⟩
  rw [hb0] at hm3 hg3 ⊢
  have hz3 : b + 1 ≤ w3.heap.size := by have := hg3.size; simp at this; omega
  have HB3 : Hid (Below b w2 w3) := by
    have h0 : Below b w2 (w2.alloc (.map #[] 0)) := (Below.refl _ _).alloc (by omega) _
    exact h0.grown hg3 (by simp; omega) (fun k hk => by cases hk; omega)
  generalize hX : World.alloc w3 _ = X
  obtain ⟨gq, hgq⟩ : ∃ gq, w3.heap.size = gq := ⟨_, rfl⟩
  have HQ0 : Hid (OwnC X b (.slice (some ⟨gq, 0, none⟩) 1 1) [⟨0, 0, 0⟩]) := by
    rw [← hX, ← hgq]
    exact ⟨rfl, .inr ⟨w3.heap.size, 1, _, rfl, by omega, heap_alloc_new w3 _, Nat.le_refl _, by simp [maxLen], rfl, rfl⟩⟩
  have HV0 : Hid (OwnV X b 1 [⟨0, 0, 0⟩]) := by rw [← hX]; exact hm3.below ((Below.refl _ _).alloc (Nat.le_refl _) _)
  have HBX : Hid (Below b w2 X) := by rw [← hX]; exact HB3.out.alloc (by omega) _
  rw [hgq]
  have HB0 := Lib.hid hb0
  clear hX hgq hz3 hm3 hg3 hb0 HB3 HM0 hmm
  go_loopg [9] (2 * cf (marks F xs ys [⟨0, 0, 0⟩]) + 1) (fun gk v9 wr => ∃ Aq nq cq Vs Qs, v9 = .slice Aq nq cq ∧ OwnC wr b (.slice Aq nq cq) Qs ∧ OwnV wr b Vs.length Vs ∧ Dfs F xs ys Vs Qs (fun _ => False) ∧ gk = 2 * cf (marks F xs ys Vs) + Qs.length ∧ Below b w2 wr)
  case atStart => exact ⟨_, _, _, [⟨0, 0, 0⟩], [⟨0, 0, 0⟩], rfl, HQ0.out, HV0.out, Dfs.init HR.out, rfl, HBX.out⟩
  case round =>
    obtain ⟨Aq, nq, cq, Vs, Qs, rfl, hq, hvs, hd, hgk, hbr⟩ := hrel
    have HVS := Lib.hid hvs
    have HD := Lib.hid hd
    have HGK := Lib.hid hgk
    have HBR := Lib.hid hbr
    have HW2 := Lib.hid (bchain HB2.out (by rw [HB0.out]; exact hbr))
    clear hvs hd hgk hbr
    rcases List.eq_nil_or_concat Qs with rfl | ⟨Qs', cc, rfl⟩
    · have HA := Lib.hid (dfs_no HD.out)
      have hnq : nq = 0 := hq.len
      subst hnq
      clear hq
      go_wp2_with fail
      go_ret
      exact ⟨by rw [HA.out]; rfl, HW2.out⟩
    · have hsnoc : Qs'.concat cc = Qs' ++ [cc] := by simp
      simp only [hsnoc] at hq HD HGK
      clear hsnoc
      obtain ⟨gr, cap, he, hcap, hcap2, hgr, q0, q1, q2, hq'⟩ := hq.last
      cases he
      have HQ := Lib.hid hq'
      have hcb := HD.out.box cc (HD.out.sub cc (by simp))
      obtain ⟨sq, si, sk, rfl⟩ : ∃ sq si sk : Nat, cc = ⟨(sq : Int), (si : Int), (sk : Int)⟩ := ⟨cc.q.toNat, cc.i.toNat, cc.k.toNat, by have := hcb.q0; have := hcb.i0; have := hcb.k0; cases cc; simp only [Cfg.mk.injEq] at *; omega⟩
      dsimp only at q0 q1 q2
      have hsq : sq < S := by have := hcb.q1; rw [HSN.out] at this; simp only at this; omega
      have hsi : si ≤ nx := by have := hcb.i1; rw [hnx.out] at this; simp only at this; omega
      have hsk : sk ≤ ny := by have := hcb.k1; rw [hny.out] at this; simp only at this; omega
      have HC := Lib.hid hcb
      clear hcb
      have HDP := Lib.hid HD.out.pop
      clear hq hq'
      obtain ⟨ql, hql⟩ : ∃ ql, Qs'.length = ql := ⟨_, rfl⟩
      rw [hql] at hcap q0 q1 q2 HQ ⊢
      have HQL := Lib.hid hql
      clear hql
      have hPw := HP2.out.below (HBR.out.mono (by rw [HB0.out]; exact Nat.le_refl _))
      obtain ⟨p0, p1, p2, _, _, _⟩ := hPw.facts
      have hwl := hPw.lt
      have HPw := Lib.hid hPw
      clear hPw
      go_wp2_with fail
      generalize hY : World.alloc wr _ = Y
      obtain ⟨gc, hgc⟩ : ∃ gc, wr.heap.size = gc := ⟨_, rfl⟩
      have HBY : Hid (Below wr.heap.size wr Y) := by rw [← hY]; exact (Below.refl _ _).alloc (Nat.le_refl _) _
      have HCB : Hid (CBlk Y gc ⟨(sq : Int), (si : Int), (sk : Int)⟩) := by rw [← hY, ← hgc]; exact heap_alloc_new wr _
      rw [hgc]
      have hgrc : gr < gc := by omega
      clear hY hgc q0 q1 q2 p0 p1 p2 hgr hwl
      refine (bsearch_any _ F.final (sq : Int) _ (Hf.out.below (bchain HW2.out HBY.out)) HO.out HFL.out).mono ?_
      rintro e wy ⟨⟨ix, rfl⟩, rfl⟩
      have hgcl := HCB.out.lt
      obtain ⟨t0, t1, t2⟩ := HCB.out.cells
      dsimp only at t0 t1 t2
      have HFC : Hid (finC F xs ys ⟨(sq : Int), (si : Int), (sk : Int)⟩ = (decide ((sq : Int) ∈ F.final) && ((si : Int) == (nx : Int) && (sk : Int) == (ny : Int)))) := by rw [Hid, finC, hnx.out, hny.out]
      generalize hB1 : decide ((sq : Int) ∈ F.final) = B1 at HFC ⊢
      clear hB1
      go_upto_region 10 with (fail)
      go_cut [71] (fun s71 wx => s71 = .bool (finC F xs ys ⟨(sq : Int), (si : Int), (sk : Int)⟩) ∧ Y = wx)
      case first =>
        cases hB2 : ((si : Int) == (nx : Int))
        · rw [hB2] at HFC
          have HE := Lib.hid hB2
          cases B1
          · go_wp2_with fail
            go_meet
            exact ⟨by rw [HFC.out]; rfl, rfl⟩
          · go_wp2_with fail
            go_meet
            exact ⟨by rw [HFC.out]; rfl, rfl⟩
        · rw [hB2] at HFC
          cases hB3 : ((sk : Int) == (ny : Int))
          · rw [hB3] at HFC
            cases B1
            · go_wp2_with fail
              go_meet
              exact ⟨by rw [HFC.out]; rfl, rfl⟩
            · go_wp2_with fail
              go_meet
              exact ⟨by rw [HFC.out]; rfl, rfl⟩
          · rw [hB3] at HFC
            cases B1
            · go_wp2_with fail
              go_meet
              exact ⟨by rw [HFC.out]; rfl, rfl⟩
            · go_wp2_with fail
              go_meet
              exact ⟨by rw [HFC.out]; rfl, rfl⟩
      case rest =>
        obtain ⟨rfl, rfl⟩ := hcut
        cases hfin : finC F xs ys ⟨(sq : Int), (si : Int), (sk : Int)⟩
        · have HFIN := Lib.hid hfin
          clear hfin
          have HWY := Lib.hid (bchain HW2.out HBY.out)
          have HBY2 : Hid (Below b w2 Y) := HBR.out.trans (HBY.out.mono (by have := HBR.out.size; have := HB0.out; omega))
          obtain ⟨Aa, na, ca, hta2, hra⟩ := HT.out.at_ hsq
          have hgw2 : g < b := by rw [← HB0.out]; exact HT.out.1
          have hta := (HBY2.out.cell (p := ⟨g, sq, none⟩) hgw2).trans hta2
          clear hta2
          obtain ⟨Aa', na', ca', hee, ha1, ha2, HNA, HRA⟩ := hra.op
          cases hee
          have hql1 : (0 : Int) ≤ (sq : Int) := by omega
          have hql2 : (sq : Int) < (S : Int) := by omega
          have hgY : g < Y.heap.size := World.block_lt_of_cell? Y _ hta
          clear hra
          have HVY := Lib.hid (HVS.out.below HBY.out)
          have HQY : Hid (OwnC Y b (.slice (some ⟨gr, 0, none⟩) ql cq) Qs') := own_below HQ.out HBY.out
          have hne0 : Hid ((Value.slice (some ⟨gr, 0, none⟩) ql cq).ownBlock ≠ some gc) := by simp [Hid, Value.ownBlock]; omega
          have HM0 : Hid (2 * cf (marks F xs ys Vs) + Qs'.length ≤ gk - 1 ∧ 1 ≤ gk) := by have := HGK.out; simp at this; exact ⟨by omega, by omega⟩
          have hgcY := hgcl
          go_wp2_with fail
          obtain ⟨wo, rfl⟩ : ∃ wo : World, wo = Y := ⟨_, rfl⟩
          clear hta hgY hgcl t0 t1 t2
          go_loopg [9, 78] na (fun g2 v9 v78 wz => ∃ (j : Nat) (Aq : Option Addr) (nq cq : Nat) (Vs2 Qs2 : List Cfg), j ≤ na ∧ g2 = na - j ∧ v78 = .int .i64 j ∧ v9 = .slice Aq nq cq ∧ Hid (OwnC wz b (.slice Aq nq cq) Qs2) ∧ Hid ((Value.slice Aq nq cq).ownBlock ≠ some gc) ∧ Hid (OwnV wz b Vs2.length Vs2) ∧ Hid (Dfs F xs ys Vs2 Qs2 (fun d => d = ⟨(sq : Int), (si : Int), (sk : Int)⟩)) ∧
              Hid (∀ a, a ∈ (arcsOf F.arcs sq).take j → okC xs ys a ⟨(sq : Int), (si : Int), (sk : Int)⟩ = true → Go.Proofs.Ytmejihlplbeekaa.nx a ⟨(sq : Int), (si : Int), (sk : Int)⟩ ∈ Vs2) ∧ Hid (2 * cf (marks F xs ys Vs2) + Qs2.length ≤ gk - 1) ∧ Hid (Below b w2 wz) ∧ Hid (CBlk wz gc ⟨(sq : Int), (si : Int), (sk : Int)⟩))
          case atStart => exact ⟨0, _, _, _, Vs, Qs', Nat.zero_le _, rfl, rfl, rfl, HQY.out, hne0.out, HVY.out, HDP.out, by intro a ha; simp at ha, HM0.out.1, HBY2.out, HCB.out⟩
          case round =>
            obtain ⟨j, Aq, nq, cq2, Vs2, Qs2, hj, hg2, rfl, rfl, HQ2, HNE2, HV2, HD2, HS2, HM2, HB2z, HC2⟩ := hrel
            have HG2 := Lib.hid hg2
            clear hg2
            have HBwz := Lib.hid (bchain HB2.out (by rw [HB0.out]; exact HB2z.out))
            by_cases hlt : j < na
            · obtain ⟨bb, off, x0, x1, x2, x3, rfl, hbb, hdr, e0, e1, e2, e3⟩ := (HRA.out j hlt).below (by rw [HB0.out]; exact HB2z.out)
              obtain ⟨t0, t1, t2⟩ := HC2.out.cells
              dsimp only at t0 t1 t2
              have hgcl := HC2.out.lt
              have HAM : Hid ((⟨x0, x1, x2, x3⟩ : PArc) ∈ arcsOf F.arcs sq) := List.mem_of_mem_drop (by rw [hdr.out]; exact List.mem_cons_self)
              have HTK : Hid ((arcsOf F.arcs sq).take (j + 1) = (arcsOf F.arcs sq).take j ++ [⟨x0, x1, x2, x3⟩]) := by
                have hl : j < (arcsOf F.arcs sq).length := by rw [HNA.out]; exact hlt
                have h := hdr.out
                rw [List.drop_eq_getElem_cons hl] at h
                rw [Hid, List.take_succ_eq_append_getElem hl, (List.cons.inj h).1]
              have HBzz : Hid (Below w.heap.size w wr) := HBwz.out
              go_wp2_with fail
              generalize hZ : World.alloc wr _ = Z
              have HBZ : Hid (Below wr.heap.size wr Z) := by rw [← hZ]; exact (Below.refl _ _).alloc (Nat.le_refl _) _
              have HAB : Hid (ABlk Z wr.heap.size x0 x1 x2 x3) := by rw [← hZ]; exact heap_alloc_new wr _
              generalize wr.heap.size = ga at HAB ⊢
              clear hZ e0 e1 e2 e3
              have HBwZ := Lib.hid (bchain HBwz.out HBZ.out)
              refine (eat_any _ xs si x1 _ (Hx.out.below HBwZ.out) (by rw [hnx.out]; exact hsi) (by rw [hnx.out]; omega)).mono ?_
              rintro e Z1 ⟨rfl, n1, rfl⟩
              generalize hi2 : si + stepD x1 = i2
              have HI2 := Lib.hid hi2
              clear hi2
              have HC1 := HC2.out.below HBZ.out
              obtain ⟨t0, t1, t2⟩ : (Z.drewN n1).cell? ⟨gc, 0, none⟩ = some (.int .i64 (sq : Int)) ∧ (Z.drewN n1).cell? ⟨gc, 1, none⟩ = some (.int .i64 (si : Int)) ∧ (Z.drewN n1).cell? ⟨gc, 2, none⟩ = some (.int .i64 (sk : Int)) := HC1.cells
              obtain ⟨u0, u1, u2, u3⟩ : (Z.drewN n1).cell? ⟨ga, 0, none⟩ = some (.int .i64 x0) ∧ (Z.drewN n1).cell? ⟨ga, 1, none⟩ = some (.int .i64 x1) ∧ (Z.drewN n1).cell? ⟨ga, 2, none⟩ = some (.int .i64 x2) ∧ (Z.drewN n1).cell? ⟨ga, 3, none⟩ = some (.int .i64 x3) := HAB.out.cells
              go_wp2_with fail
              refine (eat_any _ ys sk x2 _ (Hy.out.below (below_drewN HBwZ.out n1)) (by rw [hny.out]; exact hsk) (by rw [hny.out]; omega)).mono ?_
              rintro e Z2 ⟨rfl, n2, rfl⟩
              generalize hk2 : sk + stepD x2 = k2
              have HK2 := Lib.hid hk2
              clear hk2
              clear t0 t1 t2 u0 u1 u2 u3 HC1
              generalize hV : (Z.drewN n1).drewN n2 = V
              have HBV : Hid (Below wr.heap.size wr V) := by rw [← hV]; exact below_drewN (below_drewN HBZ.out n1) n2
              have HAV : Hid (ABlk V ga x0 x1 x2 x3) := by rw [← hV]; exact HAB.out
              clear hV
              obtain ⟨u0, u1, u2, u3⟩ := HAV.out.cells
              have hgal := (Array.getElem?_eq_some_iff.1 HAV.out).1
              have HCV := Lib.hid (HC2.out.below HBV.out)
              have HVV := Lib.hid (HV2.out.below HBV.out)
              have HQV : Hid (OwnC V b (.slice Aq nq cq2) Qs2) := own_below HQ2.out HBV.out
              have HB2V : Hid (Below b w2 V) := HB2z.out.trans (HBV.out.mono (by have := HB2z.out.size; have := HB0.out; omega))
              have HSTEP : Hid (∀ Vs3 : List Cfg, (∀ d, d ∈ Vs2 → d ∈ Vs3) → ((stepOk xs si x1 && stepOk ys sk x2) = true → (⟨x3, (i2 : Int), (k2 : Int)⟩ : Cfg) ∈ Vs3) →
                  ∀ a, a ∈ (arcsOf F.arcs sq).take (j + 1) → okC xs ys a ⟨(sq : Int), (si : Int), (sk : Int)⟩ = true → Go.Proofs.Ytmejihlplbeekaa.nx a ⟨(sq : Int), (si : Int), (sk : Int)⟩ ∈ Vs3) := by
                intro Vs3 hsub hnew a ha ho
                rw [HTK.out] at ha
                rcases List.mem_append.1 ha with h | h
                · exact hsub _ (HS2.out a h ho)
                · have ea : a = ⟨x0, x1, x2, x3⟩ := by simpa using h
                  subst ea
                  simp only [okC, Int.toNat_natCast] at ho
                  have hm := hnew ho
                  simp only [Go.Proofs.Ytmejihlplbeekaa.nx]
                  rw [← Int.natCast_add, ← Int.natCast_add, HI2.out, HK2.out]
                  exact hm
              have HWF : Hid ((stepOk xs si x1 && stepOk ys sk x2) = true → CBox F xs ys ⟨x3, (i2 : Int), (k2 : Int)⟩) := by
                intro ho
                have hma := HAM.out
                simp only [arcsOf, List.mem_filter, beq_iff_eq] at hma
                have hb := okC_box HR.out HC.out hma.1 hma.2 (by simpa only [okC, Int.toNat_natCast] using ho)
                simp only [Go.Proofs.Ytmejihlplbeekaa.nx] at hb
                rw [← Int.natCast_add, ← Int.natCast_add, HI2.out, HK2.out] at hb
                exact hb
              generalize ho1 : stepOk xs si x1 = ok1 at HSTEP HWF ⊢
              generalize ho2 : stepOk ys sk x2 = ok2 at HSTEP HWF ⊢
              clear ho1 ho2
              have hlook : ∀ o, decide ((⟨x3, (i2 : Int), (k2 : Int)⟩ : Cfg) ∈ Vs2) = false ∨ True → InI x3 → InI i2 → InI k2 → (Instr.lookup 52 (.map (some b)) (.agg #[.int .i64 x3, .int .i64 (i2 : Int), .int .i64 (k2 : Int)]) false).run Try.prog (V.alloc o) = .ok (.bool (decide ((⟨x3, (i2 : Int), (k2 : Int)⟩ : Cfg) ∈ Vs2))) (V.alloc o) :=
                fun o _ h0 h1 h2 => (HVV.out.below ((Below.refl _ _).alloc (Nat.le_refl _) o)).look ⟨x3, i2, k2⟩ ⟨h0, h1, h2⟩
              have HLOOK := Lib.hid hlook
              clear hlook
              have HAL : Hid (∀ o, Below V.heap.size V (V.alloc o)) := fun o => (Below.refl _ _).alloc (Nat.le_refl _) o
              have hbV : b ≤ V.heap.size := by have := HB2V.out.size; have := HB0.out; omega
              cases ok1
              · go_wp2_with fail
                go_roundg (na - (j + 1))
                case measure => rw [HG2.out]; omega
                case rel => exact ⟨j + 1, _, _, _, Vs2, Qs2, by omega, rfl, by go_num, rfl, own_below HQV.out (HAL.out _), HNE2.out, HVV.out.below (HAL.out _), HD2.out, HSTEP.out Vs2 (fun d h => h) (fun h => by simp at h), HM2.out, HB2V.out.alloc hbV _, HCV.out.below (HAL.out _)⟩
              · cases ok2
                · go_wp2_with fail
                  go_roundg (na - (j + 1))
                  case measure => rw [HG2.out]; omega
                  case rel => exact ⟨j + 1, _, _, _, Vs2, Qs2, by omega, rfl, by go_num, rfl, own_below HQV.out (HAL.out _), HNE2.out, HVV.out.below (HAL.out _), HD2.out, HSTEP.out Vs2 (fun d h => h) (fun h => by simp at h), HM2.out, HB2V.out.alloc hbV _, HCV.out.below (HAL.out _)⟩
                · have HCBX := Lib.hid (HWF.out rfl)
                  have hI3 : InI x3 := by have := HCBX.out.q0; have := HCBX.out.q1; have := HSS.out; simp only at *; exact ⟨by omega, by omega⟩
                  have hII : InI i2 := by have := HCBX.out.i1; have := HX1.out; simp only at *; exact ⟨by omega, by omega⟩
                  have hIK : InI k2 := by have := HCBX.out.k1; have := HY1.out; simp only at *; exact ⟨by omega, by omega⟩
                  have hl := fun o => HLOOK.out o (.inr trivial) hI3 hII hIK
                  have HWF3 : Hid (Cfg.Wf ⟨x3, (i2 : Int), (k2 : Int)⟩) := ⟨hI3, hII, hIK⟩
                  clear hI3 hII hIK
                  cases hvis : decide ((⟨x3, (i2 : Int), (k2 : Int)⟩ : Cfg) ∈ Vs2)
                  · rw [hvis] at hl
                    have HNV : Hid ((⟨x3, (i2 : Int), (k2 : Int)⟩ : Cfg) ∉ Vs2) := of_decide_eq_false hvis
                    clear hvis
                    go_upto_region 19 with (fail)
                    clear hl
                    generalize hN : World.alloc V _ = N
                    obtain ⟨gn, hgn⟩ : ∃ gn, V.heap.size = gn := ⟨_, rfl⟩
                    have HNC : Hid (CBlk N gn ⟨x3, (i2 : Int), (k2 : Int)⟩) := by rw [← hN, ← hgn]; exact heap_alloc_new V _
                    have HNB : Hid (Below V.heap.size V N) := by rw [← hN]; exact (Below.refl _ _).alloc (Nat.le_refl _) _
                    have hgcn : gc ≠ gn := by have := HCV.out.lt; omega
                    rw [hgn]
                    clear hN hgn
                    have HNO := Lib.hid (HVV.out.below HNB.out)
                    have HQN : Hid (OwnC N b (.slice Aq nq cq2) Qs2) := own_below HQV.out HNB.out
                    have HCN := Lib.hid (HCV.out.below HNB.out)
                    have HB2N : Hid (Below b w2 N) := HB2V.out.trans (HNB.out.mono hbV)
                    have hgnl := HNC.out.lt
                    obtain ⟨r0, r1, r2⟩ := HNC.out.cells
                    dsimp only at r0 r1 r2
                    have HLEN : Hid (nq = Qs2.length) := HQN.out.len
                    have hVl : Vs2.length ≤ 9000000000 := by have := HD2.out.cnt; have := size_le HR.out HSS.out HX1.out HY1.out; omega
                    have HVL := Lib.hid hVl
                    clear hVl
                    have HNEB := Lib.hid (HNO.out.ne HQN.out)
                    go_upto_region 20 with (refine wpList_putV rfl (.tmp 115) (.tmp 116) (.const (.bool true)) (.inl rfl) b Vs2.length Vs2 ⟨x3, i2, k2⟩ rfl rfl rfl HNO.out HWF3.out (by have := HVL.out; simp only [maxLen]; omega) ?_; intro w4 hm4 hg4)
                    have HM4 := Lib.hid hm4
                    have HG4 := Lib.hid hg4
                    have hcb : ∀ (q : Nat) (d : Cfg), CBlk N q d → N.heap[q]? ≠ none ∧ some q ≠ some b := fun q d h => by
                      obtain ⟨es, cl, hm⟩ := HNO.out.block
                      refine ⟨by rw [h]; simp, fun he => ?_⟩
                      cases he
                      rw [h] at hm; cases hm
                    have HC4n : Hid (CBlk w4 gn ⟨x3, (i2 : Int), (k2 : Int)⟩) := (hg4.block gn HNC.out.lt (hcb _ _ HNC.out).2).trans HNC.out
                    have HC4c : Hid (CBlk w4 gc ⟨(sq : Int), (si : Int), (sk : Int)⟩) := (hg4.block gc HCN.out.lt (hcb _ _ HCN.out).2).trans HCN.out
                    have HQ4 : Hid (OwnC w4 b (.slice Aq nq cq2) Qs2) := World.ownsRow.kept HQN.out hg4 (.inr HNEB.out)
                    have HB4 : Hid (Below b w2 w4) := HB2N.out.grown hg4 (by have := HB2N.out.size; have := HB0.out; omega) (fun k hk => by cases hk; omega)
                    have hb4 : b ≤ w4.heap.size := by have := HB4.out.size; have := HB0.out; omega
                    have hgc4 := HC4c.out.lt
                    clear hm4 hg4 hcb r0 r1 r2 hgnl
                    have hgnl := HC4n.out.lt
                    obtain ⟨r0, r1, r2⟩ := HC4n.out.cells
                    dsimp only at r0 r1 r2
                    go_wp2_with (at_builtin; refine wpList_app_cfg rfl (.tmp 117) (.tmp 119) rfl b (.slice Aq nq cq2) Qs2 rfl HQ4.out ⟨x3, i2, k2⟩ (by have := HD2.out.ql; have := HVL.out; omega) hb4 rfl ?_; intro g5 cap5 w5 ho5 hg5 hl5)
                    have HO5 := Lib.hid ho5
                    have HG5 := Lib.hid hg5
                    have HL5 := Lib.hid hl5
                    clear ho5 hg5 hl5
                    go_roundg (na - (j + 1))
                    case measure => rw [HG2.out]; omega
                    case rel =>
                      have HNE4 := HM4.out.ne HQ4.out
                      have hcf := cf_push HD2.out.box HCBX.out HNV.out
                      refine ⟨j + 1, _, _, _, ⟨x3, (i2 : Int), (k2 : Int)⟩ :: Vs2, Qs2 ++ [(⟨x3, (i2 : Int), (k2 : Int)⟩ : Cfg)], by omega, rfl, by go_num, rfl, HO5.out, ?_, HM4.out.kept HG5.out HNE4, HD2.out.push HCBX.out HNV.out, HSTEP.out _ (fun d h => by simp [h]) (fun _ => by simp), ?_, ?_, ?_⟩
                      · rcases HL5.out with h | h
                        · intro he; exact HNE2.out (h.trans he)
                        · intro he; simp [Value.ownBlock] at he; omega
                      · have := HM2.out
                        simp only [Hid, List.length_append, List.length_cons, List.length_nil]
                        omega
                      · exact HB4.out.grown HG5.out hb4 (fun k hk => (World.ownsRow.lt HQ4.out k hk).1)
                      · exact (HG5.out.block gc HC4c.out.lt (Ne.symm HNE2.out)).trans HC4c.out
                  · rw [hvis] at hl
                    have hnv : (⟨x3, (i2 : Int), (k2 : Int)⟩ : Cfg) ∈ Vs2 := of_decide_eq_true hvis
                    have HNV := Lib.hid hnv
                    clear hnv
                    clear hvis
                    go_wp2_with fail
                    clear hl
                    go_roundg (na - (j + 1))
                    case measure => rw [HG2.out]; omega
                    case rel => exact ⟨j + 1, _, _, _, Vs2, Qs2, by omega, rfl, by go_num, rfl, own_below HQV.out (HAL.out _), HNE2.out, HVV.out.below (HAL.out _), HD2.out, HSTEP.out Vs2 (fun d h => h) (fun _ => HNV.out), HM2.out, HB2V.out.alloc hbV _, HCV.out.below (HAL.out _)⟩
            · have hjn : j = na := by omega
              have HDN := Lib.hid (HD2.out.finish ⟨HFIN.out, fun a ha hf ho => HS2.out a (by rw [List.take_of_length_le (by rw [HNA.out]; omega)]; simp only [arcsOf, List.mem_filter, beq_iff_eq]; exact ⟨ha, hf⟩) ho⟩)
              go_wp2_with fail
              go_roundg (2 * cf (marks F xs ys Vs2) + Qs2.length)
              case measure => have := HM2.out; have := HM0.out.2; omega
              case rel => exact ⟨_, _, _, Vs2, Qs2, rfl, HQ2.out, HV2.out, HDN.out, rfl, HB2z.out⟩
        · have HA := Lib.hid (dfs_yes HPX.out HPY.out HC.out hfin)
          go_wp2_with fail
          go_ret
          exact ⟨by rw [HA.out]; rfl, bchain HW2.out HBY.out⟩
end Go.Proofs.Ytmejihlplbeekaa
