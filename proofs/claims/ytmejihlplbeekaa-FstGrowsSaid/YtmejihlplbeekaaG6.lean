/-
  The finder of fst: spread.
-/
import Derived.Test.YtmejihlplbeekaaG5
import Derived.Test.YtmejihlplbeekaaGP3
namespace Go.Proofs.Ytmejihlplbeekaa
open Go.ChangeShapes Go.WideShapes Go.ChangeAt Go.RowKit
def PBlk (w : World) (g : Nat) (c : Plc) : Prop := w.heap[g]? = some (.cells #[.int .i64 c.q, .int .i64 c.i] 64 (0, 0))
theorem PBlk.lt {w : World} {g : Nat} {c : Plc} (h : PBlk w g c) : g < w.heap.size := (Array.getElem?_eq_some_iff.1 h).1
theorem PBlk.below {w w' : World} {g : Nat} {c : Plc} (h : PBlk w g c) (hb : Below w.heap.size w w') : PBlk w' g c := (hb.block g h.lt).trans h
theorem PBlk.same {w w' : World} {g : Nat} {c : Plc} (h : PBlk w g c) (hb : w'.heap[g]? = w.heap[g]?) : PBlk w' g c := hb.trans h
theorem PBlk.cells {w : World} {g : Nat} {c : Plc} (h : PBlk w g c) : w.cell? ⟨g, 0, none⟩ = some (.int .i64 c.q) ∧ w.cell? ⟨g, 1, none⟩ = some (.int .i64 c.i) := by
  refine ⟨?_, ?_⟩ <;> rw [cell_of_row w g _ _ _ (0, 0) h] <;> rfl
theorem own_ne_map {P : Program} {α β : Type} {S : MS P α β} {w : World} {b : Nat} {L : List α} {f : α → Option β} (h : OwnM S w b L f) {base size n : Nat} {e : TypeId} {v : Value} {xs : List Value} (k : w.ownsRow base e size v n xs) : v.ownBlock ≠ some b := fun he => by
  obtain ⟨cs, hc⟩ := row_type k he
  exact h.ne hc rfl
theorem OwnR.iter {P : Program} {α β : Type} {S : MS P α β} {w : World} {b r : Nat} {L : List α} {f : α → Option β} {left : α → Bool} {cnt : Nat} (h : OwnR S w b r L f left cnt) : ∃ x y z, w.heap[r]? = some (.mapIter (some b) x y z) := by
  obtain ⟨D, lf, ⟨es, cl, si, se, c0, _, _, _, _, h5, _⟩, _⟩ := h
  exact ⟨_, _, _, h5⟩
theorem own_ne_iter {P : Program} {α β : Type} {S : MS P α β} {w : World} {b r : Nat} {L : List α} {f : α → Option β} {left : α → Bool} {cnt : Nat} (h : OwnR S w b r L f left cnt) {base size n : Nat} {e : TypeId} {v : Value} {xs : List Value} (k : w.ownsRow base e size v n xs) : v.ownBlock ≠ some r := fun he => by
  obtain ⟨cs, hc⟩ := row_type k he
  obtain ⟨x, y, z, hi⟩ := h.iter
  rw [hc] at hi
  cases hi
theorem own_newP (w : World) (base g : Nat) (hg : w.heap.size = g) (hb : base ≤ g) : OwnP (w.alloc (.cells #[] 64)) base (.slice (some ⟨g, 0, none⟩) 0 0) [] := by
  subst hg
  exact ⟨rfl, .inr ⟨w.heap.size, 0, #[], rfl, hb, heap_alloc_new w _, Nat.le_refl _, by simp [maxLen], rfl, rfl⟩⟩
theorem OwnP.len {w : World} {base : Nat} {A : Option Addr} {n c : Nat} {l : List Plc} (h : OwnP w base (.slice A n c) l) : n = l.length := by
  rcases h.2 with ⟨h2, h3⟩ | ⟨g, cap, cur, h2, _⟩
  · cases h2; omega
  · cases h2; rfl
theorem wpList_nextB {w : World} {ops : Array Oper} {rest : List Oper} {o : Oper} {a : Act} {Q : Exit → Act → World → Prop} (hg : o.guard = none) (it : Operand) (hop : o.op = Op.next it false)
    (b r : Nat) (L : List Plc) (V : Plc → Bool) (left : Plc → Bool) (cnt : Nat) (hit : a.eval it = .pointer (some ⟨r, 0, none⟩)) (h : OwnR MB w b r L (setF V) left cnt)
    (hDone : cnt = 0 → (∀ c : Plc, c.Wf → left c = false) → Hid (wpList Try.prog ops Q rest (a.put o.dst (.tuple #[.bool false])) w))
    (hMore : ∀ (q i : Int) (w' : World) (cnt' : Nat), Plc.Wf ⟨q, i⟩ → left ⟨q, i⟩ = true → V ⟨q, i⟩ = true → OwnR MB w' b r L (setF V) (fun d => left d && decide (d ≠ ⟨q, i⟩)) cnt' → cnt' < cnt →
      w.grownBy w' (some r) → w'.heap.size = w.heap.size → (Instr.entry (.pointer (some ⟨r, 0, none⟩))).run Try.prog w' = .ok (.tuple #[.agg #[.int .i64 q, .int .i64 i], .bool true]) w' → Hid (wpList Try.prog ops Q rest (a.put o.dst (.tuple #[.bool true, .agg #[.int .i64 q, .int .i64 i], .bool true])) w')) :
    wpList Try.prog ops Q (o :: rest) a w := by
  refine wpList_nextM (S := MB) hg it hop b r L (setF V) left cnt hit h (fun h0 h1 => hDone h0 h1) (fun c x w' cnt' h1 h2 h3 h4 h5 h6 h7 h8 => ?_)
  obtain rfl : x = true := by unfold setF at h3; split at h3 <;> simp at h3; exact h3
  exact hMore c.q c.i w' cnt' h1 h2 (setF_some h3) h4 h5 h6 h7 h8
theorem wpList_nextS {w : World} {ops : Array Oper} {rest : List Oper} {o : Oper} {a : Act} {Q : Exit → Act → World → Prop} (hg : o.guard = none) (it : Operand) (hop : o.op = Op.next it false)
    (b r : Nat) (L : List Int) (V : Int → Bool) (left : Int → Bool) (cnt : Nat) (hit : a.eval it = .pointer (some ⟨r, 0, none⟩)) (h : OwnR SB w b r L (setF V) left cnt)
    (hDone : cnt = 0 → (∀ c : Int, InI c → left c = false) → Hid (wpList Try.prog ops Q rest (a.put o.dst (.tuple #[.bool false])) w))
    (hMore : ∀ (c : Int) (w' : World) (cnt' : Nat), InI c → left c = true → V c = true → OwnR SB w' b r L (setF V) (fun d => left d && decide (d ≠ c)) cnt' → cnt' < cnt →
      w.grownBy w' (some r) → w'.heap.size = w.heap.size → (Instr.entry (.pointer (some ⟨r, 0, none⟩))).run Try.prog w' = .ok (.tuple #[.int .i64 c, .bool true]) w' → Hid (wpList Try.prog ops Q rest (a.put o.dst (.tuple #[.bool true, .int .i64 c, .bool true])) w')) :
    wpList Try.prog ops Q (o :: rest) a w := by
  refine wpList_nextM (S := SB) hg it hop b r L (setF V) left cnt hit h (fun h0 h1 => hDone h0 h1) (fun c x w' cnt' h1 h2 h3 h4 h5 h6 h7 h8 => ?_)
  obtain rfl : x = true := by unfold setF at h3; split at h3 <;> simp at h3; exact h3
  exact hMore c w' cnt' h1 h2 (setF_some h3) h4 h5 h6 h7 h8
/-- what the finder's functions find in memory: the world w₀ in which its block is made holds the transducer, the input and the table of arcs -/
structure Env (w₀ : World) (B S g : Nat) (va vf vin : Value) (F : PFst) (xs : List Int) : Prop where
  sz : w₀.heap.size = B
  fin : RdI w₀ vf F.final
  inp : RdI w₀ vin xs
  tab : Arcs w₀ g S F.arcs
  good : GoodA F
  finB : ∀ q, q ∈ F.final → 0 ≤ q ∧ q < F.states
  st : F.states = (S : Int)
  s2 : S ≤ 4096
  xl : xs.length ≤ 1000
  al : F.arcs.length ≤ 262144
  outB : ∀ a, a ∈ F.arcs → a.out ≤ 1099511627776
set_option maxHeartbeats 4000000 in
set_option maxRecDepth 100000 in
theorem spread_any (w₀ w : World) (B S g bN : Nat) (va vf vin lv fv : Value) (m : Int) (F : PFst) (xs : List Int) (N : Plc → Bool) (he : Env w₀ B S g va vf vin F xs) (hB : Below B w₀ w) (hk : FinB w B S va vf g vin lv m fv) (hm : OwnM MB w bN (boxP S xs.length) (setF N)) (hN : BoxP F xs N) (hBN : B < bN) :
    Calls Try.prog 54 #[.pointer (some ⟨B, 0, none⟩), .map (some bN)] w fun e w' => ∃ v' Sy V, e = .returned v' ∧ OwnI w' w.heap.size v' Sy ∧ Sy.Pairwise (· < ·) ∧ (∀ x, x ∈ Sy ↔ SymsP F xs V x) ∧ SpreadP F xs N V ∧ OwnM MB w' bN (boxP S xs.length) (setF V) ∧ Frm w.heap.size (fun k => k = bN) w w' := by
  have HE := Lib.hid he
  obtain ⟨Ax, nx, cx, rfl, h1x, h2x, hnx, hrx⟩ := he.inp.op
  obtain rfl := hnx.out
  have HB0 := Lib.hid hB
  have HN := Lib.hid hN
  have HK := Lib.hid hk
  have HM := Lib.hid hm
  have HBN := Lib.hid hBN
  have hXL := he.xl
  have hS2 := he.s2
  have HBX4 : Hid ((boxP S xs.length).length ≤ 4100096) := by
    have h := boxP_len S xs.length
    have h2 : S * (xs.length + 1) ≤ 4096 * 1001 := Nat.mul_le_mul (by omega) (by omega)
    simp only [Hid]
    omega
  have HBX : Hid ((boxP S xs.length).length < maxLen) := by have := HBX4.out; simp only [Hid, maxLen]; omega
  obtain ⟨n0, hn0⟩ : ∃ n0, w.heap.size = n0 := ⟨_, rfl⟩
  have HN0 := Lib.hid hn0
  have HBn : Hid (B < n0 ∧ bN < n0) := ⟨by have := hk.lt; omega, by have := hm.lt; omega⟩
  have hmm := @run_makeMap Try.prog
  rw [hn0]
  clear he hnx hrx hB hk hm hN hBN
  go_enter Try.func54, Try.ntmps54
  go_upto_region 2 with (fail)
  clear hn0
  generalize hW : World.alloc w _ = W
  have HQ0 : Hid (OwnP W n0 (.slice (some ⟨n0, 0, none⟩) 0 0) []) := by rw [← hW]; exact own_newP w n0 n0 HN0.out (Nat.le_refl _)
  have HBW : Hid (Frm n0 (fun k => k = bN) w W) := by rw [← hW]; exact (Frm.refl _ _ _).alloc (by have := HN0.out; omega) _
  have HMW : Hid (OwnM MB W bN (boxP S xs.length) (setF N)) := by rw [← hW]; exact HM.out.below ((Below.refl _ _).alloc (Nat.le_refl _) _)
  have hWn : n0 ≤ W.heap.size := by have := HBW.out.size; have := HN0.out; omega
  have HWN := Lib.hid hWn
  clear hW hWn
  go_wp2_with (first | (at_range; refine wpList_rangeM (S := MB) rfl (.tmp 17) rfl bN (boxP S xs.length) (setF N) rfl HMW.out ?_; intro w1 cnt0 hor hcn hg1 hs1) | fail)
  go_frame
  obtain ⟨rI, hrI⟩ : ∃ rI, W.heap.size = rI := ⟨_, rfl⟩
  rw [hrI] at hor ⊢
  have HRI : Hid (n0 ≤ rI) := by have := HWN.out; unfold Hid; omega
  have HOR1 := Lib.hid hor
  have HCN := Lib.hid hcn
  have HF1 : Hid (Frm n0 (fun k => k = bN) w w1) := HBW.out.grown hg1 HWN.out (fun j hj => by cases hj)
  have HQ1 : Hid (OwnP w1 n0 (.slice (some ⟨n0, 0, none⟩) 0 0) []) := World.ownsRow.kept HQ0.out hg1 (.inr (by simp [Value.ownBlock]))
  clear hor hcn hg1 hs1 hrI HQ0 HMW HBW
  go_loopg [5] cnt0 (fun gk v5 wr => ∃ (A : Option Addr) (nq cq : Nat) (Qs : List Plc) (left : Plc → Bool), v5 = .slice A nq cq ∧ Hid (OwnP wr n0 (.slice A nq cq) Qs) ∧ Hid (OwnR MB wr bN rI (boxP S xs.length) (setF N) left gk) ∧ Hid (∀ c, c.Wf → (c ∈ Qs ↔ N c = true ∧ left c = false)) ∧ Hid (∀ c, c ∈ Qs → N c = true) ∧ Qs.length + gk ≤ cnt0 ∧ Hid (Frm n0 (fun k => k = bN) w wr))
  case atStart => exact ⟨_, _, _, [], _, rfl, HQ1.out, HOR1.out, (fun c _ => by rw [setF_isSome]; simp), (fun c h => by cases h), by simp, HF1.out⟩
  case round =>
    obtain ⟨A, nq, cq, Qs, left, rfl, HQ, HOR, HIF, HQN, hql, HFR⟩ := hrel
    have HQL := Lib.hid hql
    clear hql
    go_wp2_with (first | (at_next; refine wpList_nextB rfl (.tmp 18) rfl bN rI (boxP S xs.length) N left gk rfl HOR.out (fun hc0 hl0 => ?_) (fun q i w2 cnt2 hcw hlc hfc hor2 hlt2 hg2 hs2 hen => ?_)) | fail)
    · have hqn : ∀ c, c ∈ Qs ↔ N c = true := fun c => ⟨HQN.out c, fun h => by
        have hw := (HN.out c h).wf (by rw [HE.out.st]; omega) (by omega)
        exact (HIF.out c hw).2 ⟨h, hl0 c hw⟩⟩
      have HQE := Lib.hid hqn
      have hqb : Qs.length ≤ (boxP S xs.length).length := by have := HQL.out; have := HCN.out; omega
      have HQB := Lib.hid hqb
      have HMR := Lib.hid HOR.out.own
      clear hqn hc0 hl0 hqb HQL HOR
      refine Lib.hid ?_
      go_wp2_with fail
      obtain ⟨wo, rfl⟩ : ∃ wo : World, wo = wr := ⟨_, rfl⟩
      generalize hX : World.alloc wo _ = X
      obtain ⟨bs, hbs⟩ : ∃ bs, wo.heap.size = bs := ⟨_, rfl⟩
      have hnw : n0 ≤ wo.heap.size := by have := HFR.out.size; have := HN0.out; omega
      have HBS : Hid (n0 ≤ bs ∧ bs ≠ bN) := by unfold Hid; have := HBn.out; omega
      have HXB : Hid (Below wo.heap.size wo X) := by rw [← hX]; exact (Below.refl _ _).alloc (Nat.le_refl _) _
      have HFX : Hid (Frm n0 (fun k => k = bN) w X) := HFR.out.trans (.of_below (HXB.out.mono hnw))
      have HMX := Lib.hid (HMR.out.below HXB.out)
      have HQX : Hid (OwnP X n0 (.slice A nq cq) Qs) := own_below HQ.out HXB.out
      have HSX : Hid (OwnM SB X bs (F.arcs.map (·.out)) (setF fun _ => false)) := by rw [← hX, ← setF_none]; exact OwnM.made SB wo _ bs hbs
      rw [hbs]
      clear hX hbs hnw HXB HMR HQ HFR hmm HIF HQN HF1 HQ1 HOR1
      go_loopg [5] (2 * freeS N (boxP S xs.length) + Qs.length) (fun gk v5 wr => ∃ (Aq : Option Addr) (nq cq : Nat) (Qs : List Plc) (V : Plc → Bool) (Sy : Int → Bool), v5 = .slice Aq nq cq ∧ Hid (OwnP wr n0 (.slice Aq nq cq) Qs) ∧ Hid (OwnM MB wr bN (boxP S xs.length) (setF V)) ∧ Hid (OwnM SB wr bs (F.arcs.map (·.out)) (setF Sy)) ∧ Hid (DfsP F xs N V Qs Sy (fun _ => False)) ∧ Hid (gk = 2 * freeS V (boxP S xs.length) + Qs.length) ∧ Hid (Qs.length + freeS V (boxP S xs.length) ≤ 2 * (boxP S xs.length).length) ∧ Hid (Frm n0 (fun k => k = bN) w wr))
      case atStart => exact ⟨_, _, _, Qs, N, _, rfl, HQX.out, HMX.out, HSX.out, DfsP.start HN.out HQE.out, rfl, by have := HQB.out; have := freeS_le N (boxP S xs.length); unfold Hid; omega, HFX.out⟩
      case round =>
        obtain ⟨Aq, nq2, cq2, Qs2, V, Sy, rfl, HQ2, HM2, HS2, HD2, HGK, HQL2, HF2⟩ := hrel
        clear HQX HMX HSX HFX HQE HQB
        rcases List.eq_nil_or_concat Qs2 with rfl | ⟨Qs', cc, rfl⟩
        · have hnq : nq2 = 0 := HQ2.out.len
          subst hnq
          have HWH := Lib.hid HD2.out.whole
          clear HGK HQL2 HD2
          go_wp2_with (first | (at_range; refine wpList_rangeM (S := SB) rfl (.tmp 90) rfl bs (F.arcs.map (·.out)) (setF Sy) rfl HS2.out ?_; intro w3 cnt3 hor3 hcn3 hg3 hs3) | fail)
          go_frame
          obtain ⟨rJ, hrJ⟩ : ∃ rJ, wr.heap.size = rJ := ⟨_, rfl⟩
          rw [hrJ] at hor3 ⊢
          have hnr : n0 ≤ wr.heap.size := by have := HF2.out.size; have := HN0.out; omega
          have HRJ : Hid (n0 ≤ rJ) := by unfold Hid; omega
          have HOR3 := Lib.hid hor3
          have HCN3 : Hid (cnt3 ≤ 262144) := by have := HE.out.al; rw [List.length_map] at hcn3; unfold Hid; omega
          have HF3 : Hid (Frm n0 (fun k => k = bN) w w3) := HF2.out.grown hg3 hnr (fun j hj => by cases hj)
          have HM3 : Hid (OwnM MB w3 bN (boxP S xs.length) (setF V)) := HM2.out.kept hg3 (by simp)
          clear hor3 hcn3 hg3 hs3 hrJ hnr HF2 HM2 HQ2 HS2
          go_loopg [14] cnt3 (fun gk v14 wr => ∃ (A : Option Addr) (nq cq : Nat) (l : List Int) (left : Int → Bool), v14 = .slice A nq cq ∧ Hid (OwnI wr n0 (.slice A nq cq) l) ∧ Hid (OwnR SB wr bs rJ (F.arcs.map (·.out)) (setF Sy) left gk) ∧ Hid (∀ x, InI x → (x ∈ l ↔ Sy x = true ∧ left x = false)) ∧ Hid (∀ x, x ∈ l → Sy x = true ∧ InI x) ∧ Hid l.Nodup ∧ l.length + gk ≤ cnt3 ∧ Hid (OwnM MB wr bN (boxP S xs.length) (setF V)) ∧ Hid (Frm n0 (fun k => k = bN) w wr))
          case atStart => exact ⟨_, _, _, [], _, rfl, World.ownsRow_nil _ _ _ _, HOR3.out, (fun x _ => by rw [setF_isSome]; simp), (fun x h => by cases h), List.nodup_nil, by simp, HM3.out, HF3.out⟩
          case round =>
            obtain ⟨A3, n3, c3, l, left, rfl, HO, HOR, HIF, HIS, HND, hll, HM, HF⟩ := hrel
            have HLL := Lib.hid hll
            clear hll
            go_wp2_with (first | (at_next; refine wpList_nextS rfl (.tmp 91) rfl bs rJ (F.arcs.map (·.out)) Sy left gk rfl HOR.out (fun hc0 hl0 => ?_) (fun x w4 cnt4 hxw hlx hfx hor4 hlt4 hg4 hs4 hen => ?_)) | fail)
            · have hmem : ∀ x, x ∈ l ↔ SymsP F xs V x := fun x => by
                rw [← HWH.out.2 x]
                refine ⟨fun h => (HIS.out x h).1, fun h => ?_⟩
                have hx : InI x := by
                  obtain ⟨h0, c, a, _, h2, h3⟩ := (HWH.out.2 x).1 h
                  have := HE.out.outB a h2.1
                  unfold InI
                  omega
                exact (HIF.out x hx).2 ⟨h, hl0 x hx⟩
              have HMEM := Lib.hid hmem
              have hl3 : l.length ≤ 1000000 := by have := HLL.out; have := HCN3.out; omega
              clear hmem hc0 hl0
              refine Lib.hid ?_
              go_wp2_with fail
              refine (sort_own _ l n0 _ HO.out hl3).mono ?_
              rintro e w5 ⟨rfl, ho5, hg5⟩
              have HO5 := Lib.hid ho5
              have HG5 := Lib.hid hg5
              clear ho5 hg5
              go_wp2_with fail
              go_ret
              have hwn : n0 ≤ wr.heap.size := by have := HF.out.size; have := HN0.out; omega
              refine ⟨_, _, V, rfl, HO5.out, ?_, fun x => ?_, HWH.out.1, HM.out.kept HG5.out (own_ne_map HM.out HO.out), HF.out.grown HG5.out hwn (fun k hk => .inr (World.ownsRow.lt HO.out k hk).1)⟩
              · have h1 : (l.mergeSort fun x y => decide (x ≤ y)).Pairwise (fun x y => decide (x ≤ y) = true) := List.pairwise_mergeSort (by simp; omega) (by simp; omega) l
                have h2 : (l.mergeSort fun x y => decide (x ≤ y)).Nodup := (List.mergeSort_perm l _).nodup_iff.2 HND.out
                rw [List.nodup_iff_pairwise_ne] at h2
                exact (h1.and h2).imp fun h => by have h3 := of_decide_eq_true h.1; have := h.2; omega
              · rw [(List.mergeSort_perm l _).mem_iff]
                exact HMEM.out x
            · have HNX := Lib.hid hfx
              have HXW := Lib.hid hxw
              have HLX := Lib.hid hlx
              have HOR4 := Lib.hid hor4
              have HLT := Lib.hid hlt4
              have hwn : n0 ≤ wr.heap.size := by have := HF.out.size; have := HN0.out; omega
              have HF4 : Hid (Frm n0 (fun k => k = bN) w w4) := HF.out.grown hg4 hwn (fun j hj => by cases hj; exact .inr HRJ.out)
              have HO4 : Hid (OwnI w4 n0 (.slice A3 n3 c3) l) := World.ownsRow.kept HO.out hg4 (.inr (own_ne_iter HOR.out HO.out))
              have HM4 : Hid (OwnM MB w4 bN (boxP S xs.length) (setF V)) := HM.out.kept hg4 (by have := HRJ.out; have := HBn.out; simp; omega)
              have hb4 : n0 ≤ w4.heap.size := by have := HF4.out.size; have := HN0.out; omega
              obtain ⟨ml, hml⟩ : ∃ ml, l.length = ml := ⟨_, rfl⟩
              have HML := Lib.hid hml
              have hl3 : ml ≤ 1000000 := by have := HLL.out; have := HCN3.out; omega
              clear hxw hlx hfx hor4 hlt4 hg4 hs4 hwn hml
              refine Lib.hid ?_
              go_wp2_with (at_builtin; refine wpList_app_int rfl (.tmp 96) (.tmp 98) rfl n0 (.slice A3 n3 c3) l rfl HO4.out x ml HML hl3 hb4 rfl ?_; intro g5 cap5 w5 ho5 hg5 hl5)
              clear hen
              have HO5 := Lib.hid ho5
              have HG5 := Lib.hid hl5
              clear ho5 hg5 hl5
              go_roundg cnt4
              case measure => exact HLT.out
              case rel =>
                refine ⟨_, _, _, l ++ [x], fun d => left d && decide (d ≠ x), rfl, HO5.out, HOR4.out.kept HG5.out (own_ne_map HOR4.out.own HO4.out) (own_ne_iter HOR4.out HO4.out), ?_, ?_, ?_, ?_, HM4.out.kept HG5.out (own_ne_map HM4.out HO4.out), HF4.out.grown HG5.out hb4 (fun k hk => .inr (World.ownsRow.lt HO4.out k hk).1)⟩
                · intro d hd
                  rw [List.mem_append, HIF.out d hd]
                  simp only [List.mem_singleton, Bool.and_eq_false_iff, decide_eq_false_iff_not, Classical.not_not]
                  constructor
                  · rintro (⟨h1, h2⟩ | rfl)
                    · exact ⟨h1, .inl h2⟩
                    · exact ⟨HNX.out, .inr rfl⟩
                  · rintro ⟨h1, h2 | h2⟩
                    · exact .inl ⟨h1, h2⟩
                    · exact .inr h2
                · intro d hd
                  rcases List.mem_append.1 hd with h | h
                  · exact HIS.out d h
                  · obtain rfl : d = x := by simpa using h
                    exact ⟨HNX.out, HXW.out⟩
                · have hx : x ∉ l := fun h => by
                    have := ((HIF.out x HXW.out).1 h).2
                    rw [HLX.out] at this
                    cases this
                  have := HND.out
                  rw [Hid, List.nodup_append]
                  refine ⟨this, by simp, fun a ha b hb => ?_⟩
                  rw [List.mem_singleton] at hb
                  rw [hb]
                  rintro rfl
                  exact hx ha
                · have := HLL.out
                  have := HLT.out
                  simp
                  omega
        · have hsnoc : Qs'.concat cc = Qs' ++ [cc] := by simp
          simp only [hsnoc] at HQ2 HD2 HGK HQL2
          clear hsnoc
          obtain ⟨gr, cap, he, hcap, hcap2, hgr, q0, q1, hq'⟩ := HQ2.out.last
          cases he
          have HQ := Lib.hid hq'
          have hcb := HD2.out.box cc (HD2.out.sub cc (by simp))
          obtain ⟨sq, si, rfl⟩ : ∃ sq si : Nat, cc = ⟨(sq : Int), (si : Int)⟩ := ⟨cc.q.toNat, cc.i.toNat, by have := hcb.q0; have := hcb.i0; cases cc; simp only [Plc.mk.injEq] at *; omega⟩
          dsimp only at q0 q1
          have hsq : sq < S := by have := hcb.q1; rw [HE.out.st] at this; simp only at this; omega
          have hsi : si ≤ xs.length := by have := hcb.i1; simp only at this; omega
          have HC := Lib.hid hcb
          have HVC : Hid (V ⟨(sq : Int), (si : Int)⟩ = true) := HD2.out.sub _ (by simp)
          have HDP := Lib.hid HD2.out.pop
          have HGK2 : Hid (gk = 2 * freeS V (boxP S xs.length) + Qs'.length + 1) := by have := HGK.out; simp at this; exact this
          have HQL3 : Hid (Qs'.length + freeS V (boxP S xs.length) ≤ 2 * (boxP S xs.length).length) := by have := HQL2.out; simp at this; unfold Hid; omega
          clear hcb hq' HQ2 HD2 HGK HQL2
          obtain ⟨ql, hql⟩ : ∃ ql, Qs'.length = ql := ⟨_, rfl⟩
          rw [hql] at hcap q0 q1 HQ ⊢
          have HQLN := Lib.hid hql
          clear hql
          obtain ⟨hBn0, hbNn0⟩ := HBn.out
          have hKR : FinB wr B S va vf g (.slice Ax xs.length cx) lv m fv := HK.out.same (HF2.out.2 B hBn0 (by have := HBN.out; omega))
          obtain ⟨k0, k1, k2, k3, k4, k5, k6, k7⟩ := hKR.cells
          have HKR := Lib.hid hKR
          clear hKR hBn0 hbNn0
          go_upto_region 10 with (fail)
          generalize hY : World.alloc wr _ = Y
          obtain ⟨gc, hgc⟩ : ∃ gc, wr.heap.size = gc := ⟨_, rfl⟩
          have hnr : n0 ≤ wr.heap.size := by have := HF2.out.size; have := HN0.out; omega
          have HBY : Hid (Below wr.heap.size wr Y) := by rw [← hY]; exact (Below.refl _ _).alloc (Nat.le_refl _) _
          have HCB : Hid (PBlk Y gc ⟨(sq : Int), (si : Int)⟩) := by rw [← hY, ← hgc]; exact heap_alloc_new wr _
          have HGC : Hid (n0 ≤ gc ∧ bs < gc) := ⟨by omega, by have := HS2.out.lt; omega⟩
          have HGR : Hid (n0 ≤ gr ∧ gr < gc) := ⟨(World.ownsRow.lt HQ.out gr rfl).1, by omega⟩
          rw [hgc]
          have HKY := Lib.hid (HKR.out.below HBY.out)
          have HFY : Hid (Frm n0 (fun k => k = bN) w Y) := HF2.out.trans (.of_below (HBY.out.mono hnr))
          have HQY : Hid (OwnP Y n0 (.slice (some ⟨gr, 0, none⟩) ql cq2) Qs') := own_below HQ.out HBY.out
          have HMY := Lib.hid (HM2.out.below HBY.out)
          have HSY := Lib.hid (HS2.out.below HBY.out)
          have HBB : Hid (Below B w₀ Y) := HB0.out.trans (HFY.out.below (by have := HBn.out; omega) (fun k hk he => by have := HBN.out; omega))
          clear hY hgc q0 q1 hgr hnr k0 k1 k2 k3 k4 k5 k6 k7 HQ HM2 HS2 HKR HF2
          obtain ⟨k0, k1, k2, k3, k4, k5, k6, k7⟩ := HKY.out.cells
          obtain ⟨t0, t1⟩ := HCB.out.cells
          dsimp only at t0 t1
          have hgcl := HCB.out.lt
          have hbl := HKY.out.lt
          obtain ⟨Aa, na, ca, hta2, hra⟩ := HE.out.tab.at_ hsq
          have hBB : Below w₀.heap.size w₀ Y := by rw [HE.out.sz]; exact HBB.out
          have hta := (hBB.cell (p := ⟨g, sq, none⟩) HE.out.tab.1).trans hta2
          have HTA := Lib.hid hta
          obtain ⟨Aa', na', ca', hee, ha1, ha2, HNA, HRA⟩ := hra.op
          cases hee
          have hql1 : (0 : Int) ≤ (sq : Int) := by omega
          have hql2 : (sq : Int) < (S : Int) := by omega
          have hgY : g < Y.heap.size := World.block_lt_of_cell? Y _ hta
          clear hta2 hra hBB
          go_quiet (fail)
          go_wp2_with fail
          have HM0 : Hid (2 * freeS V (boxP S xs.length) + Qs'.length ≤ gk - 1 ∧ 1 ≤ gk) := by have := HGK2.out; unfold Hid; omega
          clear hta hgY hgcl t0 t1 k0 k1 k2 k3 k4 k5 k6 k7 hbl
          generalize hY2 : World.drewN Y _ = Y2
          have HF3 : Hid (Frm n0 (fun k => k = bN) w Y2) := by rw [← hY2]; exact HFY.out.drewN _
          have HQ3 : Hid (OwnP Y2 n0 (.slice (some ⟨gr, 0, none⟩) ql cq2) Qs') := by rw [← hY2]; exact HQY.out
          have HM3 : Hid (OwnM MB Y2 bN (boxP S xs.length) (setF V)) := by rw [← hY2]; exact HMY.out.same rfl
          have HS3 : Hid (OwnM SB Y2 bs (F.arcs.map (·.out)) (setF Sy)) := by rw [← hY2]; exact HSY.out.same rfl
          have HC3 : Hid (PBlk Y2 gc ⟨(sq : Int), (si : Int)⟩) := by rw [← hY2]; exact HCB.out
          clear hY2 HFY HQY HMY HSY HCB HBB HKY
          go_loopg [5, 51] na (fun g2 v5 v51 wz => ∃ (j : Nat) (Aq : Option Addr) (nqq cq : Nat) (V2 : Plc → Bool) (Qs2 : List Plc) (Sy2 : Int → Bool), j ≤ na ∧ g2 = na - j ∧ v51 = .int .i64 j ∧ v5 = .slice Aq nqq cq ∧ Hid (OwnP wz n0 (.slice Aq nqq cq) Qs2) ∧ Hid ((Value.slice Aq nqq cq).ownBlock ≠ some gc) ∧ Hid (OwnM MB wz bN (boxP S xs.length) (setF V2)) ∧ Hid (OwnM SB wz bs (F.arcs.map (·.out)) (setF Sy2)) ∧
              Hid (DfsP F xs N V2 Qs2 Sy2 (fun d => d = ⟨(sq : Int), (si : Int)⟩)) ∧ Hid (V2 ⟨(sq : Int), (si : Int)⟩ = true) ∧
              Hid (∀ a, a ∈ (arcsOf F.arcs sq).take j → okP xs a ⟨(sq : Int), (si : Int)⟩ = true → (0 < a.out → Sy2 a.out = true) ∧ (a.out = 0 → V2 (Go.Proofs.Ytmejihlplbeekaa.nxP a ⟨(sq : Int), (si : Int)⟩) = true)) ∧
              Hid (2 * freeS V2 (boxP S xs.length) + Qs2.length ≤ gk - 1) ∧ Hid (Qs2.length + freeS V2 (boxP S xs.length) ≤ 2 * (boxP S xs.length).length) ∧ Hid (PBlk wz gc ⟨(sq : Int), (si : Int)⟩) ∧ Hid (Frm n0 (fun k => k = bN) w wz))
          case atStart => exact ⟨0, _, _, _, V, Qs', Sy, Nat.zero_le _, rfl, rfl, rfl, HQ3.out, (by have := HGR.out; simp [Hid, Value.ownBlock]; omega), HM3.out, HS3.out, HDP.out, HVC.out, (fun a ha => by simp at ha), HM0.out.1, HQL3.out, HC3.out, HF3.out⟩
          case round =>
            obtain ⟨j, Aq, nqq, cq3, V2, Qs2, Sy2, hj, hg2, rfl, rfl, HQ2, HNE2, HM2, HS2, HD2, HV2, HST2, HML2, HQL2, HC2, HF2⟩ := hrel
            have HG2 := Lib.hid hg2
            clear hg2
            by_cases hlt : j < na
            · have hnr : n0 ≤ wr.heap.size := by have := HF2.out.size; have := HN0.out; omega
              have HBB : Hid (Below B w₀ wr) := HB0.out.trans (HF2.out.below (by have := HBn.out; omega) (fun k hk he => by have := HBN.out; omega))
              obtain ⟨bb, off, x0, x1, x2, x3, rfl, hbb, hdr, e0, e1, e2, e3⟩ := (HRA.out j hlt).below (by rw [HE.out.sz]; exact HBB.out)
              have HAM : Hid ((⟨x0, x1, x2, x3⟩ : PArc) ∈ arcsOf F.arcs sq) := List.mem_of_mem_drop (by rw [hdr.out]; exact List.mem_cons_self)
              have HTK : Hid ((arcsOf F.arcs sq).take (j + 1) = (arcsOf F.arcs sq).take j ++ [⟨x0, x1, x2, x3⟩]) := take_of_drop hdr.out
              have HAMF : Hid ((⟨x0, x1, x2, x3⟩ : PArc) ∈ F.arcs ∧ x0 = (sq : Int)) := by
                have h := HAM.out
                simp only [arcsOf, List.mem_filter, beq_iff_eq] at h
                exact h
              have HAX := Lib.hid (HE.out.good.tgt _ HAMF.out.1)
              go_upto_region 13 with (fail)
              generalize hZ : World.alloc wr _ = Z
              obtain ⟨ga, hga⟩ : ∃ ga, wr.heap.size = ga := ⟨_, rfl⟩
              have HBZ : Hid (Below wr.heap.size wr Z) := by rw [← hZ]; exact (Below.refl _ _).alloc (Nat.le_refl _) _
              have HAB : Hid (ABlk Z ga x0 x1 x2 x3) := by rw [← hZ, ← hga]; exact heap_alloc_new wr _
              rw [hga]
              clear hZ hga e0 e1 e2 e3
              have HQZ : Hid (OwnP Z n0 (.slice Aq nqq cq3) Qs2) := own_below HQ2.out HBZ.out
              have HMZ := Lib.hid (HM2.out.below HBZ.out)
              have HSZ := Lib.hid (HS2.out.below HBZ.out)
              have HCZ := Lib.hid (HC2.out.below HBZ.out)
              have HFZ : Hid (Frm n0 (fun k => k = bN) w Z) := HF2.out.trans (.of_below (HBZ.out.mono hnr))
              have HBZ0 : Hid (Below B w₀ Z) := HBB.out.trans (HBZ.out.mono (by have := HBn.out; omega))
              clear hnr HQ2 HM2 HS2 HC2 HF2 HBB
              have hKZ : FinB Z B S va vf g (.slice Ax xs.length cx) lv m fv := HK.out.same (HFZ.out.2 B HBn.out.1 (by have := HBN.out; omega))
              obtain ⟨k0, k1, k2, k3, k4, k5, k6, k7⟩ := hKZ.cells
              have hbl := hKZ.lt
              obtain ⟨t0, t1⟩ := HCZ.out.cells
              dsimp only at t0 t1
              obtain ⟨u0, u1, u2, u3⟩ := HAB.out.cells
              have hgcl := HCZ.out.lt
              have hgal := (Array.getElem?_eq_some_iff.1 HAB.out).1
              have HXZ : Hid (RdI Z (.slice Ax xs.length cx) xs) := HE.out.inp.below (by rw [HE.out.sz]; exact HBZ0.out)
              clear hKZ
              go_quiet (first | (go_at_call 37; exact Calls.quiet_of (eat_any _ xs si x1 _ HXZ.out hsi (by omega))))
              clear k0 k1 k2 k3 k4 k5 k6 k7 hbl t0 t1 u0 u1 u2 u3 hgcl hgal
              obtain ⟨ti, hti⟩ : ∃ ti : Nat, (si : Int) + (stepD x1 : Int) = (ti : Int) := ⟨si + stepD x1, by simp⟩
              rw [hti]
              have HT : Hid ((si : Int) + (stepD x1 : Int) = (ti : Int)) := hti
              obtain ⟨ok1, hok⟩ : ∃ ok1, stepOk xs si x1 = ok1 := ⟨_, rfl⟩
              rw [hok]
              have HOK : Hid (stepOk xs si x1 = ok1) := hok
              have hti2 : ti ≤ xs.length + 1 := by have : stepD x1 ≤ 1 := by { unfold stepD; split <;> omega }; omega
              clear hti hok
              generalize hY2 : World.drewN Z _ = Y3
              have HFA : Hid (Frm n0 (fun k => k = bN) w Y3) := by rw [← hY2]; exact HFZ.out.drewN _
              have HQA : Hid (OwnP Y3 n0 (.slice Aq nqq cq3) Qs2) := by rw [← hY2]; exact HQZ.out
              have HMA : Hid (OwnM MB Y3 bN (boxP S xs.length) (setF V2)) := by rw [← hY2]; exact HMZ.out.same rfl
              have HSA : Hid (OwnM SB Y3 bs (F.arcs.map (·.out)) (setF Sy2)) := by rw [← hY2]; exact HSZ.out.same rfl
              have HCA : Hid (PBlk Y3 gc ⟨(sq : Int), (si : Int)⟩) := by rw [← hY2]; exact HCZ.out
              have HAA : Hid (ABlk Y3 ga x0 x1 x2 x3) := by rw [← hY2]; exact HAB.out
              clear hY2 HFZ HQZ HMZ HSZ HCZ HAB HBZ0 HXZ HBZ
              obtain ⟨u0, u1, u2, u3⟩ := HAA.out.cells
              have hgal := (Array.getElem?_eq_some_iff.1 HAA.out).1
              go_upto_region 15 with (fail)
              clear u0 u1 u2 u3 hgal
              generalize hY2 : World.alloc Y3 _ = X3
              obtain ⟨gn, hgn⟩ : ∃ gn, Y3.heap.size = gn := ⟨_, rfl⟩
              have hnr : n0 ≤ Y3.heap.size := by have := HFA.out.size; have := HN0.out; omega
              have HBX3 : Hid (Below Y3.heap.size Y3 X3) := by rw [← hY2]; exact (Below.refl _ _).alloc (Nat.le_refl _) _
              have HPN : Hid (PBlk X3 gn ⟨x3, (ti : Int)⟩) := by rw [← hY2, ← hgn]; exact heap_alloc_new Y3 _
              have HFX : Hid (Frm n0 (fun k => k = bN) w X3) := HFA.out.trans (.of_below (HBX3.out.mono hnr))
              have HQX : Hid (OwnP X3 n0 (.slice Aq nqq cq3) Qs2) := own_below HQA.out HBX3.out
              have HMX := Lib.hid (HMA.out.below HBX3.out)
              have HSX := Lib.hid (HSA.out.below HBX3.out)
              have HCX := Lib.hid (HCA.out.below HBX3.out)
              have HAX3 : Hid (ABlk X3 ga x0 x1 x2 x3) := (HBX3.out.block ga (Array.getElem?_eq_some_iff.1 HAA.out).1).trans HAA.out
              rw [hgn]
              clear hY2 hgn hnr HFA HQA HMA HSA HCA HAA HBX3
              have HNXE : Hid (Go.Proofs.Ytmejihlplbeekaa.nxP ⟨x0, x1, x2, x3⟩ ⟨(sq : Int), (si : Int)⟩ = ⟨x3, (ti : Int)⟩) := by simp only [Hid, Go.Proofs.Ytmejihlplbeekaa.nxP]; rw [← HT.out]
              have HSTEP : Hid (∀ (V3 : Plc → Bool) (Sy3 : Int → Bool), (∀ d, V2 d = true → V3 d = true) → (∀ x, Sy2 x = true → Sy3 x = true) → (ok1 = true → (0 < x2 → Sy3 x2 = true) ∧ (x2 = 0 → V3 ⟨x3, (ti : Int)⟩ = true)) →
                  ∀ a, a ∈ (arcsOf F.arcs sq).take (j + 1) → okP xs a ⟨(sq : Int), (si : Int)⟩ = true → (0 < a.out → Sy3 a.out = true) ∧ (a.out = 0 → V3 (Go.Proofs.Ytmejihlplbeekaa.nxP a ⟨(sq : Int), (si : Int)⟩) = true)) := by
                intro V3 Sy3 hV3 hSy3 hnew a ha ho
                rw [HTK.out] at ha
                rcases List.mem_append.1 ha with h | h
                · have h2 := HST2.out a h ho
                  exact ⟨fun h3 => hSy3 _ (h2.1 h3), fun h3 => hV3 _ (h2.2 h3)⟩
                · have ea : a = ⟨x0, x1, x2, x3⟩ := by simpa using h
                  subst ea
                  have ho2 : ok1 = true := by rw [← HOK.out]; simpa only [okP, Int.toNat_natCast] using ho
                  rw [HNXE.out]
                  exact hnew ho2
              obtain ⟨u0, u1, u2, u3⟩ := HAX3.out.cells
              have hgal := (Array.getElem?_eq_some_iff.1 HAX3.out).1
              cases ok1
              · skip
                have HSP := Lib.hid (HSTEP.out V2 Sy2 (fun _ h => h) (fun _ h => h) (fun h => by cases h))
                go_wp2_with fail
                go_roundg (na - (j + 1))
                case measure => rw [HG2.out]; omega
                case rel => exact ⟨j + 1, _, _, _, V2, Qs2, Sy2, by omega, rfl, by go_num, rfl, HQX.out, HNE2.out, HMX.out, HSX.out, HD2.out, HV2.out, HSP.out, HML2.out, HQL2.out, HCX.out, HFX.out⟩
              · have HLV : Hid (Lv F xs ⟨x0, x1, x2, x3⟩ ⟨(sq : Int), (si : Int)⟩) := ⟨HAMF.out.1, HAMF.out.2, by simp only [okP, Int.toNat_natCast]; exact HOK.out⟩
                have hx2 : 0 ≤ x2 := HAX.out.2.2.2.2
                by_cases ho : 0 < x2
                · have hd : decide (0 < x2) = true := by simpa using ho
                  have HO := Lib.hid ho
                  have HIX : Hid (InI x2) := by have := HE.out.outB _ HAMF.out.1; unfold Hid InI; simp only at this; omega
                  have HLS : Hid (x2 ∈ F.arcs.map (·.out) ∧ (F.arcs.map (·.out)).length < maxLen) := ⟨List.mem_map.2 ⟨_, HAMF.out.1, rfl⟩, by have := HE.out.al; simp only [maxLen, List.length_map]; omega⟩
                  clear ho hx2
                  go_wp2_with (first | (at_mapUpdate; refine wpList_putM (S := SB) rfl (.tmp 76) (.tmp 78) (.const (.bool true)) (.inl rfl) bs (F.arcs.map (·.out)) (setF Sy2) x2 true rfl rfl rfl HSX.out HIX.out trivial HLS.out.1 HLS.out.2 ?_; intro w4 hm4 hg4) | fail)
                  have HM4 : Hid (OwnM SB w4 bs (F.arcs.map (·.out)) (setF (addS Sy2 x2))) := by rw [← put_setF]; exact hm4
                  have HG4 := Lib.hid hg4
                  clear hm4 hg4
                  have hnr : n0 ≤ X3.heap.size := by have := HFX.out.size; have := HN0.out; omega
                  go_roundg (na - (j + 1))
                  case measure => rw [HG2.out]; omega
                  case rel =>
                    refine ⟨j + 1, _, _, _, V2, Qs2, addS Sy2 x2, by omega, rfl, by go_num, rfl, World.ownsRow.kept HQX.out HG4.out (.inr (own_ne_map HSX.out HQX.out)), HNE2.out, HMX.out.kept HG4.out (by have := HBS.out; simp; omega), HM4.out, HD2.out.addSy HV2.out HLV.out HO.out, HV2.out, HSTEP.out _ _ (fun _ h => h) (fun _ h => addS_sub h) (fun _ => ⟨fun _ => addS_self _ _, fun h => by have := HO.out; omega⟩), HML2.out, HQL2.out, ?_, HFX.out.grown HG4.out hnr (fun k hk => by cases hk; exact .inr HBS.out.1)⟩
                    exact HCX.out.same (HG4.out.block gc HCX.out.lt (by have := HGC.out; simp; omega))
                · obtain rfl : x2 = 0 := by omega
                  clear ho hx2
                  have HCBX : Hid (PBox F xs ⟨x3, (ti : Int)⟩) := by
                    have h := HC.out.step HE.out.good HLV.out
                    rw [HNXE.out] at h
                    exact h
                  have HWF : Hid (Plc.Wf ⟨x3, (ti : Int)⟩) := HCBX.out.wf (by rw [HE.out.st]; omega) (by omega)
                  have hl : (Instr.lookup 65 (.map (some bN)) (.agg #[.int .i64 x3, .int .i64 (ti : Int)]) false).run Try.prog X3 = .ok (.bool ((setF V2 ⟨x3, ti⟩).getD false)) X3 := HMX.out.look ⟨x3, ti⟩ HWF.out
                  rw [setF_getD] at hl
                  obtain ⟨p0, p1⟩ := HPN.out.cells
                  dsimp only at p0 p1
                  have hgnl := HPN.out.lt
                  cases hvis : V2 ⟨x3, (ti : Int)⟩
                  · rw [hvis] at hl
                    have HNV := Lib.hid hvis
                    clear hvis
                    go_upto_region 19 with (fail)
                    clear hl u0 u1 u2 u3 hgal
                    go_upto_region 20 with (first | (at_mapUpdate; refine wpList_putM (S := MB) rfl (.tmp 83) (.tmp 84) (.const (.bool true)) (.inl rfl) bN (boxP S xs.length) (setF V2) ⟨x3, ti⟩ true rfl rfl rfl HMX.out HWF.out trivial (mem_boxP HE.out.st HCBX.out) HBX.out ?_; intro w4 hm4 hg4) | fail)
                    have HM4 : Hid (OwnM MB w4 bN (boxP S xs.length) (setF (addS V2 ⟨x3, (ti : Int)⟩))) := by rw [← put_setF]; exact hm4
                    have hnr : n0 ≤ X3.heap.size := by have := HFX.out.size; have := HN0.out; omega
                    have HP4 : Hid (PBlk w4 gn ⟨x3, (ti : Int)⟩) := HPN.out.same (hg4.block gn HPN.out.lt (by have := HMX.out.ne HPN.out; simp; omega))
                    have HC4 : Hid (PBlk w4 gc ⟨(sq : Int), (si : Int)⟩) := HCX.out.same (hg4.block gc HCX.out.lt (by have := HMX.out.ne HCX.out; simp; omega))
                    have HQ4 : Hid (OwnP w4 n0 (.slice Aq nqq cq3) Qs2) := World.ownsRow.kept HQX.out hg4 (.inr (own_ne_map HMX.out HQX.out))
                    have HS4 : Hid (OwnM SB w4 bs (F.arcs.map (·.out)) (setF Sy2)) := HSX.out.kept hg4 (by have := HBS.out; simp; omega)
                    have HF4 : Hid (Frm n0 (fun k => k = bN) w w4) := HFX.out.grown hg4 hnr (fun k hk => by cases hk; exact .inl rfl)
                    have hb4 : n0 ≤ w4.heap.size := by have := HF4.out.size; have := HN0.out; omega
                    clear hm4 hg4 hnr p0 p1 hgnl
                    obtain ⟨p0, p1⟩ := HP4.out.cells
                    dsimp only at p0 p1
                    have hgnl := HP4.out.lt
                    go_wp2_with (at_builtin; refine wpList_app_plc rfl (.tmp 85) (.tmp 87) rfl n0 (.slice Aq nqq cq3) Qs2 rfl HQ4.out ⟨x3, ti⟩ (by have := HQL2.out; have := HBX4.out; omega) hb4 rfl ?_; intro g5 cap5 w5 ho5 hg5 hl5)
                    have HO5 := Lib.hid ho5
                    have HG5 := Lib.hid hg5
                    have HL5 := Lib.hid hl5
                    clear ho5 hg5 hl5
                    have HGN : Hid (gc < w4.heap.size) := HC4.out.lt
                    go_roundg (na - (j + 1))
                    case measure => rw [HG2.out]; omega
                    case rel =>
                      have hfr := freeS_add (mem_boxP HE.out.st HCBX.out) HNV.out
                      have hpush := HD2.out.push HE.out.good HV2.out HLV.out rfl
                      rw [HNXE.out] at hpush
                      refine ⟨j + 1, _, _, _, addS V2 ⟨x3, (ti : Int)⟩, Qs2 ++ [(⟨x3, (ti : Int)⟩ : Plc)], Sy2, by omega, rfl, by go_num, rfl, HO5.out, ?_, HM4.out.kept HG5.out (own_ne_map HM4.out HQ4.out), HS4.out.kept HG5.out (own_ne_map HS4.out HQ4.out), hpush, addS_sub HV2.out, HSTEP.out _ _ (fun _ h => addS_sub h) (fun _ h => h) (fun _ => ⟨fun h => by omega, fun _ => addS_self _ _⟩), ?_, ?_, ?_, HF4.out.grown HG5.out hb4 (fun k hk => .inr (World.ownsRow.lt HQ4.out k hk).1)⟩
                      · rcases HL5.out with h | h
                        · intro he; exact HNE2.out (h.trans he)
                        · intro he; have := HGN.out; simp [Value.ownBlock] at he; omega
                      · have := HML2.out
                        simp only [Hid, List.length_append, List.length_cons, List.length_nil]
                        omega
                      · have := HQL2.out
                        simp only [Hid, List.length_append, List.length_cons, List.length_nil]
                        omega
                      · exact HC4.out.same (HG5.out.block gc HC4.out.lt (Ne.symm HNE2.out))
                  · rw [hvis] at hl
                    have HSP := Lib.hid (HSTEP.out V2 Sy2 (fun _ h => h) (fun _ h => h) (fun _ => ⟨fun h => by omega, fun _ => hvis⟩))
                    clear hvis
                    go_wp2_with fail
                    go_roundg (na - (j + 1))
                    case measure => rw [HG2.out]; omega
                    case rel => exact ⟨j + 1, _, _, _, V2, Qs2, Sy2, by omega, rfl, by go_num, rfl, HQX.out, HNE2.out, HMX.out, HSX.out, HD2.out, HV2.out, HSP.out, HML2.out, HQL2.out, HCX.out, HFX.out⟩
            · have hjn : j = na := by omega
              have HDN := Lib.hid (HD2.out.finish (fun a ha => by
                have h := HST2.out a (by rw [List.take_of_length_le (by rw [HNA.out]; omega)]; simp only [arcsOf, List.mem_filter, beq_iff_eq]; exact ⟨ha.1, ha.2.1⟩) ha.2.2
                exact h))
              go_wp2_with fail
              go_roundg (2 * freeS V2 (boxP S xs.length) + Qs2.length)
              case measure => have := HML2.out; have := HM0.out.2; omega
              case rel => exact ⟨_, _, _, Qs2, V2, Sy2, rfl, HQ2.out, HM2.out, HS2.out, HDN.out, rfl, HQL2.out, HF2.out⟩
    · have HNC := Lib.hid hfc
      have HCW := Lib.hid hcw
      have HLC := Lib.hid hlc
      have HOR2 := Lib.hid hor2
      have HLT := Lib.hid hlt2
      have HF2 : Hid (Frm n0 (fun k => k = bN) w w2) := HFR.out.grown hg2 (by have := HFR.out.size; have := HN0.out; omega) (fun j hj => by cases hj; exact .inr HRI.out)
      have HQ2 : Hid (OwnP w2 n0 (.slice A nq cq) Qs) := World.ownsRow.kept HQ.out hg2 (.inr (own_ne_iter HOR.out HQ.out))
      clear hcw hlc hfc hor2 hlt2 hg2 hs2
      refine Lib.hid ?_
      go_upto_region 5 with (fail)
      clear hen
      generalize hP : World.alloc w2 _ = Pw
      obtain ⟨gp, hgp⟩ : ∃ gp, w2.heap.size = gp := ⟨_, rfl⟩
      have hnw : n0 ≤ w2.heap.size := by have := HF2.out.size; have := HN0.out; omega
      have HPB : Hid (PBlk Pw gp ⟨q, i⟩) := by rw [← hP, ← hgp]; exact heap_alloc_new w2 _
      have HPBl : Hid (Below w2.heap.size w2 Pw) := by rw [← hP]; exact (Below.refl _ _).alloc (Nat.le_refl _) _
      have HQP : Hid (OwnP Pw n0 (.slice A nq cq) Qs) := own_below HQ2.out HPBl.out
      have HFP : Hid (Frm n0 (fun k => k = bN) w Pw) := HF2.out.trans (.of_below (HPBl.out.mono hnw))
      have HORP := Lib.hid (HOR2.out.below HPBl.out)
      have hb4 : n0 ≤ Pw.heap.size := by have := HFP.out.size; have := HN0.out; omega
      rw [hgp]
      clear hP hgp hnw
      obtain ⟨t0, t1⟩ := HPB.out.cells
      dsimp only at t0 t1
      have hpl := HPB.out.lt
      go_wp2_with (at_builtin; refine wpList_app_plc rfl (.tmp 23) (.tmp 25) rfl n0 (.slice A nq cq) Qs rfl HQP.out ⟨q, i⟩ (by have := HQL.out; have := HCN.out; have := HBX4.out; omega) hb4 rfl ?_; intro g5 cap5 w5 ho5 hg5 hl5)
      have HO5 := Lib.hid ho5
      have HG5 := Lib.hid hg5
      clear ho5 hg5 hl5
      go_roundg cnt2
      case measure => exact HLT.out
      case rel =>
        refine ⟨_, _, _, Qs ++ [(⟨q, i⟩ : Plc)], fun d => left d && decide (d ≠ ⟨q, i⟩), rfl, HO5.out, HORP.out.kept HG5.out (own_ne_map HORP.out.own HQP.out) (own_ne_iter HORP.out HQP.out), ?_, ?_, ?_, HFP.out.grown HG5.out hb4 (fun k hk => .inr (World.ownsRow.lt HQP.out k hk).1)⟩
        · intro d hd
          rw [List.mem_append, HIF.out d hd]
          simp only [List.mem_singleton, Bool.and_eq_false_iff, decide_eq_false_iff_not, Classical.not_not]
          constructor
          · rintro (⟨h1, h2⟩ | rfl)
            · exact ⟨h1, .inl h2⟩
            · exact ⟨HNC.out, .inr rfl⟩
          · rintro ⟨h1, h2 | h2⟩
            · exact .inl ⟨h1, h2⟩
            · exact .inr h2
        · intro d hd
          rcases List.mem_append.1 hd with h | h
          · exact HQN.out d h
          · obtain rfl : d = ⟨q, i⟩ := by simpa using h
            exact HNC.out
        · have := HQL.out
          have := HLT.out
          simp
          omega
end Go.Proofs.Ytmejihlplbeekaa
