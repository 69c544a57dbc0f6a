/-
  The reference 20: written, need, symbols.
-/
import Derived.Test.YtmejihlplbeekaaH2
namespace Go.Proofs.Ytmejihlplbeekaa
open Go.ChangeShapes Go.WideShapes Go.ChangeAt Go.RowKit
theorem RdI.take {w : World} {A : Option Addr} {n c k : Nat} {xs : List Int} (h : RdI w (.slice A n c) xs) (hk : k ≤ n) : RdI w (.slice A k c) (xs.take k) := by
  obtain ⟨A', c', he, h1, h2, h3, h4⟩ := h
  cases he
  have hl : (xs.take k).length = k := by simp; omega
  refine ⟨A, c, by rw [hl], by rw [hl]; omega, h2, by simp, fun hn => ?_⟩
  rw [hl] at hn
  obtain ⟨b, off, rfl, hb, hc⟩ := h4 (by omega)
  refine ⟨b, off, rfl, hb, fun j u hu => hc j u ?_⟩
  rw [List.map_take, List.getElem?_take] at hu
  split at hu
  · exact hu
  · cases hu
theorem RdI.drop {w : World} {A : Option Addr} {n c k : Nat} {xs : List Int} (h : RdI w (.slice A n c) xs) (hk : k ≤ n) : RdI w (.slice (if c = k then A else A.map (·.add k)) (n - k) (c - k)) (xs.drop k) := by
  obtain ⟨A', c', he, h1, h2, h3, h4⟩ := h
  cases he
  have hl : (xs.drop k).length = xs.length - k := by simp
  refine ⟨_, c - k, by rw [hl], by rw [hl]; omega, by omega, by simp, fun hn => ?_⟩
  rw [hl] at hn
  obtain ⟨b, off, rfl, hb, hc⟩ := h4 (by omega)
  rw [if_neg (by omega)]
  refine ⟨b, off + k, by simp [add_none], hb, fun j u hu => ?_⟩
  have := hc (k + j) u (by rw [← hu, List.map_drop, List.getElem?_drop])
  rwa [show off + k + j = off + (k + j) by omega]
theorem Bls.below {w w' : World} {g : Nat} {M : List Bool} (h : Bls w g M) (hb : Below w.heap.size w w') : Bls w' g M := (hb.block g h.lt).trans h
/-- n is at most each marked number -/
def NeedOk (M : List Bool) (D : List Int) (k : Nat) (z : Int) : Prop := ∀ j, j < k → M.getD j false = true → z ≤ D.getD j 0
set_option maxHeartbeats 1000000 in
theorem need_any (w : World) (gm gd n : Nat) (M : List Bool) (D : List Int) (hM : Bls w gm M) (hD : Ins w gd D) (h1 : M.length = n) (h2 : D.length = n) (hn : n ≤ 1000000000) :
    Calls Try.prog 57 #[.slice (some ⟨gm, 0, none⟩) n n, .slice (some ⟨gd, 0, none⟩) n n] w fun e w' => (∃ z, e = .returned (.int .i64 z) ∧ NeedOk M D n z) ∧ w' = w := by
  have HM := Lib.hid hM
  have HD := Lib.hid hD
  have hgm := hM.lt
  have hgd := hD.lt
  clear hM hD
  go_enter Try.func57, Try.ntmps57
  go_wp2_with fail
  go_loop [5, 6] (fun a b => ∃ (z : Int) (k : Nat), k ≤ n ∧ a = .int .i64 z ∧ b = .int .i64 k ∧ Hid (NeedOk M D k z)) (fun _ i => n - (intOf i).toNat)
  case atStart => exact ⟨_, 0, Nat.zero_le _, rfl, rfl, fun j h => absurd h (by omega)⟩
  case round =>
    obtain ⟨z, k, hk, rfl, rfl, HP⟩ := hrel
    by_cases hlt : k < n
    · have hck := HM.out.cell (j := k) (by omega)
      have hcd := HD.out.cell (j := k) (by omega)
      cases hm : M.getD k false
      · rw [hm] at hck
        have HM0 := Lib.hid hm
        clear hm
        go_wp2_with fail
        go_round
        case rel => exact ⟨z, k + 1, by omega, rfl, by go_num, fun j h hj => by
          by_cases e : j = k
          · subst e; rw [HM0.out] at hj; cases hj
          · exact HP.out j (by omega) hj⟩
        case measure => simp [intOf]; omega
      · rw [hm] at hck
        clear hm
        obtain ⟨d, hd⟩ : ∃ d, D.getD k 0 = d := ⟨_, rfl⟩
        rw [hd] at hcd
        have HD0 := Lib.hid hd
        clear hd
        go_wp2_with fail
        go_round
        case rel => exact ⟨min z d, k + 1, by omega, rfl, by go_num, fun j h hj => by
          by_cases e : j = k
          · subst e; rw [HD0.out]; simp only [Int.min_def]; split <;> omega
          · have := HP.out j (by omega) hj
            simp only [Int.min_def]; split <;> omega⟩
        case measure => simp [intOf]; omega
    · have he : k = n := by omega
      go_wp2_with fail
      go_ret
      exact ⟨⟨z, rfl, by rw [← he]; exact HP.out⟩, rfl⟩
theorem WInv.vac {F : PFst} {xs : List Int} {V : Plc → Bool} {x : Int} {Dn Dn' : PArc → Nat → Prop} {M : List Bool} (h : WInv F xs V x Dn M) (hD : ∀ a i, Dn' a i → Dn a i ∨ a.out ≠ x) : WInv F xs V x Dn' M :=
  ⟨h.len, h.sound, fun a c h1 h2 h3 h4 => by
    rcases hD a _ h4 with h5 | h5
    · exact h.full a c h1 h2 h3 h5
    · exact absurd h3 h5⟩
set_option maxHeartbeats 4000000 in
set_option maxRecDepth 100000 in
theorem written_any (w₀ w : World) (v vin : Value) (F : PFst) (xs : List Int) (gm : Nat) (M : List Bool) (x : Int) (hw : Below w₀.heap.size w₀ w) (hv : RdF w₀ v F) (hx : RdI w₀ vin xs) (hM : Bls w gm M) (hl : M.length = szP F xs)
    (hF : GoodA F) (hR : Right F) (hS : F.states ≤ 4096) (hX : xs.length ≤ 1000) :
    Calls Try.prog 58 #[v, vin, .slice (some ⟨gm, 0, none⟩) (szP F xs) (szP F xs), .int .i64 x] w fun e w' => ∃ g, e = .returned (.slice (some ⟨g, 0, none⟩) (szP F xs) (szP F xs)) ∧ w.heap.size ≤ g ∧ ∃ M' V', Bls w' g M' ∧ M'.length = szP F xs ∧ IsWr F xs (mkS F xs M) x V' ∧ SpreadP F xs V' (mkS F xs M') ∧ Below w.heap.size w w' := by
  have HV := Lib.hid hv
  obtain ⟨va, vf, rfl, ha, hf⟩ := hv
  obtain ⟨A, n, c, rfl, h1, h2, hn, hr⟩ := ha.op
  obtain ⟨A', n', c', rfl, h1', h2', hn', hr'⟩ := hf.op
  obtain ⟨Ax, nx, cx, rfl, h1x, h2x, hnx, hrx⟩ := hx.op
  have HXL := Lib.hid hX
  rw [hnx.out] at hX
  have Hx := Lib.hid hx
  have HR := Lib.hid hR
  have HF := Lib.hid hF
  have HW := Lib.hid hw
  have HM0 := Lib.hid hM
  have HL0 := Lib.hid hl
  have HST := Lib.hid hS
  clear hf ha hx hR hF hr' hrx hw hM hl
  obtain ⟨SN, hSN⟩ : ∃ SN : Nat, F.states = (SN : Int) := ⟨F.states.toNat, by have := HR.out.1; omega⟩
  have hS2 : SN ≤ 4096 := by omega
  have HSN := Lib.hid hSN
  clear hS
  obtain ⟨p1, hp1⟩ : ∃ p1 : Nat, szP F xs = p1 := ⟨_, rfl⟩
  have Hsz : Hid (szP F xs = p1) := hp1
  have hp1b : p1 ≤ 4100096 := by
    rw [← hp1, szP, HSN.out, hnx.out]
    exact Nat.mul_le_mul (by simpa using hS2) (by omega : nx + 1 ≤ 1001)
  have hmk := fun W => run_make_rowN (P := Try.prog) 57 4 infoB.choose (.bool false) Try.underlying57 infoB.choose_spec.1 infoB.choose_spec.2.1 .i64 .i64 p1 p1 (Nat.le_refl _) (by rw [infoB.choose_spec.2.2.2]; omega) (by omega) W
  rw [infoB.choose_spec.2.2.1, made_bools] at hmk
  rw [hp1, hSN]
  clear hSN hp1
  obtain ⟨n0, hn0⟩ : ∃ n0, w.heap.size = n0 := ⟨_, rfl⟩
  have HN0 := Lib.hid hn0
  have HGM : Hid (gm < n0) := by have := HM0.out.lt; unfold Hid; omega
  go_enter Try.func58, Try.ntmps58
  go_wp2_with fail
  generalize hw1 : World.alloc w _ = W1
  have HB1 : Hid (Below w.heap.size w W1) := by rw [← hw1]; exact (Below.refl _ _).alloc (Nat.le_refl _) _
  have HP1 : Hid (FBlk W1 n0 (.int .i64 (SN : Int)) (.slice A n c) (.slice A' n' c')) := by rw [← hw1, ← hn0]; exact heap_alloc_new w _
  have hs1 : W1.heap.size = n0 + 1 := by rw [← hw1, ← hn0]; simp
  generalize hw2 : World.alloc W1 _ = W2
  have HB2 : Hid (Below w.heap.size w W2) := bchain HB1.out (by rw [← hw2]; exact (Below.refl _ _).alloc (Nat.le_refl _) _)
  have HP2 : Hid (FBlk W2 n0 (.int .i64 (SN : Int)) (.slice A n c) (.slice A' n' c')) := HP1.out.below (by rw [← hw2]; exact (Below.refl _ _).alloc (Nat.le_refl _) _)
  obtain ⟨g, hg⟩ : ∃ g, n0 + 1 = g := ⟨_, rfl⟩
  have HMW : Hid (Bls W2 g (List.replicate p1 false)) := by rw [← hw2, ← hg, ← hs1]; exact heap_alloc_new W1 _
  have HGW : Hid (n0 + 1 = g) := hg
  have HSZ2 : Hid (W2.heap.size = g + 1) := by rw [← hw2, ← hg, ← hs1]; simp [Hid]
  rw [hg]
  clear hw1 hw2 hs1 hg hn0 hmk HP1 HB1
  go_loopg [11] n (fun gk v11 wx => ∃ (j : Nat) (M4 : List Bool), j ≤ n ∧ gk = n - j ∧ v11 = .int .i64 j ∧ Hid (Bls wx g M4) ∧ Hid (WInv F xs (mkS F xs M) x (fun a i => i ≤ xs.length ∧ a ∈ F.arcs.take j) M4) ∧ Hid (FBlk wx n0 (.int .i64 (SN : Int)) (.slice A n c) (.slice A' n' c')) ∧ Hid (Below w.heap.size w wx))
  case atStart => exact ⟨0, _, Nat.zero_le _, rfl, rfl, HMW.out, by have h := WInv.start (F := F) (xs := xs) (mkS F xs M) x; rw [Hsz.out] at h; exact h.weaken (fun a i h => by simp at h), HP2.out, HB2.out⟩
  case round =>
    obtain ⟨j, M4, hj, hg2, rfl, HM4, HP4, HPB4, HB4⟩ := hrel
    have HG2 := Lib.hid hg2
    clear hg2
    have hf4 : Below w₀.heap.size w₀ wr := bchain HW.out HB4.out
    have HBw4 := Lib.hid hf4
    obtain ⟨p0, c1, p2, _, _, _⟩ := HPB4.out.facts
    have hpl := HPB4.out.lt
    by_cases hlt4 : j < n
    · obtain ⟨bb, off, x0, x1, x2, x3, rfl, hbb, hdr, e0, e1, e2, e3⟩ := (hr.out j hlt4).below hf4
      have HAM : Hid ((⟨x0, x1, x2, x3⟩ : PArc) ∈ F.arcs) := List.mem_of_mem_drop (by rw [hdr.out]; exact List.mem_cons_self)
      have HTK : Hid (F.arcs.take (j + 1) = F.arcs.take j ++ [⟨x0, x1, x2, x3⟩]) := take_of_drop hdr.out
      obtain ⟨y0, y1, y2, y3, y4⟩ := HF.out.tgt _ HAM.out
      simp only at y0 y1 y2 y3 y4
      obtain ⟨q0, rfl⟩ : ∃ q : Nat, x0 = (q : Int) := ⟨x0.toNat, by omega⟩
      obtain ⟨q3, rfl⟩ : ∃ q : Nat, x3 = (q : Int) := ⟨x3.toNat, by omega⟩
      have hq0 : q0 < SN := by have := HSN.out; omega
      have hq3 : q3 < SN := by have := HSN.out; omega
      clear y0 y1 y2 y3 y4 hf4
      go_wp2_with fail
      obtain ⟨wp, rfl⟩ : ∃ wp : World, wp = wr := ⟨_, rfl⟩
      generalize hwa : World.alloc wp _ = wa
      obtain ⟨ga, hga⟩ : ∃ ga, wp.heap.size = ga := ⟨_, rfl⟩
      have HAb : Hid (ABlk wa ga (q0 : Int) x1 x2 (q3 : Int)) := by rw [← hwa, ← hga]; exact heap_alloc_new wp _
      have HMa : Hid (Bls wa g M4) := by rw [← hwa]; exact HM4.out.alloc _
      have HPa : Hid (FBlk wa n0 (.int .i64 (SN : Int)) (.slice (some ⟨bb, off, none⟩) n c) (.slice A' n' c')) := by rw [← hwa]; exact HPB4.out.below ((Below.refl _ _).alloc (Nat.le_refl _) _)
      have HBa : Hid (Below w.heap.size w wa) := by rw [← hwa]; exact HB4.out.alloc (by have := HB4.out.size; exact this) _
      have HGA : Hid (g < ga) := by have := HM4.out.lt; unfold Hid; omega
      rw [hga]
      clear hwa e0 e1 e2 e3 c1 hga hpl p0 p2
      go_loopg [13] (nx + 1) (fun gk v13 wy => ∃ (i : Nat) (M1 : List Bool), i ≤ nx + 1 ∧ gk = nx + 1 - i ∧ v13 = .int .i64 i ∧ Hid (Bls wy g M1) ∧ Hid (WInv F xs (mkS F xs M) x (fun a i' => (i' ≤ xs.length ∧ a ∈ F.arcs.take j) ∨ (a = ⟨(q0 : Int), x1, x2, (q3 : Int)⟩ ∧ i' < i)) M1) ∧ Hid (ABlk wy ga (q0 : Int) x1 x2 (q3 : Int)) ∧ Hid (FBlk wy n0 (.int .i64 (SN : Int)) (.slice (some ⟨bb, off, none⟩) n c) (.slice A' n' c')) ∧ Hid (Below w.heap.size w wy))
      case atStart => exact ⟨0, M4, Nat.zero_le _, rfl, rfl, HMa.out, HP4.out.weaken (fun a i h => h.resolve_right (fun h2 => by omega)), HAb.out, HPa.out, HBa.out⟩
      case round =>
        obtain ⟨i, M1, hi, hg3, rfl, HM1, HP1, HA1, HPB1, HB1⟩ := hrel
        have HG3 := Lib.hid hg3
        clear hg3
        obtain ⟨a0, a1, a2, a3⟩ := HA1.out.cells
        have hgl := HM1.out.lt
        have hal : ga < wr.heap.size := (Array.getElem?_eq_some_iff.1 HA1.out).1
        by_cases hlti : i < nx + 1
        · have hdi : decide ((i : Int) < (nx : Int) + 1) = true := by simp; omega
          have HX4 : Hid (RdI wr (.slice Ax nx cx) xs) := Hx.out.below (bchain HW.out HB1.out)
          by_cases hx2 : x2 = x
          · have hb2 : (x2 == x) = true := by simpa using hx2
            have HX2 := Lib.hid hx2
            clear hx2
            cases ho1 : stepOk xs i x1
            · have HO1 := Lib.hid ho1
              have HRL : Hid (∀ c, mkS F xs M c = true → Lv F xs ⟨(q0 : Int), x1, x2, (q3 : Int)⟩ c → (⟨(q0 : Int), x1, x2, (q3 : Int)⟩ : PArc).out = x → c.i.toNat = i → False) := fun c _ h _ hc => by
                have := h.2.2
                rw [okP, hc, HO1.out] at this
                cases this
              clear ho1
              go_wp2_with fail
              refine (step_any _ xs i x1 _ HX4.out).mono ?_
              rintro e w1 ⟨rfl, nq1, rfl⟩
              rw [HO1.out]
              go_wp2_with fail
              go_roundg (nx + 1 - (i + 1))
              case measure => rw [HG3.out]; omega
              case rel => exact ⟨i + 1, M1, by omega, rfl, by go_num, HM1.out, HP1.out.keep (a := ⟨(q0 : Int), x1, x2, (q3 : Int)⟩) (i := i) HRL.out (fun a' i' h => by
                  rcases h with h | ⟨rfl, h⟩
                  · exact .inl (.inl h)
                  · by_cases e : i' = i
                    · exact .inr ⟨rfl, e⟩
                    · exact .inl (.inr ⟨rfl, by omega⟩)), HA1.out, HPB1.out, below_drewN HB1.out _⟩
            · have HO1 := Lib.hid ho1
              have hd1 : i + stepD x1 ≤ nx := by have := step_le xs i x1 (by rw [hnx.out]; omega) ho1; rw [hnx.out] at this; exact this
              clear ho1
              obtain ⟨p2, hp2⟩ : ∃ p2 : Nat, (q0 : Int) * ((nx : Int) + 1) = (p2 : Int) := ⟨q0 * (nx + 1), by simp⟩
              obtain ⟨p4, hp4⟩ : ∃ p4 : Nat, (q3 : Int) * ((nx : Int) + 1) = (p4 : Int) := ⟨q3 * (nx + 1), by simp⟩
              have f2 : p2 = q0 * (nx + 1) := by exact_mod_cast hp2.symm
              have f4 : p4 = q3 * (nx + 1) := by exact_mod_cast hp4.symm
              have hix : p2 + i = ixP xs q0 i := by rw [ixP, hnx.out, f2]
              have hiy : p4 + i + stepD x1 = ixP xs q3 (i + stepD x1) := by rw [ixP, hnx.out, f4, Nat.add_assoc]
              have hil : p2 + i < p1 := by rw [hix, ← Hsz.out, szP]; exact ixP_lt (by have := HSN.out; omega) (by rw [hnx.out]; omega)
              have hiyl : p4 + i + stepD x1 < p1 := by rw [hiy, ← Hsz.out, szP]; exact ixP_lt (by have := HSN.out; omega) (by rw [hnx.out]; omega)
              have hck := (HM0.out.below HB1.out).cell (j := p2 + i) (by rw [HL0.out, Hsz.out]; exact hil)
              have hgml : gm < wr.heap.size := by have := HGM.out; have := HGW.out; omega
              have hcy := HM1.out.cell (j := p4 + i + stepD x1) (by rw [HP1.out.len, Hsz.out]; exact hiyl)
              have hfk := HM1.out.free (p4 + i + stepD x1)
              have HVA : Hid (mkS F xs M ⟨(q0 : Int), (i : Int)⟩ = M.getD (p2 + i) false) := by rw [Hid, mkS_at (by rw [HSN.out]; omega) (by rw [hnx.out]; omega), hix]
              have HIY := Lib.hid hiy
              clear f2 f4 hix hiy
              cases hT : M.getD (p2 + i) false
              · rw [hT] at hck
                rw [hT] at HVA
                have HRL : Hid (∀ c, mkS F xs M c = true → Lv F xs ⟨(q0 : Int), x1, x2, (q3 : Int)⟩ c → (⟨(q0 : Int), x1, x2, (q3 : Int)⟩ : PArc).out = x → c.i.toNat = i → False) := fun c h1 h _ hc => by
                  have hb := mkS_box M c h1
                  have e : c = ⟨(q0 : Int), (i : Int)⟩ := by
                    have e1 := h.2.1
                    have := hb.i0
                    cases c
                    simp only at *
                    congr 1
                    · exact e1.symm
                    · omega
                  rw [e, HVA.out] at h1
                  cases h1
                clear hT
                go_wp2_with fail
                refine (step_any _ xs i x1 _ HX4.out).mono ?_
                rintro e w1 ⟨rfl, nq1, rfl⟩
                rw [HO1.out]
                go_wp2_with fail
                go_roundg (nx + 1 - (i + 1))
                case measure => rw [HG3.out]; omega
                case rel => exact ⟨i + 1, M1, by omega, rfl, by go_num, HM1.out, HP1.out.keep (a := ⟨(q0 : Int), x1, x2, (q3 : Int)⟩) (i := i) HRL.out (fun a' i' h => by
                    rcases h with h | ⟨rfl, h⟩
                    · exact .inl (.inl h)
                    · by_cases e : i' = i
                      · exact .inr ⟨rfl, e⟩
                      · exact .inl (.inr ⟨rfl, by omega⟩)), HA1.out, HPB1.out, below_drewN HB1.out _⟩
              · rw [hT] at hck
                rw [hT] at HVA
                clear hT
                go_wp2_with fail
                refine (step_any _ xs i x1 _ HX4.out).mono ?_
                rintro e w1 ⟨rfl, nq1, rfl⟩
                rw [HO1.out]
                go_wp2_with fail
                go_roundg (nx + 1 - (i + 1))
                case measure => rw [HG3.out]; omega
                case rel =>
                  refine ⟨i + 1, M1.set (p4 + i + stepD x1) true, by omega, rfl, by go_num, Bls.set_ (by exact HM1.out) _, ?_, HA1.out.far (by have := HGA.out; omega), (Below.heap_setCell _ ⟨g, _, none⟩ _ n0 (by have := HGW.out; simp only; omega)).trans HPB1.out, (below_drewN HB1.out _).setCell (p := ⟨g, _, none⟩) (by have := HGW.out; have := HN0.out; simp only; omega) _⟩
                  have h := HP1.out.step HF.out (mkS_box M) (Dn' := fun a i' => (i' ≤ xs.length ∧ a ∈ F.arcs.take j) ∨ (a = ⟨(q0 : Int), x1, x2, (q3 : Int)⟩ ∧ i' < i + 1)) (a := ⟨(q0 : Int), x1, x2, (q3 : Int)⟩) (i := i) HVA.out HAM.out HX2.out HO1.out (fun a' i' h => by
                    rcases h with h | ⟨rfl, h⟩
                    · exact .inl (.inl h)
                    · by_cases e : i' = i
                      · exact .inr ⟨rfl, e⟩
                      · exact .inl (.inr ⟨rfl, by omega⟩))
                  simp only [Int.toNat_natCast] at h
                  rw [← HIY.out] at h
                  exact h
          · have hb2 : (x2 == x) = false := by simpa using hx2
            have HX2 := Lib.hid hx2
            clear hx2
            go_wp2_with fail
            go_roundg (n - (j + 1))
            case measure => rw [HG2.out]; omega
            case rel => exact ⟨j + 1, M1, by omega, rfl, by go_num, HM1.out, HP1.out.vac (fun a i' h => by
                have h3 := h.2
                rw [HTK.out] at h3
                rcases List.mem_append.1 h3 with h4 | h4
                · exact .inl (.inl ⟨h.1, h4⟩)
                · refine .inr ?_
                  have e : a = ⟨(q0 : Int), x1, x2, (q3 : Int)⟩ := by simpa using h4
                  rw [e]
                  exact HX2.out), HPB1.out, HB1.out⟩
        · have hei : i = nx + 1 := by omega
          have hdi : decide ((i : Int) < (nx : Int) + 1) = false := by simp; omega
          go_wp2_with fail
          go_roundg (n - (j + 1))
          case measure => rw [HG2.out]; omega
          case rel => exact ⟨j + 1, M1, by omega, rfl, by go_num, HM1.out, HP1.out.weaken (fun a i' h => by
              have h3 := h.2
              rw [HTK.out] at h3
              rcases List.mem_append.1 h3 with h4 | h4
              · exact .inl ⟨h.1, h4⟩
              · exact .inr ⟨by simpa using h4, by have := h.1; rw [hnx.out] at this; omega⟩), HPB1.out, HB1.out⟩
    · go_wp2_with fail
      have HWI := Lib.hid (HP4.out.done (mkS_box M) (fun a i ha hi => ⟨hi, by rw [List.take_of_length_le (by rw [hn.out]; omega)]; exact ha⟩))
      have hcl := closed_any w₀ wr _ _ F xs g M4 HBw4.out HV.out Hx.out (by have h1 := HW.out.size; have := HGW.out; have := HN0.out; omega) HM4.out HP4.out.len HF.out HR.out HST.out HXL.out
      rw [Hsz.out, HSN.out] at hcl
      refine hcl.mono ?_
      rintro e w5 ⟨rfl, M5, hm5, hl5, hs5, hf5⟩
      have HM5 := Lib.hid hm5
      have HL5 := Lib.hid hl5
      have HS5 := Lib.hid hs5
      have HB5 : Hid (Below w.heap.size w w5) := HB4.out.trans (hf5.below (by have := HB4.out.size; exact this) (fun k hk e => by have := HGW.out; have := HN0.out; omega))
      clear hm5 hl5 hs5 hf5 hcl
      go_wp2_with fail
      go_ret
      exact ⟨g, rfl, by have := HGW.out; have := HN0.out; omega, M5, _, HM5.out, HL5.out, HWI.out, HS5.out, HB5.out⟩
end Go.Proofs.Ytmejihlplbeekaa
