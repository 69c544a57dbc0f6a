/-
  starts of the reference, unit of orthographies.
-/
import Derived.Test.YtokbclpdpegicaaWP3
namespace Go.Proofs.Ytokbclpdpegicaa
open Go.ChangeShapes Go.WideShapes Go.ChangeAt Go.RowKit
theorem add_none' (b off k : Nat) : (⟨b, off, none⟩ : Addr).add k = ⟨b, off + k, none⟩ := by unfold Addr.add; split <;> simp_all
theorem RdI.take {w : World} {A : Option Addr} {n c k : Nat} {xs : List Int} (h : RdI w (.slice A n c) xs) (hk : k ≤ n) : RdI w (.slice A k c) (xs.take k) := by
  obtain ⟨A', c', he, h1, h2, h3, h4⟩ := h
  cases he
  have hl : (xs.take k).length = k := by simp; omega
  refine ⟨A, c, by rw [hl], by rw [hl]; omega, h2, by simp, fun hn => ?_⟩
  rw [hl] at hn
  obtain ⟨b, off, rfl, hb, hc⟩ := h4 (by omega)
  refine ⟨b, off, rfl, hb, fun j u hu => hc j u ?_⟩
  rw [List.map_take, List.getElem?_take] at hu
  split at hu
  · exact hu
  · cases hu
theorem RdI.drop {w : World} {A : Option Addr} {n c k : Nat} {xs : List Int} (h : RdI w (.slice A n c) xs) (hk : k ≤ n) : RdI w (.slice (if c = k then A else A.map (·.add k)) (n - k) (c - k)) (xs.drop k) := by
  obtain ⟨A', c', he, h1, h2, h3, h4⟩ := h
  cases he
  have hl : (xs.drop k).length = xs.length - k := by simp
  refine ⟨_, c - k, by rw [hl], by rw [hl]; omega, by omega, by simp, fun hn => ?_⟩
  rw [hl] at hn
  obtain ⟨b, off, rfl, hb, hc⟩ := h4 (by omega)
  rw [if_neg (by omega)]
  refine ⟨b, off + k, by simp [add_none'], hb, fun j u hu => ?_⟩
  have := hc (k + j) u (by rw [← hu, List.map_drop, List.getElem?_drop])
  rwa [show off + k + j = off + (k + j) by omega]
set_option maxHeartbeats 1000000 in
theorem starts_any (v : Value) (B : Option Addr) (m2 c2 a : Nat) (g : ByteArray) (ws l : List Int) (w : World) (hv : RdI w v ws) (hl : RdI w (.slice B m2 c2) l) (ha : a ≤ ws.length) (_ : ws.length ≤ 24) :
    Calls Try.prog 44 #[v, .int .i64 a, .agg #[.string g, .slice B m2 c2]] w fun e w' => e = .returned (.bool (preR (ws.drop a) l)) ∧ Below w.heap.size w w' := by
  obtain ⟨Aw, nw, cw, rfl, _, _, HNW, hrw⟩ := hv.op
  obtain ⟨_, _, _, he, _, _, HNL, hrl⟩ := hl.op
  cases he
  have hw : nw ≤ 24 := by rw [← HNW.out]; assumption
  rw [HNW.out] at ha
  clear hv hl
  have HB0 : Hid (Below w.heap.size w (w.alloc (.cells #[.string g, .slice B m2 c2] 49))) := (Below.refl _ _).alloc (Nat.le_refl _) _
  by_cases hsh : nw - a < m2
  · have d1 : decide ((nw : Int) - (a : Int) < (m2 : Int)) = true := by simp; omega
    have HP : Hid (preR (ws.drop a) l = false) := preR_short (by rw [List.length_drop, HNW.out, HNL.out]; exact hsh)
    clear hsh
    go_enter Try.func44, Try.ntmps44
    go_wp2_with fail
    go_ret
    exact ⟨by rw [HP.out]; rfl, HB0.out⟩
  have d1 : decide ((nw : Int) - (a : Int) < (m2 : Int)) = false := by simp; omega
  have hnm : a + m2 ≤ nw := by omega
  go_enter Try.func44, Try.ntmps44
  go_upto_region 1 with (fail)
  generalize hW : World.alloc w _ = W
  have HBW : Hid (Below w.heap.size w W) := by rw [← hW]; exact HB0.out
  have z1 : W.cell? ⟨w.heap.size, 1, none⟩ = some (.slice B m2 c2) := by rw [← hW]; simp [go_sem]
  have hgW : w.heap.size < W.heap.size := by rw [← hW]; simp
  have HZ : Hid (∀ W' : World, Below W.heap.size W W' → W'.cell? ⟨w.heap.size, 1, none⟩ = some (.slice B m2 c2)) := fun W' h => cell_keep hgW z1 h
  have HRW : Hid (∀ W' : World, Below W.heap.size W W' → ∀ k, k < nw → IAt W' Aw ws k) := fun W' h k hk => ((hrw.out k hk).below HBW.out).below h
  have HRL : Hid (∀ W' : World, Below W.heap.size W W' → ∀ k, k < m2 → IAt W' B l k) := fun W' h k hk => ((hrl.out k hk).below HBW.out).below h
  have HBO : Hid (∀ W' : World, Below W.heap.size W W' → Below w.heap.size w W') := fun W' h => bchain HBW.out h
  clear hW hrw hrl HBW hgW HB0
  generalize hg : w.heap.size = g0 at HZ HBO z1 ⊢
  have HG := Lib.hid hg
  clear hg
  go_wp2_with fail
  clear z1 d1
  go_loopw [7] (fun i wr => ∃ k : Nat, k ≤ m2 ∧ i = .int .i64 k ∧ Hid (preR (ws.drop a) l = preR (ws.drop (a + k)) (l.drop k)) ∧ Hid (Below W.heap.size W wr)) (fun i _ => m2 - (intOf i).toNat)
  case atStart => exact ⟨0, Nat.zero_le _, rfl, rfl, Below.refl _ _⟩
  case round =>
    obtain ⟨k, hk, rfl, HP, HB⟩ := hrel
    have z1 := HZ.out wr HB.out
    by_cases hlt : k < m2
    · obtain ⟨b, off, x, hA, hb, hd, e0⟩ := HRW.out wr HB.out (a + k) (by omega)
      subst hA
      obtain ⟨b', off', y, hA, hb', hd', e1⟩ := HRL.out wr HB.out k hlt
      subst hA
      have e2 : wr.cell? ⟨b, off + (a + k), none⟩ = some (.int .i64 x) := e0
      have i0 : (0 : Int) ≤ (a : Int) + (k : Int) := by omega
      have i1 : (a : Int) + (k : Int) < (nw : Int) := by omega
      have HP2 : Hid (preR (ws.drop a) l = if x = y then preR (ws.drop (a + (k + 1))) (l.drop (k + 1)) else false) := by rw [Hid, HP.out, hd.out, hd'.out, preR]; rfl
      clear HP hd hd'
      by_cases hxy : x = y
      · have d2 : (x != y) = false := by simpa using hxy
        have HP3 : Hid (preR (ws.drop a) l = preR (ws.drop (a + (k + 1))) (l.drop (k + 1))) := by rw [Hid, HP2.out, if_pos hxy]
        clear HP2 hxy
        go_wp2_with fail
        go_quiet (fail)
        go_wp2_with fail
        go_roundw
        case rel => exact ⟨k + 1, by omega, by go_num, HP3.out, below_drewN HB.out _⟩
        case measure => simp [intOf]; omega
      · have d2 : (x != y) = true := by simpa using hxy
        have HP3 : Hid (preR (ws.drop a) l = false) := by rw [Hid, HP2.out, if_neg hxy]
        clear HP2 hxy
        go_wp2_with fail
        go_quiet (fail)
        go_wp2_with fail
        go_ret
        exact ⟨by rw [HP3.out]; rfl, by rw [HG.out]; exact HBO.out _ (below_drewN HB.out _)⟩
    · have HP3 : Hid (preR (ws.drop a) l = true) := by
        rw [Hid, HP.out, List.drop_of_length_le (l := l) (by rw [HNL.out]; omega)]
        cases ws.drop (a + k) <;> rfl
      clear HP
      go_wp2_with fail
      go_ret
      exact ⟨by rw [HP3.out]; rfl, by rw [HG.out]; exact HBO.out _ HB.out⟩
set_option maxHeartbeats 4000000 in
set_option maxRecDepth 100000 in
theorem unit_any (v vw : Value) (o : PO) (ws : List Int) (w : World) (hv : RdO w v o) (hso : SmO o) (hw : RdI w vw ws) (_ : ws.length ≤ 24) :
    Calls Try.prog 40 #[v, vw] w fun e w' => e = .returned (.int .i64 (bestF o.units ws)) ∧ Below w.heap.size w w' := by
  obtain ⟨vu, vl, rfl, hu, hl⟩ := hv
  obtain ⟨A, n, c, rfl, hnc, hcm, HN, HR⟩ := hu.op
  obtain ⟨B, m, d, rfl, _, _, _, _⟩ := hl.op
  obtain ⟨Aw, nw, cw, rfl, hnw, _, HNW, _⟩ := hw.op
  have HSO := Lib.hid hso
  have hn2 : n ≤ 1048576 := by rw [← HN.out]; exact hso.units
  have hwl : nw ≤ 24 := by rw [← HNW.out]; assumption
  have HRI := Lib.hid hw
  clear hu hl hso hw
  go_enter Try.func40, Try.ntmps40
  go_upto_region 1 with (fail)
  generalize hW : World.alloc w _ = W
  have HBW : Hid (Below w.heap.size w W) := by rw [← hW]; repeat (first | assumption | exact Below.refl _ _ | refine Below.alloc ?_ (by first | omega | (simp; done) | (simp; omega)) _ | refine Below.drew ?_ | refine below_drewN ?_ _ | refine Below.setCell ?_ (by first | omega | (simp; done) | (simp; omega)) _)
  have z1 : W.cell? ⟨w.heap.size, 1, none⟩ = some (.slice A n c) := by rw [← hW]; simp [go_sem]
  have hgW : w.heap.size < W.heap.size := by rw [← hW]; simp
  have HZ : Hid (∀ W' : World, Below W.heap.size W W' → W'.cell? ⟨w.heap.size, 1, none⟩ = some (.slice A n c)) := fun W' h => cell_keep hgW z1 h
  have HRW : Hid (∀ W' : World, Below W.heap.size W W' → ∀ k, k < n → UAt W' A o.units k) := fun W' h k hk => ((HR.out k hk).below HBW.out).below h
  have HRI : Hid (∀ W' : World, Below W.heap.size W W' → RdI W' (.slice Aw nw cw) ws) := fun W' h => (HRI.out.below HBW.out).below h
  have HBO : Hid (∀ W' : World, Below W.heap.size W W' → Below w.heap.size w W') := fun W' h => bchain HBW.out h
  clear hW HR HBW hgW
  have HU : Hid (∀ k p r, o.units.drop k = p :: r → o.units[k]? = some p) := fun k p r h => by
    have := congrArg (fun l => l[0]?) h
    simpa [List.getElem?_drop] using this
  generalize hg : w.heap.size = g at z1 HZ HBO ⊢
  have HG := Lib.hid hg
  clear hg
  go_wp2_with fail
  clear z1
  go_loopw [5, 11] (fun b i wr => ∃ (k : Nat) (bi : Int) (q : Nat), k ≤ n ∧ i = .int .i64 k ∧ b = .int .i64 bi ∧ Hid (bestF o.units ws = bestR ws (o.units.drop k) k bi q) ∧ Hid (bi = -1 ∨ ∃ j : Nat, j < k ∧ bi = j ∧ ∃ p, o.units[j]? = some p ∧ p.s.length = q) ∧ Hid (Below W.heap.size W wr)) (fun _ i _ => n - (intOf i).toNat)
  case atStart => exact ⟨0, -1, 0, Nat.zero_le _, rfl, rfl, rfl, .inl rfl, Below.refl _ _⟩
  case round =>
    obtain ⟨k, bi, q, hk, rfl, rfl, HP, HJ, HB⟩ := hrel
    by_cases hlt : k < n
    · obtain ⟨b, off, B2, m2, c2, p, hA, hbl, hdr, c0, c1, hrd⟩ := HRW.out wr HB.out k hlt
      subst hA
      obtain ⟨_, _, _, he, _, _, HNP, _⟩ := hrd.out.op
      cases he
      have hsl : p.s.length ≤ 1048576 := HSO.out.segs p (List.mem_of_mem_drop (by rw [hdr.out]; exact List.mem_cons_self))
      have HP2 : Hid (bestF o.units ws = if preR ws p.s = true ∧ (bi < 0 ∨ q < p.s.length) then bestR ws (o.units.drop (k + 1)) (k + 1) k p.s.length else bestR ws (o.units.drop (k + 1)) (k + 1) bi q) := by rw [Hid, HP.out, hdr.out]; rfl
      have HPK := Lib.hid (HU.out k p _ hdr.out)
      rw [HNP.out] at hsl
      clear HP hdr
      go_wp2_with fail
      generalize hX : World.alloc wr _ = X
      have x1 : X.cell? ⟨wr.heap.size, 1, none⟩ = some (.slice B2 m2 c2) := by rw [← hX]; simp [go_sem]
      have HBX : Hid (Below W.heap.size W X) := by rw [← hX]; exact HB.out.alloc HB.out.size _
      have HRX : Hid (RdI X (.slice B2 m2 c2) p.s) := by rw [← hX]; exact hrd.out.below ((Below.refl _ _).alloc (Nat.le_refl _) _)
      clear hX c0 c1 hrd
      by_cases hmn : nw < m2
      · have d1 : decide (nw < m2) = true := by simpa using hmn
        have HP3 : Hid (bestF o.units ws = bestR ws (o.units.drop (k + 1)) (k + 1) bi q) := by rw [Hid, HP2.out, if_neg]; rw [preR_short (by rw [HNW.out, HNP.out]; exact hmn)]; simp
        clear HP2 hmn
        go_quiet (fail)
        go_wp2_with fail
        go_roundw
        case rel => exact ⟨k + 1, bi, q, by omega, by go_num, rfl, HP3.out, HJ.out.imp id fun ⟨j, h1, h2⟩ => ⟨j, by omega, h2⟩, below_drewN HBX.out _⟩
        case measure => simp [intOf]; omega
      have d1 : decide (nw < m2) = false := by simpa using hmn
      have hmc : (m2 : Int) ≤ (cw : Int) := by omega
      have HSB : Hid (preR ws p.s = sameB p.s (ws.take m2)) := by rw [Hid, preR_same, HNP.out]
      have HRT : Hid (RdI X (.slice Aw m2 cw) (ws.take m2)) := (HRI.out X HBX.out).take (by omega)
      cases hsb : sameB p.s (ws.take m2)
      · have HP3 : Hid (bestF o.units ws = bestR ws (o.units.drop (k + 1)) (k + 1) bi q) := by rw [Hid, HP2.out, HSB.out, hsb, if_neg (by simp)]
        clear HP2 hmn HSB
        go_quiet (first | (go_at_call 29; exact Calls.quiet_of (equal_any _ _ p.s (ws.take m2) _ HRX.out HRT.out)))
        go_wp2_with fail
        go_roundw
        case rel => exact ⟨k + 1, bi, q, by omega, by go_num, rfl, HP3.out, HJ.out.imp id fun ⟨j, h1, h2⟩ => ⟨j, by omega, h2⟩, below_drewN HBX.out _⟩
        case measure => simp [intOf]; omega
      · have hpre : preR ws p.s = true := HSB.out.trans hsb
        clear HSB hmn
        rcases HJ.out with h | ⟨j, hj, h, pj, hpj, hq⟩
        · subst h
          have HP3 : Hid (bestF o.units ws = bestR ws (o.units.drop (k + 1)) (k + 1) k p.s.length) := by rw [Hid, HP2.out, if_pos ⟨hpre, .inl (by omega)⟩]
          clear hpre HP2 HJ
          go_quiet (first | (go_at_call 29; exact Calls.quiet_of (equal_any _ _ p.s (ws.take m2) _ HRX.out HRT.out)))
          go_wp2_with fail
          go_quiet (fail)
          go_wp2_with fail
          go_roundw
          case rel => exact ⟨k + 1, k, p.s.length, by omega, by go_num, rfl, HP3.out, .inr ⟨k, by omega, rfl, p, HPK.out, rfl⟩, below_drewN HBX.out _⟩
          case measure => simp [intOf]; omega
        · subst h
          obtain ⟨b', off', B3, m3, c3, p', hA, hbl', hdr', _, e1, hrd'⟩ := HRW.out X HBX.out j (by omega)
          cases hA
          have hpp : p' = pj := by
            have := HU.out j p' _ hdr'.out
            rw [hpj] at this
            exact (Option.some.inj this).symm
          subst hpp
          obtain ⟨_, _, _, he, _, _, HNP', _⟩ := hrd'.out.op
          cases he
          have HJK := Lib.hid hpj
          have dj : decide ((j : Int) < 0) = false := by simp
          have hj0 : (0 : Int) ≤ (j : Int) := by omega
          have hj1 : (j : Int) < (n : Int) := by omega
          have z1 := HZ.out X HBX.out
          clear hdr' hpj hrd'
          by_cases hsz : m3 < m2
          · have d2 : decide (m3 < m2) = true := by simpa using hsz
            have HP3 : Hid (bestF o.units ws = bestR ws (o.units.drop (k + 1)) (k + 1) k p.s.length) := by rw [Hid, HP2.out, if_pos ⟨hpre, .inr (by rw [HNP.out, ← hq, HNP'.out]; exact hsz)⟩]
            clear hpre HP2 HJ hq hsz
            go_quiet (first | (go_at_call 29; exact Calls.quiet_of (equal_any _ _ p.s (ws.take m2) _ HRX.out HRT.out)))
            go_wp2_with fail
            go_quiet (fail)
            go_wp2_with fail
            go_roundw
            case rel => exact ⟨k + 1, k, p.s.length, by omega, by go_num, rfl, HP3.out, .inr ⟨k, by omega, rfl, p, HPK.out, rfl⟩, below_drewN HBX.out _⟩
            case measure => simp [intOf]; omega
          · have d2 : decide (m3 < m2) = false := by simpa using hsz
            have HP3 : Hid (bestF o.units ws = bestR ws (o.units.drop (k + 1)) (k + 1) j q) := by
              rw [Hid, HP2.out, if_neg]
              rintro ⟨_, h | h⟩
              · omega
              · rw [HNP.out, ← hq, HNP'.out] at h; exact hsz h
            have HQ := Lib.hid hq
            clear hpre HP2 HJ hq hsz
            go_quiet (first | (go_at_call 29; exact Calls.quiet_of (equal_any _ _ p.s (ws.take m2) _ HRX.out HRT.out)))
            go_wp2_with fail
            go_quiet (fail)
            go_wp2_with fail
            go_roundw
            case rel => exact ⟨k + 1, j, q, by omega, by go_num, rfl, HP3.out, .inr ⟨j, by omega, rfl, p', HJK.out, HQ.out⟩, below_drewN HBX.out _⟩
            case measure => simp [intOf]; omega
    · have HP3 : Hid (bestF o.units ws = bi) := by rw [Hid, HP.out, List.drop_of_length_le (by rw [HN.out]; omega)]; rfl
      clear HP
      go_wp2_with fail
      go_ret
      exact ⟨by rw [HP3.out]; rfl, by rw [HG.out]; exact HBO.out _ HB.out⟩
end Go.Proofs.Ytokbclpdpegicaa
