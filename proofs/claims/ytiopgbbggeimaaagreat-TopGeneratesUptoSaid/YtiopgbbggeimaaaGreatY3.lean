/-
  The part of older texts that this seat needs (printed by shake.py): WP3 W17 W18 W19 W20 W21
-/
import Derived.Test.YtiopgbbggeimaaaGreatY2
/-
  Plain words: a word in units.
-/
namespace Go.Proofs.YtiopgbbggeimaaaGreat
open Go.ChangeShapes Go.WideShapes Go.ChangeAt Go.RowKit
/-- the word begins with the list -/
def preR : List Int → List Int → Bool
  | _, [] => true
  | [], _ :: _ => false
  | x :: xs, y :: ys => if x = y then preR xs ys else false
theorem preR_iff (xs ys : List Int) : preR xs ys = true ↔ xs.take ys.length = ys := by
  induction ys generalizing xs with
  | nil => simp [preR]
  | cons y ys ih => cases xs with
    | nil => simp [preR]
    | cons x xs =>
      rw [preR]
      by_cases h : x = y
      · subst h; rw [if_pos rfl, ih]; simp
      · simp [h]
theorem preR_short {xs ys : List Int} (h : xs.length < ys.length) : preR xs ys = false := by
  rw [← Bool.not_eq_true, preR_iff]
  intro h1
  have := congrArg List.length h1
  rw [List.length_take] at this
  omega
theorem preR_same {xs ys : List Int} : preR xs ys = sameB ys (xs.take ys.length) := by
  rw [Bool.eq_iff_iff, preR_iff, sameB_iff]
  exact eq_comm
theorem preR_len {xs ys : List Int} (h : preR xs ys = true) : ys.length ≤ xs.length := by
  by_cases hc : ys.length ≤ xs.length
  · exact hc
  · rw [preR_short (by omega)] at h; cases h
def bestR (w : List Int) : List PU → Nat → Int → Nat → Int
  | [], _, b, _ => b
  | p :: r, i, b, m => if preR w p.s = true ∧ (b < 0 ∨ m < p.s.length) then bestR w r (i + 1) i p.s.length else bestR w r (i + 1) b m
/-- the first unit with the most segments with which a word begins; -1 if there is none -/
def bestF (us : List PU) (w : List Int) : Int := bestR w us 0 (-1) 0
theorem bestR_range (w : List Int) (us : List PU) : ∀ (l : List PU) (i : Nat) (b : Int) (m : Nat), us.drop i = l → (b = -1 ∨ ∃ (j : Nat) (p : PU), b = j ∧ us[j]? = some p ∧ preR w p.s = true) →
    (bestR w l i b m = -1 ∨ ∃ (j : Nat) (p : PU), bestR w l i b m = j ∧ us[j]? = some p ∧ preR w p.s = true)
  | [], _, _, _, _, h => h
  | p :: r, i, b, m, hd, h => by
    have hr : us.drop (i + 1) = r := by rw [← List.drop_drop, hd]; rfl
    have hp : us[i]? = some p := by
      have := congrArg (fun l => l[0]?) hd
      simpa [List.getElem?_drop] using this
    rw [bestR]
    by_cases hc : preR w p.s = true ∧ (b < 0 ∨ m < p.s.length)
    · rw [if_pos hc]
      exact bestR_range w us r (i + 1) i p.s.length hr (.inr ⟨i, p, rfl, hp, hc.1⟩)
    · rw [if_neg hc]
      exact bestR_range w us r (i + 1) b m hr h
theorem bestF_range (us : List PU) (w : List Int) : bestF us w = -1 ∨ ∃ (j : Nat) (p : PU), bestF us w = j ∧ us[j]? = some p ∧ preR w p.s = true :=
  bestR_range w us us 0 (-1) 0 rfl (.inl rfl)
def uG (us : List PU) (i : Int) : ByteArray := ((us[i.toNat]?).map PU.g).getD ByteArray.empty
def uS (us : List PU) (i : Int) : List Int := ((us[i.toNat]?).map PU.s).getD []
/-- the spelling of a word from a on, behind the text s -/
def spellR (us : List PU) (w : List Int) : Nat → Nat → ByteArray → ByteArray × Nat × Int
  | 0, _, s => (s, 0, 0)
  | f + 1, a, s => if a < w.length then (if bestF us (w.drop a) < 0 then (ByteArray.empty, a, 20) else spellR us w f (a + (uS us (bestF us (w.drop a))).length) (s ++ uG us (bestF us (w.drop a)))) else (s, 0, 0)
/-- what Spell returns -/
def spellF (us : List PU) (w : List Int) : ByteArray × Nat × Int :=
  if w.length = 0 then (ByteArray.empty, 0, 4) else if 24 < w.length then (ByteArray.empty, 0, 5) else spellR us w 25 0 ByteArray.empty
end Go.Proofs.YtiopgbbggeimaaaGreat

/-
  starts of the reference, unit of orthographies.
-/
namespace Go.Proofs.YtiopgbbggeimaaaGreat
open Go.ChangeShapes Go.WideShapes Go.ChangeAt Go.RowKit
theorem add_none' (b off k : Nat) : (⟨b, off, none⟩ : Addr).add k = ⟨b, off + k, none⟩ := by unfold Addr.add; split <;> simp_all
theorem RdI.take {w : World} {A : Option Addr} {n c k : Nat} {xs : List Int} (h : RdI w (.slice A n c) xs) (hk : k ≤ n) : RdI w (.slice A k c) (xs.take k) := by
  obtain ⟨A', c', he, h1, h2, h3, h4⟩ := h
  cases he
  have hl : (xs.take k).length = k := by simp; omega
  refine ⟨A, c, by rw [hl], by rw [hl]; omega, h2, by simp, fun hn => ?_⟩
  rw [hl] at hn
  obtain ⟨b, off, rfl, hb, hc⟩ := h4 (by omega)
  refine ⟨b, off, rfl, hb, fun j u hu => hc j u ?_⟩
  rw [List.map_take, List.getElem?_take] at hu
  split at hu
  · exact hu
  · cases hu
theorem RdI.drop {w : World} {A : Option Addr} {n c k : Nat} {xs : List Int} (h : RdI w (.slice A n c) xs) (hk : k ≤ n) : RdI w (.slice (if c = k then A else A.map (·.add k)) (n - k) (c - k)) (xs.drop k) := by
  obtain ⟨A', c', he, h1, h2, h3, h4⟩ := h
  cases he
  have hl : (xs.drop k).length = xs.length - k := by simp
  refine ⟨_, c - k, by rw [hl], by rw [hl]; omega, by omega, by simp, fun hn => ?_⟩
  rw [hl] at hn
  obtain ⟨b, off, rfl, hb, hc⟩ := h4 (by omega)
  rw [if_neg (by omega)]
  refine ⟨b, off + k, by simp [add_none'], hb, fun j u hu => ?_⟩
  have := hc (k + j) u (by rw [← hu, List.map_drop, List.getElem?_drop])
  rwa [show off + k + j = off + (k + j) by omega]
set_option maxHeartbeats 4000000 in
set_option maxRecDepth 100000 in
theorem unit_any (v vw : Value) (o : PO) (ws : List Int) (w : World) (hv : RdO w v o) (hso : SmO o) (hw : RdI w vw ws) (_ : ws.length ≤ 24) :
    Calls Tryz.prog 48 #[v, vw] w fun e w' => e = .returned (.int .i64 (bestF o.units ws)) ∧ Below w.heap.size w w' := by
  obtain ⟨vu, vl, rfl, hu, hl⟩ := hv
  obtain ⟨A, n, c, rfl, hnc, hcm, HN, HR⟩ := hu.op
  obtain ⟨B, m, d, rfl, _, _, _, _⟩ := hl.op
  obtain ⟨Aw, nw, cw, rfl, hnw, _, HNW, _⟩ := hw.op
  have HSO := Lib.hid hso
  have hn2 : n ≤ 1048576 := by rw [← HN.out]; exact hso.units
  have hwl : nw ≤ 24 := by rw [← HNW.out]; assumption
  have HRI := Lib.hid hw
  clear hu hl hso hw
  go_enter Tryz.func48, Tryz.ntmps48
  go_upto_region 1 with (fail)
  generalize hW : World.alloc w _ = W
  have HBW : Hid (Below w.heap.size w W) := by rw [← hW]; repeat (first | assumption | exact Below.refl _ _ | refine Below.alloc ?_ (by first | omega | (simp; done) | (simp; omega)) _ | refine Below.drew ?_ | refine below_drewN ?_ _ | refine Below.setCell ?_ (by first | omega | (simp; done) | (simp; omega)) _)
  have z1 : W.cell? ⟨w.heap.size, 1, none⟩ = some (.slice A n c) := by rw [← hW]; simp [go_sem]
  have hgW : w.heap.size < W.heap.size := by rw [← hW]; simp
  have HZ : Hid (∀ W' : World, Below W.heap.size W W' → W'.cell? ⟨w.heap.size, 1, none⟩ = some (.slice A n c)) := fun W' h => cell_keep hgW z1 h
  have HRW : Hid (∀ W' : World, Below W.heap.size W W' → ∀ k, k < n → UAt W' A o.units k) := fun W' h k hk => ((HR.out k hk).below HBW.out).below h
  have HRI : Hid (∀ W' : World, Below W.heap.size W W' → RdI W' (.slice Aw nw cw) ws) := fun W' h => (HRI.out.below HBW.out).below h
  have HBO : Hid (∀ W' : World, Below W.heap.size W W' → Below w.heap.size w W') := fun W' h => bchain HBW.out h
  clear hW HR HBW hgW
  have HU : Hid (∀ k p r, o.units.drop k = p :: r → o.units[k]? = some p) := fun k p r h => by
    have := congrArg (fun l => l[0]?) h
    simpa [List.getElem?_drop] using this
  generalize hg : w.heap.size = g at z1 HZ HBO ⊢
  have HG := Lib.hid hg
  clear hg
  go_wp2_with fail
  clear z1
  go_loopw [5, 11] (fun b i wr => ∃ (k : Nat) (bi : Int) (q : Nat), k ≤ n ∧ i = .int .i64 k ∧ b = .int .i64 bi ∧ Hid (bestF o.units ws = bestR ws (o.units.drop k) k bi q) ∧ Hid (bi = -1 ∨ ∃ j : Nat, j < k ∧ bi = j ∧ ∃ p, o.units[j]? = some p ∧ p.s.length = q) ∧ Hid (Below W.heap.size W wr)) (fun _ i _ => n - (intOf i).toNat)
  case atStart => exact ⟨0, -1, 0, Nat.zero_le _, rfl, rfl, rfl, .inl rfl, Below.refl _ _⟩
  case round =>
    obtain ⟨k, bi, q, hk, rfl, rfl, HP, HJ, HB⟩ := hrel
    by_cases hlt : k < n
    · obtain ⟨b, off, B2, m2, c2, p, hA, hbl, hdr, c0, c1, hrd⟩ := HRW.out wr HB.out k hlt
      subst hA
      obtain ⟨_, _, _, he, _, _, HNP, _⟩ := hrd.out.op
      cases he
      have hsl : p.s.length ≤ 1048576 := HSO.out.segs p (List.mem_of_mem_drop (by rw [hdr.out]; exact List.mem_cons_self))
      have HP2 : Hid (bestF o.units ws = if preR ws p.s = true ∧ (bi < 0 ∨ q < p.s.length) then bestR ws (o.units.drop (k + 1)) (k + 1) k p.s.length else bestR ws (o.units.drop (k + 1)) (k + 1) bi q) := by rw [Hid, HP.out, hdr.out]; rfl
      have HPK := Lib.hid (HU.out k p _ hdr.out)
      rw [HNP.out] at hsl
      clear HP hdr
      go_wp2_with fail
      generalize hX : World.alloc wr _ = X
      have x1 : X.cell? ⟨wr.heap.size, 1, none⟩ = some (.slice B2 m2 c2) := by rw [← hX]; simp [go_sem]
      have HBX : Hid (Below W.heap.size W X) := by rw [← hX]; exact HB.out.alloc HB.out.size _
      have HRX : Hid (RdI X (.slice B2 m2 c2) p.s) := by rw [← hX]; exact hrd.out.below ((Below.refl _ _).alloc (Nat.le_refl _) _)
      clear hX c0 c1 hrd
      by_cases hmn : nw < m2
      · have d1 : decide (nw < m2) = true := by simpa using hmn
        have HP3 : Hid (bestF o.units ws = bestR ws (o.units.drop (k + 1)) (k + 1) bi q) := by rw [Hid, HP2.out, if_neg]; rw [preR_short (by rw [HNW.out, HNP.out]; exact hmn)]; simp
        clear HP2 hmn
        go_quiet (fail)
        go_wp2_with fail
        go_roundw
        case rel => exact ⟨k + 1, bi, q, by omega, by go_num, rfl, HP3.out, HJ.out.imp id fun ⟨j, h1, h2⟩ => ⟨j, by omega, h2⟩, below_drewN HBX.out _⟩
        case measure => simp [intOf]; omega
      have d1 : decide (nw < m2) = false := by simpa using hmn
      have hmc : (m2 : Int) ≤ (cw : Int) := by omega
      have HSB : Hid (preR ws p.s = sameB p.s (ws.take m2)) := by rw [Hid, preR_same, HNP.out]
      have HRT : Hid (RdI X (.slice Aw m2 cw) (ws.take m2)) := (HRI.out X HBX.out).take (by omega)
      cases hsb : sameB p.s (ws.take m2)
      · have HP3 : Hid (bestF o.units ws = bestR ws (o.units.drop (k + 1)) (k + 1) bi q) := by rw [Hid, HP2.out, HSB.out, hsb, if_neg (by simp)]
        clear HP2 hmn HSB
        go_quiet (first | (go_at_call 24; exact Calls.quiet_of (equal_any _ _ p.s (ws.take m2) _ HRX.out HRT.out)))
        go_wp2_with fail
        go_roundw
        case rel => exact ⟨k + 1, bi, q, by omega, by go_num, rfl, HP3.out, HJ.out.imp id fun ⟨j, h1, h2⟩ => ⟨j, by omega, h2⟩, below_drewN HBX.out _⟩
        case measure => simp [intOf]; omega
      · have hpre : preR ws p.s = true := HSB.out.trans hsb
        clear HSB hmn
        rcases HJ.out with h | ⟨j, hj, h, pj, hpj, hq⟩
        · subst h
          have HP3 : Hid (bestF o.units ws = bestR ws (o.units.drop (k + 1)) (k + 1) k p.s.length) := by rw [Hid, HP2.out, if_pos ⟨hpre, .inl (by omega)⟩]
          clear hpre HP2 HJ
          go_quiet (first | (go_at_call 24; exact Calls.quiet_of (equal_any _ _ p.s (ws.take m2) _ HRX.out HRT.out)))
          go_wp2_with fail
          go_quiet (fail)
          go_wp2_with fail
          go_roundw
          case rel => exact ⟨k + 1, k, p.s.length, by omega, by go_num, rfl, HP3.out, .inr ⟨k, by omega, rfl, p, HPK.out, rfl⟩, below_drewN HBX.out _⟩
          case measure => simp [intOf]; omega
        · subst h
          obtain ⟨b', off', B3, m3, c3, p', hA, hbl', hdr', _, e1, hrd'⟩ := HRW.out X HBX.out j (by omega)
          cases hA
          have hpp : p' = pj := by
            have := HU.out j p' _ hdr'.out
            rw [hpj] at this
            exact (Option.some.inj this).symm
          subst hpp
          obtain ⟨_, _, _, he, _, _, HNP', _⟩ := hrd'.out.op
          cases he
          have HJK := Lib.hid hpj
          have dj : decide ((j : Int) < 0) = false := by simp
          have hj0 : (0 : Int) ≤ (j : Int) := by omega
          have hj1 : (j : Int) < (n : Int) := by omega
          have z1 := HZ.out X HBX.out
          clear hdr' hpj hrd'
          by_cases hsz : m3 < m2
          · have d2 : decide (m3 < m2) = true := by simpa using hsz
            have HP3 : Hid (bestF o.units ws = bestR ws (o.units.drop (k + 1)) (k + 1) k p.s.length) := by rw [Hid, HP2.out, if_pos ⟨hpre, .inr (by rw [HNP.out, ← hq, HNP'.out]; exact hsz)⟩]
            clear hpre HP2 HJ hq hsz
            go_quiet (first | (go_at_call 24; exact Calls.quiet_of (equal_any _ _ p.s (ws.take m2) _ HRX.out HRT.out)))
            go_wp2_with fail
            go_quiet (fail)
            go_wp2_with fail
            go_roundw
            case rel => exact ⟨k + 1, k, p.s.length, by omega, by go_num, rfl, HP3.out, .inr ⟨k, by omega, rfl, p, HPK.out, rfl⟩, below_drewN HBX.out _⟩
            case measure => simp [intOf]; omega
          · have d2 : decide (m3 < m2) = false := by simpa using hsz
            have HP3 : Hid (bestF o.units ws = bestR ws (o.units.drop (k + 1)) (k + 1) j q) := by
              rw [Hid, HP2.out, if_neg]
              rintro ⟨_, h | h⟩
              · omega
              · rw [HNP.out, ← hq, HNP'.out] at h; exact hsz h
            have HQ := Lib.hid hq
            clear hpre HP2 HJ hq hsz
            go_quiet (first | (go_at_call 24; exact Calls.quiet_of (equal_any _ _ p.s (ws.take m2) _ HRX.out HRT.out)))
            go_wp2_with fail
            go_quiet (fail)
            go_wp2_with fail
            go_roundw
            case rel => exact ⟨k + 1, j, q, by omega, by go_num, rfl, HP3.out, .inr ⟨j, by omega, rfl, p', HJK.out, HQ.out⟩, below_drewN HBX.out _⟩
            case measure => simp [intOf]; omega
    · have HP3 : Hid (bestF o.units ws = bi) := by rw [Hid, HP.out, List.drop_of_length_le (by rw [HN.out]; omega)]; rfl
      clear HP
      go_wp2_with fail
      go_ret
      exact ⟨by rw [HP3.out]; rfl, by rw [HG.out]; exact HBO.out _ HB.out⟩
end Go.Proofs.YtiopgbbggeimaaaGreat

/-
  Spell of the reference of orthographies.
-/
namespace Go.Proofs.YtiopgbbggeimaaaGreat
open Go.ChangeShapes Go.WideShapes Go.ChangeAt Go.RowKit
/-- a call returns a text and two numbers -/
def RetT (r : ByteArray × Nat × Int) (e : Ending) : Prop := e = .returned (.tuple #[.string r.1, .int .i64 r.2.1, .int .i64 r.2.2])
theorem uG_at {us : List PU} {j : Nat} {p : PU} (h : us[j]? = some p) : uG us (j : Int) = p.g := by rw [uG, Int.toNat_natCast, h]; rfl
theorem uS_at {us : List PU} {j : Nat} {p : PU} (h : us[j]? = some p) : uS us (j : Int) = p.s := by rw [uS, Int.toNat_natCast, h]; rfl
theorem UAt.op {w : World} {A : Option Addr} {us : List PU} {k : Nat} {p : PU} (h : UAt w A us k) (hp : us[k]? = some p) : ∃ b off B m cm, A = some ⟨b, off, none⟩ ∧ b < w.heap.size ∧ w.cell? ⟨b, off + k * 2, none⟩ = some (.string p.g) ∧ w.cell? ⟨b, off + k * 2 + 1, none⟩ = some (.slice B m cm) ∧ Hid (RdI w (.slice B m cm) p.s) ∧ Hid (p.s.length = m) := by
  obtain ⟨b, off, B, m, cm, p', rfl, h1, h2, h3, h4, h5⟩ := h
  have hpp : p' = p := by
    have := congrArg (fun l => l[0]?) h2.out
    simp only [List.getElem?_drop, Nat.add_zero, List.getElem?_cons_zero] at this
    rw [hp] at this
    exact (Option.some.inj this).symm
  subst hpp
  obtain ⟨_, _, _, he, _, _, hn, _⟩ := h5.out.op
  cases he
  exact ⟨b, off, B, m, cm, rfl, h1, h3, h4, h5, hn⟩
end Go.Proofs.YtiopgbbggeimaaaGreat

/-
  A strings.Builder of the call's own: WriteString.
-/
namespace Go.Proofs.YtiopgbbggeimaaaGreat
open Go.Shelf Go.ChangeShapes Go.WideShapes Go.ChangeAt Go.RowKit
set_option maxHeartbeats 1000000 in
set_option maxRecDepth 100000 in
theorem copyCheck_used (b : Nat) (w : World) (h0 : w.cell? ⟨b, 0, none⟩ = some (.pointer (some ⟨b, 0, none⟩))) :
    Calls Tryz.prog 87 #[.pointer (some ⟨b, 0, none⟩)] w fun e w' => e = .returned (.tuple #[]) ∧ w' = w := by
  obtain ⟨j, hj, _⟩ := Option.map_eq_some_iff.1 Builder_Extra_169.sizeBuilder
  go_enter Tryz.func87, Tryz.ntmps87
  go_wp2
  rw [Lib.run_neq_ptr_same w _ Tryz.underlying107 hj]
  go_wp2
  go_end0
  exact ⟨rfl, rfl⟩
set_option maxHeartbeats 1000000 in
set_option maxRecDepth 100000 in
theorem copyCheck_fresh (b : Nat) (w : World) (h0 : w.cell? ⟨b, 0, none⟩ = some (.pointer none)) (hsh : w.shape? b = some (110, 2)) (hfz : w.frozen? ⟨b, 0, none⟩ = false) :
    Calls Tryz.prog 87 #[.pointer (some ⟨b, 0, none⟩)] w fun e w' => e = .returned (.tuple #[]) ∧ w' = w.setCell ⟨b, 0, none⟩ (.pointer (some ⟨b, 0, none⟩)) := by
  obtain ⟨j, hj, hjs⟩ := Option.map_eq_some_iff.1 Builder_Extra_169.sizeBuilder
  go_enter Tryz.func87, Tryz.ntmps87
  go_wp2
  rw [Lib.run_to_unsafe w ⟨b, 0, none⟩ Tryz.underlying107 Tryz.underlying179 hj (by rw [hjs]; decide) hsh (Nat.zero_lt_succ 1)]
  simp only [Result.andThen]
  rw [Oper.upon_value]
  go_wp2
  rw [run_callFunc_extern Tryz.func110 (by kernel_rfl) (by kernel_rfl) (by kernel_rfl) (e := Extern.AbiNoEscape.same) (by kernel_rfl)]
  rw [Lib.run_noEscape]
  simp only [Result.andThen]
  rw [Oper.upon_value]
  go_wp2
  rw [Lib.run_from_unsafe w ⟨b, 0, none⟩ Tryz.underlying179 Tryz.underlying107 hj hsh Builder_Extra_169.liesBuilder]
  simp only [Result.andThen]
  rw [Oper.upon_value]
  go_wp2
  go_end0
  exact ⟨rfl, rfl⟩
theorem copyCheck_any (B b : Nat) (bs : List Value) (w : World) (h : Lib.IsBuilder 110 5 B b bs w) :
    Calls Tryz.prog 87 #[.pointer (some ⟨b, 0, none⟩)] w fun e w' => e = .returned (.tuple #[]) ∧ (Lib.BuilderAt 110 5 B b (.pointer (some ⟨b, 0, none⟩)) bs w' ∧ Below B w w') := by
  rcases h with h | h
  · refine (copyCheck_fresh b w h.cell0 h.shape h.frozen0).mono ?_
    rintro e w' ⟨rfl, rfl⟩
    exact ⟨rfl, h.used _, (Below.refl B w).setCell (p := ⟨b, 0, none⟩) h.1 _⟩
  · refine (copyCheck_used b w h.cell0).mono ?_
    rintro e w' ⟨rfl, rfl⟩
    exact ⟨rfl, h, Below.refl B _⟩
set_option maxHeartbeats 2000000 in
set_option maxRecDepth 100000 in
theorem writeString_any (B b : Nat) (bs : List Value) (s : ByteArray) (w : World) (h : Lib.IsBuilder 110 5 B b bs w) (hlen : bs.length + s.size ≤ 140737488355328) (hBw : B ≤ w.heap.size) :
    Calls Tryz.prog 49 #[.pointer (some ⟨b, 0, none⟩), .string s] w fun e w' => e = .returned (.tuple #[.int .i64 s.size, .nilIface]) ∧ (Lib.BuilderAt 110 5 B b (.pointer (some ⟨b, 0, none⟩)) (bs ++ Lib.strCells s) w' ∧ Below B w w') := by
  obtain ⟨i0, hi, hz0, hz1, hz2⟩ := info_parts Builder_Extra_169.infoByte
  go_enter Tryz.func49, Tryz.ntmps49
  go_wp2_with (go_at_call 87; refine (copyCheck_any B b bs _ h).mono ?_)
  rintro e w1 ⟨rfl, h1, hb1⟩
  obtain ⟨hB, v, hbk, hown, hne⟩ := h1
  have c0 : w1.cell? ⟨b, 0, none⟩ = some (.pointer (some ⟨b, 0, none⟩)) := by rw [Lib.cell_of_heap hbk]; rfl
  have c1 : w1.cell? ⟨b, 1, none⟩ = some v := by rw [Lib.cell_of_heap hbk]; rfl
  go_wp2_with (at_builtin; refine Lib.wpList_append_own_string _ rfl _ _ 108 9 rfl B 5 i0 Tryz.underlying108 Tryz.underlying9 hi hz0 hz1 hz2 _ _ _ rfl hown s rfl ?c3 ?c4 ?c5 ?_)
  case c3 => unfold maxLen; omega
  case c4 => omega
  case c5 => have := hb1.size; omega
  intro v' w2 hown' hgrow _
  have hlt : b < w1.heap.size := by
    rcases Nat.lt_or_ge b w1.heap.size with h' | h'
    · exact h'
    · simp [Array.getElem?_eq_none h'] at hbk
  have hb2 : w2.heap[b]? = some (.cells #[.pointer (some ⟨b, 0, none⟩), v] 110 (0, 0)) := by
    rw [hgrow.block b hlt (fun e => hne e.symm)]
    exact hbk
  have d0 : w2.cell? ⟨b, 0, none⟩ = some (.pointer (some ⟨b, 0, none⟩)) := by rw [Lib.cell_of_heap hb2]; rfl
  have d1 : w2.cell? ⟨b, 1, none⟩ = some v := by rw [Lib.cell_of_heap hb2]; rfl
  have f1 : w2.frozen? ⟨b, 1, none⟩ = false := Lib.frozen_of_heap hb2 1
  obtain ⟨ao, n', cap, rfl⟩ : ∃ ao n' cap, v' = .slice ao n' cap := by
    rcases hown'.2 with ⟨hv, _⟩ | ⟨g, cap, cur, hv, _⟩
    · exact ⟨_, _, _, hv⟩
    · exact ⟨_, _, _, hv⟩
  go_wp2
  go_ret2
  refine ⟨rfl, ?_, ?_⟩
  · exact Lib.BuilderAt.put (T := 110) (e := 5) hB hb2 (bs' := bs ++ Lib.strCells s) (by simpa [Lib.strCells_length] using hown') (by decide)
  · exact (hb1.grown hgrow (by have := hb1.size; omega) (fun k hk => (hown.lt k hk).1)).setCell (p := ⟨b, 1, none⟩) hB _
end Go.Proofs.YtiopgbbggeimaaaGreat

/-
  Spell of orthographies.
-/
namespace Go.Proofs.YtiopgbbggeimaaaGreat
open Go.Shelf Go.ChangeShapes Go.WideShapes Go.ChangeAt Go.RowKit
/-- the builder in block b holds the text t -/
def Bd (w : World) (B b : Nat) (t : ByteArray) : Prop := Lib.IsBuilder 110 5 B b (Lib.byteCells t.data.toList) w
theorem builderAt_below {w w' : World} {B b : Nat} {p : Value} {bs : List Value} (h : Lib.BuilderAt 110 5 B b p bs w) (hb : Below w.heap.size w w') : Lib.BuilderAt 110 5 B b p bs w' := by
  have hlt := h.lt
  obtain ⟨hB, v, h1, h2, h3⟩ := h
  exact ⟨hB, v, (hb.block b hlt).trans h1, own_below h2 hb, h3⟩
theorem Bd.below {w w' : World} {B b : Nat} {t : ByteArray} (h : Bd w B b t) (hb : Below w.heap.size w w') : Bd w' B b t := by
  rcases h with h | h
  · exact .inl (builderAt_below h hb)
  · exact .inr (builderAt_below h hb)
theorem bd_new (w : World) : Bd (w.alloc (.cells #[.pointer none, .slice none 0 0] 110)) w.heap.size w.heap.size ByteArray.empty := Lib.fresh_isBuilder _ _ w
theorem bd_write {w : World} {B b : Nat} {t s : ByteArray} (h : Bd w B b t) (hl : t.size + s.size ≤ 140737488355328) (hB : B ≤ w.heap.size) :
    Calls Tryz.prog 49 #[.pointer (some ⟨b, 0, none⟩), .string s] w fun e w' => e = .returned (.tuple #[.int .i64 s.size, .nilIface]) ∧ Bd w' B b (t ++ s) ∧ Below B w w' := by
  refine (writeString_any B b _ s w h (by rw [Lib.byteCells_length, Array.length_toList]; exact hl) hB).mono ?_
  rintro e w' ⟨rfl, h1, h2⟩
  refine ⟨rfl, .inr ?_, h2⟩
  have : Lib.byteCells (t ++ s).data.toList = Lib.byteCells t.data.toList ++ Lib.strCells s := by
    rw [Lib.strCells_eq, ← Lib.byteCells_append, ByteArray.data_append, Array.toList_append]
  rw [this]
  exact h1
theorem bd_text {w : World} {B b : Nat} {t : ByteArray} (h : Bd w B b t) (hB : B ≤ w.heap.size) :
    Calls Tryz.prog 50 #[.pointer (some ⟨b, 0, none⟩)] w fun e w' => e = .returned (.string t) ∧ Below B w w' := by
  refine (Builder_String_any B b _ w h hB).mono ?_
  rintro e w' ⟨rfl, h2⟩
  exact ⟨by simp, h2⟩
set_option maxHeartbeats 4000000 in
set_option maxRecDepth 100000 in
theorem spell_any (v vw : Value) (o : PO) (ws : List Int) (w : World) (hv : RdO w v o) (hso : SmO o) (hgd : ∀ p ∈ o.units, GoodU p) (hw : RdI w vw ws) (hlen : ws.length ≤ 1000000000) :
    Calls Tryz.prog 22 #[v, vw] w fun e w' => RetT (spellF o.units ws) e ∧ Below w.heap.size w w' := by
  have HV := Lib.hid hv
  obtain ⟨vu, vl, rfl, hu, hl⟩ := hv
  obtain ⟨A, n, c, rfl, hnc, hcm, HN, HR⟩ := hu.op
  obtain ⟨B, m, d, rfl, _, _, _, _⟩ := hl.op
  obtain ⟨Aw, nw, cw, rfl, hnw, _, HNW, _⟩ := hw.op
  have HSO := Lib.hid hso
  have HGD := Lib.hid hgd
  have hn2 : n ≤ 1048576 := by rw [← HN.out]; exact hso.units
  rw [HNW.out] at hlen
  have HRI := Lib.hid hw
  clear hu hl hso hw hgd
  by_cases h0 : nw = 0
  · have HF : Hid (spellF o.units ws = (ByteArray.empty, 0, 4)) := by rw [Hid, spellF, HNW.out, if_pos h0]
    subst h0
    go_enter Tryz.func22, Tryz.ntmps22
    go_wp2_with fail
    go_ret3
    exact ⟨by rw [HF.out]; rfl, by repeat (first | assumption | exact Below.refl _ _ | refine Below.alloc ?_ (by first | omega | (simp; done) | (simp; omega)) _ | refine Below.drew ?_ | refine below_drewN ?_ _ | refine Below.setCell ?_ (by first | omega | (simp; done) | (simp; omega)) _)⟩
  have d0 : ((nw : Int) == 0) = false := by simp; omega
  have d0' : (nw == 0) = false := by simp; omega
  by_cases h24 : 24 < nw
  · have HF : Hid (spellF o.units ws = (ByteArray.empty, 0, 5)) := by rw [Hid, spellF, HNW.out, if_neg h0, if_pos h24]
    have d1 : decide ((24 : Int) < (nw : Int)) = true := by simp; omega
    go_enter Tryz.func22, Tryz.ntmps22
    go_wp2_with fail
    go_ret3
    exact ⟨by rw [HF.out]; rfl, by repeat (first | assumption | exact Below.refl _ _ | refine Below.alloc ?_ (by first | omega | (simp; done) | (simp; omega)) _ | refine Below.drew ?_ | refine below_drewN ?_ _ | refine Below.setCell ?_ (by first | omega | (simp; done) | (simp; omega)) _)⟩
  have HF : Hid (spellF o.units ws = spellR o.units ws 25 0 ByteArray.empty) := by rw [Hid, spellF, HNW.out, if_neg h0, if_neg h24]
  have d1 : decide ((24 : Int) < (nw : Int)) = false := by simp; omega
  have hw24 : nw ≤ 24 := by omega
  go_enter Tryz.func22, Tryz.ntmps22
  go_upto_region 1 with (fail)
  generalize hW : World.alloc w _ = W
  have HBW : Hid (Below w.heap.size w W) := by rw [← hW]; repeat (first | assumption | exact Below.refl _ _ | refine Below.alloc ?_ (by first | omega | (simp; done) | (simp; omega)) _ | refine Below.drew ?_ | refine below_drewN ?_ _ | refine Below.setCell ?_ (by first | omega | (simp; done) | (simp; omega)) _)
  have z0 : W.cell? ⟨w.heap.size, 0, none⟩ = some (.string o.name) := by rw [← hW]; simp [go_sem]
  have z2 : W.cell? ⟨w.heap.size, 2, none⟩ = some (.slice B m d) := by rw [← hW]; simp [go_sem]
  have z1 : W.cell? ⟨w.heap.size, 1, none⟩ = some (.slice A n c) := by rw [← hW]; simp [go_sem]
  have hgW : w.heap.size < W.heap.size := by rw [← hW]; simp
  have HZ : Hid (∀ W' : World, Below W.heap.size W W' → W'.cell? ⟨w.heap.size, 0, none⟩ = some (.string o.name) ∧ W'.cell? ⟨w.heap.size, 1, none⟩ = some (.slice A n c) ∧ W'.cell? ⟨w.heap.size, 2, none⟩ = some (.slice B m d)) := fun W' h => ⟨cell_keep hgW z0 h, cell_keep hgW z1 h, cell_keep hgW z2 h⟩
  have HRW : Hid (∀ W' : World, Below W.heap.size W W' → ∀ k, k < n → UAt W' A o.units k) := fun W' h k hk => ((HR.out k hk).below HBW.out).below h
  have HV : Hid (∀ W' : World, Below W.heap.size W W' → RdO W' (.agg #[.string o.name, .slice A n c, .slice B m d]) o) := fun W' h => (HV.out.below HBW.out).below h
  have HRI : Hid (∀ W' : World, Below W.heap.size W W' → RdI W' (.slice Aw nw cw) ws) := fun W' h => (HRI.out.below HBW.out).below h
  have HBO : Hid (∀ W' : World, Below W.heap.size W W' → Below w.heap.size w W') := fun W' h => bchain HBW.out h
  clear hW HR HBW hgW z0 z1 z2
  have HUN : Hid (∀ k, k < n → ∃ p, o.units[k]? = some p) := fun k hk => ⟨_, List.getElem?_eq_getElem (by rw [HN.out]; exact hk)⟩
  generalize hg : w.heap.size = g at HZ HBO ⊢
  have HG := Lib.hid hg
  clear hg
  go_wp2_with fail
  clear d0 d0' d1
  generalize hX : World.alloc W _ = X
  have HBX : Hid (Below W.heap.size W X) := by rw [← hX]; exact (Below.refl _ _).alloc (Nat.le_refl _) _
  have HBD : Hid (Bd X W.heap.size W.heap.size ByteArray.empty) := by rw [← hX]; exact bd_new W
  clear hX
  go_loopw [8] (fun i wr => ∃ (a f : Nat) (t : ByteArray), a ≤ nw ∧ i = .int .i64 a ∧ nw < f + a ∧ Hid (spellF o.units ws = spellR o.units ws f a t) ∧ Hid (t.size ≤ a * 1048576) ∧ Hid (Bd wr W.heap.size W.heap.size t) ∧ Hid (Below W.heap.size W wr)) (fun i _ => nw - (intOf i).toNat)
  case atStart => exact ⟨0, 25, _, Nat.zero_le _, rfl, by omega, HF.out, Nat.zero_le _, HBD.out, HBX.out⟩
  case round =>
    obtain ⟨a, f, t, ha, rfl, hf, HP, HT, HD, HB⟩ := hrel
    clear HF HBX HBD
    obtain ⟨f, rfl⟩ : ∃ f', f = f' + 1 := ⟨f - 1, by omega⟩
    have hbw : W.heap.size ≤ wr.heap.size := HB.out.size
    by_cases hla : a < nw
    · have HP2 : Hid (spellF o.units ws = if bestF o.units (ws.drop a) < 0 then (ByteArray.empty, a, 20) else spellR o.units ws f (a + (uS o.units (bestF o.units (ws.drop a))).length) (t ++ uG o.units (bestF o.units (ws.drop a)))) := by
        rw [Hid, HP.out, spellR, if_pos (by rw [HNW.out]; exact hla)]
      have dl : decide (a < nw) = true := by simpa using hla
      have ha0 : (0 : Int) ≤ (a : Int) := by omega
      have ha1 : (a : Int) ≤ (nw : Int) := by omega
      clear HP
      go_wp2_with fail
      refine wp_region_ord 4 [0, 1, 2, 3] [] [0, 1, 2, 3] [4, 5] (fun w' => Below wr.heap.size wr w') (by kernel_rfl) (by kernel_rfl) ?_
      rintro D hD
      have HSD : Hid (Below wr.heap.size wr D) := by rw [hD]; exact (Below.refl _ _).drew
      clear hD
      refine ⟨HSD.out, ?_⟩
      have HS : Hid (∀ w' : World, Below wr.heap.size wr w' → w'.cell? ⟨g, 0, none⟩ = some (.string o.name) ∧ w'.cell? ⟨g, 1, none⟩ = some (.slice A n c) ∧ w'.cell? ⟨g, 2, none⟩ = some (.slice B m d)) := fun w' h => HZ.out w' (bchain HB.out h)
      iterate 4 (refine wpHead_cons (v := ?_) rfl rfl (fun w' hS => ?_) ?_; rotate_left; (focus ((try obtain ⟨s0, s1, s2⟩ := HS.out _ (hS rfl)); clear hS; go_simp; try with_reducible rfl; done)); (try simp only [Act.put, List.setIfInBounds_toArray, List.set_cons_zero, List.set_cons_succ]))
      refine wpHead_nil ?_
      refine wpTail_cons rfl rfl (fun K hK => ?_)
      go_simp
      refine (unit_any _ _ o (ws.drop a) _ (HV.out _ (bchain HB.out HSD.out)) HSO.out ((HRI.out _ (bchain HB.out HSD.out)).drop ha) (by rw [List.length_drop, HNW.out]; omega)).mono ?_
      rintro e Y ⟨rfl, hb⟩
      refine hK.out _ _ (fun _ => bchain HSD.out hb) ?_
      clear hK K
      (try simp only [Act.put, List.setIfInBounds_toArray, List.set_cons_zero, List.set_cons_succ])
      have HXY := Lib.hid (bchain HSD.out hb)
      clear hb
      refine wpTail_rest 5 rfl ?_
      simp only [List.drop_succ_cons, List.drop_zero]
      go_wp2_with fail
      refine NoPanic.normal ?_
      have HBY : Hid (Below W.heap.size W Y) := bchain HB.out HXY.out
      have HDY : Hid (Bd Y W.heap.size W.heap.size t) := HD.out.below HXY.out
      have hby : W.heap.size ≤ Y.heap.size := HBY.out.size
      rcases bestF_range o.units (ws.drop a) with h | ⟨j, p, h, hp, hpr⟩
      · have HP3 : Hid (spellF o.units ws = (ByteArray.empty, a, 20)) := by rw [Hid, HP2.out, h, if_pos (by decide)]
        rw [h]
        clear HP2 h
        go_wp2_with fail
        go_ret3
        exact ⟨by rw [HP3.out]; rfl, by rw [HG.out]; exact HBO.out _ HBY.out⟩
      · have HP3 : Hid (spellF o.units ws = spellR o.units ws f (a + p.s.length) (t ++ p.g)) := by rw [Hid, HP2.out, h, if_neg (by omega), uS_at hp, uG_at hp]
        rw [h]
        have hjn : j < n := by rw [← HN.out]; exact (List.getElem?_eq_some_iff.1 hp).1
        obtain ⟨b, off, B2, m2, c2, hA, hbl, c0, c1, hrd, hnp⟩ := (HRW.out Y HBY.out j hjn).op hp
        subst hA
        have hgs : p.g.size ≤ 1048576 := HSO.out.graph p (List.mem_of_getElem? hp)
        have hts := HT.out
        have hpl := preR_len hpr
        have hgp := (HGD.out p (List.mem_of_getElem? hp)).2.1
        rw [List.length_drop, HNW.out, hnp.out] at hpl
        rw [hnp.out] at hgp
        have hj0 : (0 : Int) ≤ (j : Int) := by omega
        have hj1 : (j : Int) < (n : Int) := by omega
        have dj : decide ((j : Int) < 0) = false := by simp
        have HT2 : Hid ((t ++ p.g).size ≤ (a + m2) * 1048576) := by rw [Hid, ByteArray.size_append]; omega
        have htl : t.size ≤ 33554432 := by omega
        rw [hnp.out] at HP3
        have HPJ := Lib.hid hp
        clear HP2 h hp hpr HT hts hrd
        obtain ⟨z0, z1, z2⟩ := HZ.out Y HBY.out
        go_wp2_with fail
        refine (bd_write HDY.out (s := p.g) (by omega) hby).mono ?_
        rintro e w4 ⟨rfl, hd4, hb4⟩
        have HD4 := Lib.hid hd4
        have HB4 : Hid (Below W.heap.size W w4) := HBY.out.trans hb4
        clear hd4 hb4 c0 c1 z0 z1 z2
        obtain ⟨b', off', B3, m3, c3, hA, hbl', _, c1, _, hnp'⟩ := (HRW.out w4 HB4.out j hjn).op HPJ.out
        cases hA
        obtain ⟨z0, z1, z2⟩ := HZ.out w4 HB4.out
        obtain rfl : m3 = m2 := by rw [← hnp.out, ← hnp'.out]
        go_wp2_with fail
        go_roundw
        case rel => exact ⟨a + m3, f, _, by omega, by go_num, by omega, HP3.out, HT2.out, HD4.out, HB4.out⟩
        case measure => simp [intOf]; omega
    · have HP2 : Hid (spellF o.units ws = (t, 0, 0)) := by rw [Hid, HP.out, spellR, if_neg (by rw [HNW.out]; exact hla)]
      have dl : decide (a < nw) = false := by simpa using hla
      clear HP
      go_wp2_with fail
      refine (bd_text HD.out hbw).mono ?_
      rintro e w4 ⟨rfl, hb4⟩
      have HB4 : Hid (Below W.heap.size W w4) := HB.out.trans hb4
      clear hb4
      go_wp2_with fail
      go_ret3
      exact ⟨by rw [HP2.out]; rfl, by rw [HG.out]; exact HBO.out _ HB4.out⟩
end Go.Proofs.YtiopgbbggeimaaaGreat

/-
  Convert, Same, Normal, Faithful of both sides, and Exact (printed by gen21w.py).
-/
namespace Go.Proofs.YtiopgbbggeimaaaGreat
open Go.ChangeShapes Go.WideShapes Go.ChangeAt Go.RowKit
theorem readF_len (us : List PU) (s : ByteArray) : (readF us s).1.length ≤ 24 := by
  rw [readF]
  split
  · simp
  · split
    · simp
    · split
      · simp
      · simp only; omega
theorem spellR_size (us : List PU) (w : List Int) (hs : ∀ u ∈ us, SmS u.g) : ∀ (f a : Nat) (t : ByteArray) (k : Nat), t.size ≤ k * 1048576 → (spellR us w f a t).1.size ≤ (k + f) * 1048576
  | 0, a, t, k, h => by simpa [spellR] using h
  | f + 1, a, t, k, h => by
    rw [spellR]
    split
    · split
      · simp
      · have h1 : (uG us (bestF us (w.drop a))).size ≤ 1048576 := by
          rcases bestF_range us (w.drop a) with h2 | ⟨j, p, h2, h3, _⟩
          · rename_i h4; rw [h2] at h4; exact absurd (by decide) h4
          · rw [h2, uG_at h3]; exact hs p (List.mem_of_getElem? h3)
        have := spellR_size us w hs f (a + (uS us (bestF us (w.drop a))).length) (t ++ uG us (bestF us (w.drop a))) (k + 1) (by rw [ByteArray.size_append]; omega)
        rw [show k + (f + 1) = k + 1 + f by omega]
        exact this
    · exact Nat.le_trans h (Nat.mul_le_mul_right _ (by omega))
theorem empty_le (k : Nat) : ByteArray.empty.size ≤ k := Nat.zero_le k
theorem spellF_size (us : List PU) (w : List Int) (hs : ∀ u ∈ us, SmS u.g) : (spellF us w).1.size ≤ 67108864 := by
  rw [spellF]
  split
  · exact empty_le 67108864
  · split
    · exact empty_le 67108864
    · have := spellR_size us w hs 25 0 ByteArray.empty 0 (empty_le (0 * 1048576))
      omega
def convF (a b : List PU) (s : ByteArray) : ByteArray × Nat × Int := if (readF a s).2.2 = 0 then spellF b (readF a s).1 else (ByteArray.empty, (readF a s).2.1, (readF a s).2.2)
def exactF (o : List PU) (w : List Int) : Bool := (spellF o w).2.2 == 0 && (readF o (spellF o w).1).2.2 == 0 && sameB (readF o (spellF o w).1).1 w
/-- two orthographies in boxes: the cells of the second, behind the first -/
theorem two_boxes (w : World) (x y : Array Value) (t u : TypeId) : Below w.heap.size w ((w.alloc (.cells x t)).alloc (.cells y u)) := by
  refine ((Below.refl _ _).alloc (Nat.le_refl _) _).alloc ?_ _
  simp
set_option maxHeartbeats 4000000 in
set_option maxRecDepth 100000 in
theorem convert_any (va vb : Value) (a b : PO) (s : ByteArray) (w : World) (hA : RdO w va a) (hB : RdO w vb b) (hsa : SmO a) (hsb : SmO b) (hga : ∀ p ∈ a.units, GoodU p) (hgb : ∀ p ∈ b.units, GoodU p) (hs : s.size ≤ 67108864) :
    Calls Tryz.prog 13 #[va, vb, .string s] w fun e w' => RetT (convF a.units b.units s) e ∧ Below w.heap.size w w' := by
  have HSA := Lib.hid hsa
  have HSB := Lib.hid hsb
  have HGA := Lib.hid hga
  have HGB := Lib.hid hgb
  clear hsa hsb hga hgb
  have HA := Lib.hid hA
  obtain ⟨vuA, vlA, rfl, huA, hlA⟩ := hA
  obtain ⟨AA, nA, cA, rfl, _, _, _, _⟩ := huA.op
  obtain ⟨BA, mA, dA, rfl, _, _, _, _⟩ := hlA.op
  clear huA hlA
  have HB := Lib.hid hB
  obtain ⟨vuB, vlB, rfl, huB, hlB⟩ := hB
  obtain ⟨AB, nB, cB, rfl, _, _, _, _⟩ := huB.op
  obtain ⟨BB, mB, dB, rfl, _, _, _, _⟩ := hlB.op
  clear huB hlB
  go_enter Tryz.func13, Tryz.ntmps13
  go_upto_region 1 with (fail)
  generalize hW : World.alloc (World.alloc w _) _ = W
  have HBW : Hid (Below w.heap.size w W) := by rw [← hW]; exact two_boxes _ _ _ _ _
  have z0 : W.cell? ⟨w.heap.size, 0, none⟩ = some (.string a.name) := by rw [← hW]; simp [go_sem]
  have z1 : W.cell? ⟨w.heap.size, 1, none⟩ = some (.slice AA nA cA) := by rw [← hW]; simp [go_sem]
  have z2 : W.cell? ⟨w.heap.size, 2, none⟩ = some (.slice BA mA dA) := by rw [← hW]; simp [go_sem]
  have y0 : W.cell? ⟨w.heap.size + 1, 0, none⟩ = some (.string b.name) := by rw [← hW]; simp [go_sem]
  have y1 : W.cell? ⟨w.heap.size + 1, 1, none⟩ = some (.slice AB nB cB) := by rw [← hW]; simp [go_sem]
  have y2 : W.cell? ⟨w.heap.size + 1, 2, none⟩ = some (.slice BB mB dB) := by rw [← hW]; simp [go_sem]
  have hgW : w.heap.size < W.heap.size := by rw [← hW]; simp; omega
  have hgW2 : w.heap.size + 1 < W.heap.size := by rw [← hW]; simp
  have HZ : Hid (∀ W' : World, Below W.heap.size W W' → W'.cell? ⟨w.heap.size, 0, none⟩ = some (.string a.name) ∧ W'.cell? ⟨w.heap.size, 1, none⟩ = some (.slice AA nA cA) ∧ W'.cell? ⟨w.heap.size, 2, none⟩ = some (.slice BA mA dA)) := fun W' h => ⟨cell_keep hgW z0 h, cell_keep hgW z1 h, cell_keep hgW z2 h⟩
  have HY : Hid (∀ W' : World, Below W.heap.size W W' → W'.cell? ⟨w.heap.size + 1, 0, none⟩ = some (.string b.name) ∧ W'.cell? ⟨w.heap.size + 1, 1, none⟩ = some (.slice AB nB cB) ∧ W'.cell? ⟨w.heap.size + 1, 2, none⟩ = some (.slice BB mB dB)) := fun W' h => ⟨cell_keep hgW2 y0 h, cell_keep hgW2 y1 h, cell_keep hgW2 y2 h⟩
  have HVA : Hid (∀ W' : World, Below W.heap.size W W' → RdO W' (.agg #[.string a.name, .slice AA nA cA, .slice BA mA dA]) a) := fun W' h => (HA.out.below HBW.out).below h
  have HVB : Hid (∀ W' : World, Below W.heap.size W W' → RdO W' (.agg #[.string b.name, .slice AB nB cB, .slice BB mB dB]) b) := fun W' h => (HB.out.below HBW.out).below h
  have HBO : Hid (∀ W' : World, Below W.heap.size W W' → Below w.heap.size w W') := fun W' h => bchain HBW.out h
  clear hW HBW hgW hgW2 z0 z1 z2 y0 y1 y2
  generalize hg : w.heap.size = g at HZ HY HBO ⊢
  have HG := Lib.hid hg
  clear hg
  obtain ⟨z0, z1, z2⟩ := HZ.out W (Below.refl _ _)
  have HL : Hid ((readF a.units s).1.length ≤ 24) := readF_len _ _
  have HC : Hid (convF a.units b.units s = if (readF a.units s).2.2 = 0 then spellF b.units (readF a.units s).1 else (ByteArray.empty, (readF a.units s).2.1, (readF a.units s).2.2)) := rfl
  have HCALL : Hid (Calls Tryz.prog _ _ _ _) := (read_any _ a s _ (HVA.out W (Below.refl _ _)) HSA.out HGA.out hs)
  generalize hr : readF a.units s = r at HL HC HCALL
  clear hr
  go_wp2_with fail
  refine (HCALL.out).mono ?_
  rintro e w1 ⟨⟨v1, rfl, ho⟩, hb⟩
  obtain ⟨A1, n1, c1, rfl, _, _, _, _⟩ := ho.rd.op
  have HO := Lib.hid ho.rd
  have HB1 := Lib.hid hb
  clear ho hb z0 z1 z2 HCALL
  obtain ⟨y0, y1, y2⟩ := HY.out w1 HB1.out
  by_cases h0 : r.2.2 = 0
  · have d0 : (r.2.2 != 0) = false := by simp [h0]
    have HC2 : Hid (convF a.units b.units s = spellF b.units r.1) := by rw [Hid, HC.out, if_pos h0]
    clear HC h0
    go_wp2_with fail
    refine (spell_any _ _ b r.1 _ (HVB.out _ HB1.out) HSB.out HGB.out HO.out (by have := HL.out; omega)).mono ?_
    rintro e w2 ⟨he, hb⟩
    obtain rfl := he
    have HB2 := Lib.hid (bchain HB1.out hb)
    clear hb
    go_wp2_with fail
    go_ret3
    exact ⟨by rw [HC2.out]; rfl, by rw [HG.out]; exact HBO.out _ HB2.out⟩
  · have d0 : (r.2.2 != 0) = true := by simp [h0]
    have HC2 : Hid (convF a.units b.units s = (ByteArray.empty, r.2.1, r.2.2)) := by rw [Hid, HC.out, if_neg h0]
    clear HC h0
    go_wp2_with fail
    go_ret3
    exact ⟨by rw [HC2.out]; rfl, by rw [HG.out]; exact HBO.out _ HB1.out⟩
set_option maxHeartbeats 4000000 in
set_option maxRecDepth 100000 in
theorem exact_any (va vw : Value) (a : PO) (ws : List Int) (w : World) (hA : RdO w va a) (hsa : SmO a) (hga : ∀ p ∈ a.units, GoodU p) (hw : RdI w vw ws) (hl : ws.length ≤ 1000000000) :
    Calls Tryz.prog 7 #[va, vw] w fun e w' => e = .returned (.bool (exactF a.units ws)) ∧ Below w.heap.size w w' := by
  have HSA := Lib.hid hsa
  have HGA := Lib.hid hga
  have HWS := Lib.hid hw
  obtain ⟨Aw, nw, cw, rfl, _, _, _, _⟩ := hw.op
  clear hsa hga hw
  have HA := Lib.hid hA
  obtain ⟨vuA, vlA, rfl, huA, hlA⟩ := hA
  obtain ⟨AA, nA, cA, rfl, _, _, _, _⟩ := huA.op
  obtain ⟨BA, mA, dA, rfl, _, _, _, _⟩ := hlA.op
  clear huA hlA
  go_enter Tryz.func7, Tryz.ntmps7
  go_upto_region 1 with (fail)
  generalize hW : World.alloc w _ = W
  have HBW : Hid (Below w.heap.size w W) := by rw [← hW]; repeat (first | assumption | exact Below.refl _ _ | refine Below.alloc ?_ (by first | omega | (simp; done) | (simp; omega)) _ | refine Below.drew ?_ | refine below_drewN ?_ _ | refine Below.setCell ?_ (by first | omega | (simp; done) | (simp; omega)) _)
  have z0 : W.cell? ⟨w.heap.size, 0, none⟩ = some (.string a.name) := by rw [← hW]; simp [go_sem]
  have z1 : W.cell? ⟨w.heap.size, 1, none⟩ = some (.slice AA nA cA) := by rw [← hW]; simp [go_sem]
  have z2 : W.cell? ⟨w.heap.size, 2, none⟩ = some (.slice BA mA dA) := by rw [← hW]; simp [go_sem]
  have hgW : w.heap.size < W.heap.size := by rw [← hW]; simp
  have HZ : Hid (∀ W' : World, Below W.heap.size W W' → W'.cell? ⟨w.heap.size, 0, none⟩ = some (.string a.name) ∧ W'.cell? ⟨w.heap.size, 1, none⟩ = some (.slice AA nA cA) ∧ W'.cell? ⟨w.heap.size, 2, none⟩ = some (.slice BA mA dA)) := fun W' h => ⟨cell_keep hgW z0 h, cell_keep hgW z1 h, cell_keep hgW z2 h⟩
  have HVA : Hid (∀ W' : World, Below W.heap.size W W' → RdO W' (.agg #[.string a.name, .slice AA nA cA, .slice BA mA dA]) a) := fun W' h => (HA.out.below HBW.out).below h
  have HBO : Hid (∀ W' : World, Below W.heap.size W W' → Below w.heap.size w W') := fun W' h => bchain HBW.out h
  have HWS : Hid (∀ W' : World, Below W.heap.size W W' → RdI W' (.slice Aw nw cw) ws) := fun W' h => (HWS.out.below HBW.out).below h
  clear hW HBW hgW z0 z1 z2
  generalize hg : w.heap.size = g at HZ HBO ⊢
  have HG := Lib.hid hg
  clear hg
  obtain ⟨z0, z1, z2⟩ := HZ.out W (Below.refl _ _)
  have HC : Hid (exactF a.units ws = ((spellF a.units ws).2.2 == 0 && (readF a.units (spellF a.units ws).1).2.2 == 0 && sameB (readF a.units (spellF a.units ws).1).1 ws)) := rfl
  have HQS : Hid ((spellF a.units ws).1.size ≤ 67108864) := spellF_size _ _ HSA.out.graph
  have HCALL : Hid (Calls Tryz.prog _ _ _ _) := (spell_any _ _ a ws _ (HVA.out W (Below.refl _ _)) HSA.out HGA.out (HWS.out W (Below.refl _ _)) hl)
  generalize hr : spellF a.units ws = r at HC HCALL HQS
  clear hr
  go_wp2_with fail
  refine (HCALL.out).mono ?_
  rintro e w1 ⟨he, hb⟩
  obtain rfl := he
  have HB1 := Lib.hid hb
  clear hb z0 z1 z2 HCALL
  obtain ⟨z0, z1, z2⟩ := HZ.out w1 HB1.out
  by_cases h0 : r.2.2 = 0
  rotate_left
  · have d0 : (r.2.2 != 0) = true := by simp [h0]
    have HC2 : Hid (exactF a.units ws = false) := by rw [Hid, HC.out, beq_false_of_ne h0]; rfl
    clear HC h0
    go_wp2_with fail
    go_ret
    exact ⟨by rw [HC2.out]; rfl, by rw [HG.out]; exact HBO.out _ HB1.out⟩
  have d0 : (r.2.2 != 0) = false := by simp [h0]
  have HC3 : Hid (exactF a.units ws = ((readF a.units r.1).2.2 == 0 && sameB (readF a.units r.1).1 ws)) := by rw [Hid, HC.out, h0]; rfl
  clear HC h0
  have HCALL : Hid (Calls Tryz.prog _ _ _ _) := (read_any _ a r.1 w1 (HVA.out w1 HB1.out) HSA.out HGA.out HQS.out)
  generalize hq : readF a.units r.1 = q at HC3 HCALL
  clear hq
  go_wp2_with fail
  refine (HCALL.out).mono ?_
  rintro e w2 ⟨⟨v2, rfl, ho⟩, hb⟩
  obtain ⟨A2, n2, c2, rfl, _, _, _, _⟩ := ho.rd.op
  have HO2 := Lib.hid ho.rd
  have HB2 := Lib.hid (bchain HB1.out hb)
  clear ho hb z0 z1 z2 HCALL
  cases h1 : (q.2.2 == 0)
  · have HC2 : Hid (exactF a.units ws = false) := by rw [Hid, HC3.out, h1]; rfl
    clear HC3
    go_wp2_with fail
    go_ret
    exact ⟨by rw [HC2.out]; rfl, by rw [HG.out]; exact HBO.out _ HB2.out⟩
  have HC2 : Hid (exactF a.units ws = sameB q.1 ws) := by rw [Hid, HC3.out, h1]; rfl
  clear HC3
  go_wp2_with fail
  refine (equal_any _ _ q.1 ws _ HO2.out (HWS.out _ HB2.out)).mono ?_
  rintro e w3 ⟨rfl, nq, rfl⟩
  go_wp2_with fail
  go_ret
  exact ⟨by rw [HC2.out]; rfl, by rw [HG.out]; exact HBO.out _ (below_drewN HB2.out _)⟩
end Go.Proofs.YtiopgbbggeimaaaGreat

