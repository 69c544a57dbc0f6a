/-
  longest of the reference of orthographies.
-/
import Derived.Test.YtokbclpdpegicaaW12
namespace Go.Proofs.Ytokbclpdpegicaa
open Go.ChangeShapes Go.WideShapes Go.ChangeAt Go.RowKit
def longR (s : ByteArray) : List PU → Nat → Int → Nat → Int
  | [], _, b, _ => b
  | p :: r, i, b, m => if begB s p.g = true ∧ (b < 0 ∨ m < p.g.size) then longR s r (i + 1) i p.g.size else longR s r (i + 1) b m
/-- the first unit with the longest graph with which s begins; -1 if there is none -/
def longF (us : List PU) (s : ByteArray) : Int := longR s us 0 (-1) 0
set_option maxHeartbeats 4000000 in
set_option maxRecDepth 100000 in
theorem longest_any (v : Value) (o : PO) (s : ByteArray) (w : World) (hv : RdO w v o) (hso : SmO o) (hs : s.size ≤ 67108864) :
    Calls Try.prog 57 #[v, .string s] w fun e w' => e = .returned (.int .i64 (longF o.units s)) ∧ Below w.heap.size w w' := by
  obtain ⟨vu, vl, rfl, hu, hl⟩ := hv
  obtain ⟨A, n, c, rfl, hnc, hcm, HN, HR⟩ := hu.op
  obtain ⟨B, m, d, rfl, _, _, _, _⟩ := hl.op
  have HSO := Lib.hid hso
  have hn2 : n ≤ 1048576 := by rw [← HN.out]; exact hso.units
  clear hu hl hso
  go_enter Try.func57, Try.ntmps57
  go_upto_region 1 with (fail)
  generalize hW : World.alloc w _ = W
  have HBW : Hid (Below w.heap.size w W) := by rw [← hW]; repeat (first | assumption | exact Below.refl _ _ | refine Below.alloc ?_ (by first | omega | (simp; done) | (simp; omega)) _ | refine Below.drew ?_ | refine below_drewN ?_ _ | refine Below.setCell ?_ (by first | omega | (simp; done) | (simp; omega)) _)
  have z1 : W.cell? ⟨w.heap.size, 1, none⟩ = some (.slice A n c) := by rw [← hW]; simp [go_sem]
  have HRW : Hid (∀ k, k < n → UAt W A o.units k) := fun k hk => (HR.out k hk).below HBW.out
  clear hW HR
  have HU : Hid (∀ k, k < n → ∀ p r, o.units.drop k = p :: r → o.units[k]? = some p) := fun k _ p r h => by
    have := congrArg (fun l => l[0]?) h
    simpa [List.getElem?_drop] using this
  generalize hg : w.heap.size = g at z1 HBW ⊢
  have HG := Lib.hid hg
  clear hg
  go_wp2_with fail
  go_loop [5, 6, 7] (fun b i _ => ∃ (k : Nat) (bi : Int) (q : Nat), k ≤ n ∧ i = .int .i64 k ∧ b = .int .i64 bi ∧ Hid (longF o.units s = longR s (o.units.drop k) k bi q) ∧ Hid (bi = -1 ∨ ∃ j : Nat, j < k ∧ bi = j ∧ ∃ p, o.units[j]? = some p ∧ p.g.size = q)) (fun _ i _ => n - (intOf i).toNat)
  case atStart => exact ⟨0, -1, 0, Nat.zero_le _, rfl, rfl, rfl, .inl rfl⟩
  case round =>
    obtain ⟨k, bi, q, hk, rfl, rfl, HP, HJ⟩ := hrel
    by_cases hlt : k < n
    · obtain ⟨b, off, B2, m2, c2, p, rfl, hbl, hdr, c0, c1, _⟩ := HRW.out k hlt
      have hgs : p.g.size ≤ 1048576 := HSO.out.graph p (List.mem_of_mem_drop (by rw [hdr.out]; exact List.mem_cons_self))
      have HP2 : Hid (longF o.units s = if begB s p.g = true ∧ (bi < 0 ∨ q < p.g.size) then longR s (o.units.drop (k + 1)) (k + 1) k p.g.size else longR s (o.units.drop (k + 1)) (k + 1) bi q) := by rw [Hid, HP.out, hdr.out]; rfl
      have HPK := Lib.hid (HU.out k hlt p _ hdr.out)
      clear HP hdr c1
      go_wp2_with fail
      refine (begins17_any s p.g _ hs hgs).mono ?_
      rintro e w2 ⟨rfl, rfl⟩
      cases hbg : begB s p.g
      · have HP3 : Hid (longF o.units s = longR s (o.units.drop (k + 1)) (k + 1) bi q) := by rw [Hid, HP2.out, if_neg (by simp [hbg])]
        clear hbg HP2
        go_wp2_with fail
        go_round
        case rel => exact ⟨k + 1, bi, q, by omega, by go_num, rfl, HP3.out, HJ.out.imp id fun ⟨j, h1, h2⟩ => ⟨j, by omega, h2⟩⟩
        case measure => simp [intOf]; omega
      · rcases HJ.out with h | ⟨j, hj, h, pj, hpj, hq⟩
        · subst h
          have HP3 : Hid (longF o.units s = longR s (o.units.drop (k + 1)) (k + 1) k p.g.size) := by rw [Hid, HP2.out, if_pos ⟨hbg, .inl (by omega)⟩]
          clear hbg HP2 HJ
          go_wp2_with fail
          go_round
          case rel => exact ⟨k + 1, k, p.g.size, by omega, by go_num, rfl, HP3.out, .inr ⟨k, by omega, rfl, p, HPK.out, rfl⟩⟩
          case measure => simp [intOf]; omega
        · subst h
          obtain ⟨b', off', B3, m3, c3, p', hA, hbl', hdr', e0, _, _⟩ := HRW.out j (by omega)
          cases hA
          have hpp : p' = pj := by
            have := HU.out j (by omega) p' _ hdr'.out
            rw [hpj] at this
            exact (Option.some.inj this).symm
          subst hpp
          have HJK := Lib.hid hpj
          have dj : decide ((j : Int) < 0) = false := by simp
          have hj0 : (0 : Int) ≤ (j : Int) := by omega
          have hj1 : (j : Int) < (n : Int) := by omega
          clear hdr' hpj
          by_cases hsz : p'.g.size < p.g.size
          · have d1 : decide ((p'.g.size : Int) < (p.g.size : Int)) = true := by simp; omega
            have HP3 : Hid (longF o.units s = longR s (o.units.drop (k + 1)) (k + 1) k p.g.size) := by rw [Hid, HP2.out, if_pos ⟨hbg, .inr (by omega)⟩]
            clear hbg HP2 HJ
            go_wp2_with fail
            go_round
            case rel => exact ⟨k + 1, k, p.g.size, by omega, by go_num, rfl, HP3.out, .inr ⟨k, by omega, rfl, p, HPK.out, rfl⟩⟩
            case measure => simp [intOf]; omega
          · have d1 : decide ((p'.g.size : Int) < (p.g.size : Int)) = false := by simp; omega
            have HP3 : Hid (longF o.units s = longR s (o.units.drop (k + 1)) (k + 1) j q) := by rw [Hid, HP2.out, if_neg (by rintro ⟨_, h | h⟩ <;> omega)]
            have HQ := Lib.hid hq
            clear hbg HP2 HJ hq
            go_wp2_with fail
            go_round
            case rel => exact ⟨k + 1, j, q, by omega, by go_num, rfl, HP3.out, .inr ⟨j, by omega, rfl, p', HJK.out, HQ.out⟩⟩
            case measure => simp [intOf]; omega
    · have HP3 : Hid (longF o.units s = bi) := by rw [Hid, HP.out, List.drop_of_length_le (by rw [HN.out]; omega)]; rfl
      clear HP
      go_wp2_with fail
      go_ret
      exact ⟨by rw [HP3.out]; rfl, by rw [HG.out]; exact HBW.out⟩
end Go.Proofs.Ytokbclpdpegicaa
