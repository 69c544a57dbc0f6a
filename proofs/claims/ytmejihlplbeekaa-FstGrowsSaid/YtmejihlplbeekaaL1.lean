/-
  Lists of lists that are read; the reference's Equal.
-/
import Derived.Test.YtmejihlplbeekaaG7
namespace Go.Proofs.Ytmejihlplbeekaa
open Go.ChangeShapes Go.WideShapes Go.ChangeAt Go.RowKit
def RdL (w : World) (v : Value) (Ls : List (List Int)) : Prop := ∃ us : List Value, Rd w 1 v Ls.length us ∧ us.length = Ls.length ∧ ∀ (i : Nat) (u : Value) (l : List Int), us[i]? = some u → Ls[i]? = some l → RdI w u l
theorem RdL.below {w w' : World} {v : Value} {Ls : List (List Int)} (h : RdL w v Ls) (hb : Below w.heap.size w w') : RdL w' v Ls := by
  obtain ⟨us, h1, h2, h3⟩ := h
  exact ⟨us, Rd.below h1 hb, h2, fun i u l hu hl => (h3 i u l hu hl).below hb⟩
theorem OwnL.rd {w : World} {base : Nat} {v : Value} {Ls : List (List Int)} (h : OwnL w base v Ls) : RdL w v Ls := by
  obtain ⟨us, h1, h2, h3⟩ := h
  exact ⟨us, Rd.own h1, h2, fun i u l hu hl => (h3 i u l hu hl).rd⟩
def LAt (w : World) (A : Option Addr) (Ls : List (List Int)) (k : Nat) : Prop :=
  ∃ b off B m cm l, A = some ⟨b, off, none⟩ ∧ b < w.heap.size ∧ Hid (Ls.drop k = l :: Ls.drop (k + 1)) ∧ w.cell? ⟨b, off + k, none⟩ = some (.slice B m cm) ∧ Hid (RdI w (.slice B m cm) l)
theorem RdL.op {w : World} {v : Value} {Ls : List (List Int)} (h : RdL w v Ls) : ∃ (A : Option Addr) (n c : Nat), v = .slice A n c ∧ n ≤ c ∧ c ≤ 9223372036854775807 ∧ Hid (Ls.length = n) ∧
    Hid (∀ k, k < n → LAt w A Ls k) := by
  obtain ⟨us, ⟨A, c, rfl, h1, h2, h3, h4⟩, h5, h6⟩ := h
  refine ⟨A, _, c, rfl, h1, h2, rfl, fun k hk => ?_⟩
  obtain ⟨b, off, rfl, hb, hc⟩ := h4 (by omega)
  have hu : us[k]? = some (us[k]'(by omega)) := List.getElem?_eq_getElem (by omega)
  have hl : Ls[k]? = some (Ls[k]'hk) := List.getElem?_eq_getElem hk
  have h7 := h6 k _ _ hu hl
  obtain ⟨B, m, cm, he, _, _, _, _⟩ := h7.op
  have h8 := hc k _ hu
  rw [he] at h7 h8
  exact ⟨b, off, B, m, cm, Ls[k], rfl, hb, List.drop_eq_getElem_cons hk, h8, h7⟩
theorem take_drop_eq {α : Type} {a b : List α} {k : Nat} {x y : α} {r s : List α} (ha : a.drop k = x :: r) (hb : b.drop k = y :: s) : a.take (k + 1) = b.take (k + 1) ↔ a.take k = b.take k ∧ x = y := by
  have hka : k < a.length := by
    rcases Nat.lt_or_ge k a.length with h | h
    · exact h
    · rw [List.drop_of_length_le h] at ha; cases ha
  have hkb : k < b.length := by
    rcases Nat.lt_or_ge k b.length with h | h
    · exact h
    · rw [List.drop_of_length_le h] at hb; cases hb
  rw [List.drop_eq_getElem_cons hka] at ha
  rw [List.drop_eq_getElem_cons hkb] at hb
  rw [List.take_succ_eq_append_getElem hka, List.take_succ_eq_append_getElem hkb, (List.cons.inj ha).1, (List.cons.inj hb).1]
  constructor
  · intro h
    have := List.append_inj h (by simp; omega)
    exact ⟨this.1, by simpa using this.2⟩
  · rintro ⟨h1, h2⟩; rw [h1, h2]
set_option maxHeartbeats 2000000 in
theorem requal_any (v u : Value) (a b : List (List Int)) (w : World) (hv : RdL w v a) (hu : RdL w u b) :
    Calls Try.prog 21 #[v, u] w fun e w' => e = .returned (.bool (decide (a = b))) ∧ Below w.heap.size w w' := by
  obtain ⟨A, n, c, rfl, h1, h2, HN, hr⟩ := hv.op
  obtain ⟨A', n', c', rfl, h1', h2', HN', hr'⟩ := hu.op
  clear hv hu
  go_enter Try.func21, Try.ntmps21
  by_cases hn : n = n'
  · subst hn
    have hne : ((n : Int) != (n : Int)) = false := by simp
    go_wp2_with fail
    clear hne
    go_loopw [5] (fun i wr => ∃ k nq : Nat, k ≤ n ∧ i = .int .i64 k ∧ wr = w.drewN nq ∧ Hid (a.take k = b.take k)) (fun i _ => n - (intOf i).toNat)
    case atStart => exact ⟨0, 0, Nat.zero_le _, rfl, rfl, rfl⟩
    case round =>
      obtain ⟨k, nq, hk, rfl, rfl, HP⟩ := hrel
      by_cases hlt : k < n
      · obtain ⟨p, off, B, m, cm, l, rfl, hb, hd, hck, hl⟩ := hr.out k hlt
        obtain ⟨p', off', B', m', cm', l', rfl, hb', hd', hck', hl'⟩ := hr'.out k hlt
        have HT := Lib.hid (take_drop_eq hd.out hd'.out)
        obtain ⟨_, _, _, he1, hm1, hm2, HL, hx⟩ := hl.out.op
        cases he1
        obtain ⟨_, _, _, he2, hm1', hm2', HL', hx'⟩ := hl'.out.op
        cases he2
        have hk0 : (0 : Int) ≤ (k : Int) := by omega
        by_cases hm : m = m'
        · subst hm
          have hme : ((m : Int) != (m : Int)) = false := by simp
          go_wp2_with fail
          go_quiet (fail)
          clear hme
          go_wp2_with fail
          go_loopw [6] (fun i wr => ∃ j nr : Nat, j ≤ m ∧ i = .int .i64 j ∧ wr = w.drewN nr ∧ Hid (l.take j = l'.take j)) (fun i _ => m - (intOf i).toNat)
          case atStart => exact ⟨0, _, Nat.zero_le _, rfl, World.drewN_drewN _ _ _, rfl⟩
          case round =>
            obtain ⟨j, nr, hj, rfl, rfl, HQ⟩ := hrel
            by_cases hjm : j < m
            · obtain ⟨g, og, x, rfl, hg, hgd, hgc⟩ := hx.out j hjm
              obtain ⟨g', og', x', rfl, hg', hgd', hgc'⟩ := hx'.out j hjm
              have HT2 := Lib.hid (take_drop_eq hgd.out hgd'.out)
              have hj0 : (0 : Int) ≤ (j : Int) := by omega
              by_cases hxy : x = x'
              · have hb1 : (x != x') = false := by simpa using hxy
                have HS2 : Hid (l.take (j + 1) = l'.take (j + 1)) := HT2.out.2 ⟨HQ.out, hxy⟩
                clear hxy
                go_wp2_with fail
                go_quiet (fail)
                go_wp2_with fail
                go_roundw
                case rel => exact ⟨j + 1, _, by omega, by go_num, rfl, HS2.out⟩
                case measure => simp [intOf]; omega
              · have hb1 : (x != x') = true := by simpa using hxy
                have HS2 : Hid (a ≠ b) := by
                  rintro rfl
                  have h3 := hd.out.symm.trans hd'.out
                  rw [(List.cons.inj h3).1] at HT2
                  exact hxy (HT2.out.1 rfl).2
                clear hxy
                go_wp2_with fail
                go_quiet (fail)
                go_wp2_with fail
                go_ret
                exact ⟨by rw [decide_eq_false HS2.out]; rfl, by repeat (first | assumption | exact Below.refl _ _ | refine Below.alloc ?_ (by first | omega | (simp; done) | (simp; omega)) _ | refine Below.drew ?_ | refine below_drewN ?_ _ | refine Below.setCell ?_ (by first | omega | (simp; done) | (simp; omega)) _)⟩
            · have HS2 : Hid (a.take (k + 1) = b.take (k + 1)) := HT.out.2 ⟨HP.out, by
                have h3 := HQ.out
                rwa [List.take_of_length_le (by rw [HL.out]; omega), List.take_of_length_le (by rw [HL'.out]; omega)] at h3⟩
              go_wp2_with fail
              go_roundw
              case rel => exact ⟨k + 1, _, by omega, by go_num, rfl, HS2.out⟩
              case measure => simp [intOf]; omega
        · have hme : ((m : Int) != (m' : Int)) = true := by simp; omega
          have HS2 : Hid (a ≠ b) := by
            rintro rfl
            have h3 := hd.out.symm.trans hd'.out
            have h4 := congrArg List.length (List.cons.inj h3).1
            rw [HL.out, HL'.out] at h4
            exact hm h4
          clear hm
          go_wp2_with fail
          go_quiet (fail)
          go_wp2_with fail
          go_ret
          exact ⟨by rw [decide_eq_false HS2.out]; rfl, by repeat (first | assumption | exact Below.refl _ _ | refine Below.alloc ?_ (by first | omega | (simp; done) | (simp; omega)) _ | refine Below.drew ?_ | refine below_drewN ?_ _ | refine Below.setCell ?_ (by first | omega | (simp; done) | (simp; omega)) _)⟩
      · have HS2 : Hid (a = b) := by
          have h3 := HP.out
          rwa [List.take_of_length_le (by rw [HN.out]; omega), List.take_of_length_le (by rw [HN'.out]; omega)] at h3
        go_wp2_with fail
        go_ret
        exact ⟨by rw [decide_eq_true HS2.out]; rfl, by repeat (first | assumption | exact Below.refl _ _ | refine Below.alloc ?_ (by first | omega | (simp; done) | (simp; omega)) _ | refine Below.drew ?_ | refine below_drewN ?_ _ | refine Below.setCell ?_ (by first | omega | (simp; done) | (simp; omega)) _)⟩
  · have hne : ((n : Int) != (n' : Int)) = true := by simp; omega
    have HS2 : Hid (a ≠ b) := by rintro rfl; exact hn (HN.out.symm.trans HN'.out)
    clear hn
    go_wp2_with fail
    go_ret
    exact ⟨by rw [decide_eq_false HS2.out]; rfl, by repeat (first | assumption | exact Below.refl _ _ | refine Below.alloc ?_ (by first | omega | (simp; done) | (simp; omega)) _ | refine Below.drew ?_ | refine below_drewN ?_ _ | refine Below.setCell ?_ (by first | omega | (simp; done) | (simp; omega)) _)⟩
end Go.Proofs.Ytmejihlplbeekaa
