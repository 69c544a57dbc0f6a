/-
  The reference: Senses, Join, Part.
-/
import Derived.Test.YtnjniganlielcaaV15
namespace Go.Proofs.Ytnjniganlielcaa
open Go.ChangeShapes Go.WideShapes Go.ChangeAt Go.RowKit
theorem wayL_get (L : List EV) : ∀ (k : Nat) (id : Int) (x : EV), x ∈ wayL L k id → getE L x.id = some x
  | 0, _, _, h => by simp [wayL] at h
  | k + 1, id, x, h => by
    rw [wayL] at h
    rcases hg : getE L id with _ | e
    · rw [hg] at h; simp at h
    · rw [hg] at h
      simp only [List.mem_cons] at h
      rcases h with rfl | h
      · rw [getE_id hg]; exact hg
      · by_cases hz : e.main = 0
        · rw [if_pos hz] at h; simp at h
        · rw [if_neg hz] at h
          exact wayL_get L k _ x h
theorem set_up {L : List EV} (hup : UpK (keys L)) (id m : Int) (i : Nat) (e : EV) (hi : L[i]? = some e) (hid : e.id = id) : L.set i (withMain m e) = setE L id m := by
  have hlt := (List.getElem?_eq_some_iff.1 hi).1
  have he := (List.getElem?_eq_some_iff.1 hi).2
  have hp : (L.map EV.id).Pairwise (· < ·) := by
    have := hup
    rw [UpK, keys, List.map_map] at this
    exact this
  have hinj : ∀ j (hj : j < L.length), L[j].id = id → j = i := fun j hj hje => by
    rcases Nat.lt_trichotomy j i with h | h | h
    · have := List.pairwise_iff_getElem.1 hp j i (by simpa using hj) (by simpa using hlt) h
      simp only [List.getElem_map] at this
      rw [hje, he, hid] at this
      omega
    · exact h
    · have := List.pairwise_iff_getElem.1 hp i j (by simpa using hlt) (by simpa using hj) h
      simp only [List.getElem_map] at this
      rw [hje, he, hid] at this
      omega
  refine List.ext_getElem (by simp [setE]) fun j h1 h2 => ?_
  have hj : j < L.length := by simpa using h1
  simp only [setE, List.getElem_map]
  rw [List.getElem_set]
  by_cases hji : i = j
  · subst hji
    rw [if_pos rfl, he, if_pos hid]
    rfl
  · rw [if_neg hji, if_neg (fun h => hji (hinj j hj h).symm)]
set_option maxHeartbeats 2000000 in
set_option maxRecDepth 100000 in
theorem rsenses_any (v : Value) (P : List PE) (id : Int) (w : World) (hv : RdP w v P) (hl : P.length ≤ 100000) :
    Calls Try.prog 23 #[v, .int .i64 id] w fun e w' => (∃ v', e = .returned v' ∧ RdSe w' v' (sensesP P id)) ∧ Below w.heap.size w w' := by
  obtain ⟨L, hv, hdp⟩ := hv
  obtain ⟨A, n, c, rfl, h1, h2, HN, _⟩ := hv.op
  have HV := Lib.hid hv
  have HDP := Lib.hid hdp
  have HL : Hid (L.length ≤ 100000) := by rw [Hid, hdp.length]; exact hl
  have hln := HL.out
  rw [HN.out] at hln
  clear hv hl hdp
  have HSEN : Hid (∀ (pre : List EV) (x : EV), pre ++ [x] <+: wayL L (L.length + 1) id → (∀ e ∈ pre, e.s.n = 0) → 0 < x.s.n → RdSe w (.slice x.s.A x.s.n x.s.c) (sensesP P id)) := by
    rintro pre x ⟨r, hr⟩ hpre hx
    have hww := way_all HDP.out (L.length + 1) id
    have hfx : (wayL L (L.length + 1) id).find? hasS = some x := by
      have h0 : pre.find? hasS = none := by rw [List.find?_eq_none]; intro y hy; simp [hasS, hpre y hy]
      rw [← hr, List.find?_append, List.find?_append, h0]
      simp [hasS, hx]
    rw [HDP.out.length] at hww hfx
    rcases hww.find (f := hasS) (g := pS) (fun a b k => by rw [hasS, pS, k.ns]) with ⟨h3, _⟩ | ⟨a, b, h3, h4, h5⟩
    · rw [h3] at hfx; cases hfx
    · rw [h3] at hfx
      cases hfx
      rw [sensesP, show (fun e : PE => decide (0 < e.senses.length)) = pS from rfl, h4]
      exact h5.s
  have HNIL : Hid ((∀ e ∈ wayL L (L.length + 1) id, e.s.n = 0) → sensesP P id = []) := by
    intro h
    have hww := way_all HDP.out (L.length + 1) id
    have hfx : (wayL L (L.length + 1) id).find? hasS = none := by
      rw [List.find?_eq_none]
      intro x hx
      simp [hasS, h x hx]
    rw [HDP.out.length] at hww hfx
    rcases hww.find (f := hasS) (g := pS) (fun a b k => by rw [hasS, pS, k.ns]) with ⟨_, h3⟩ | ⟨a, b, h3, h4, h5⟩
    · rw [sensesP, show (fun e : PE => decide (0 < e.senses.length)) = pS from rfl, h3]
    · rw [h3] at hfx; cases hfx
  have HGET := Lib.hid (wayL_get L (L.length + 1) id)
  go_enter Try.func23, Try.ntmps23
  go_wp2_with fail
  refine (rway_any _ L id _ HV.out HL.out).mono ?_
  rintro e w1 ⟨⟨v1, rfl, hr⟩, hb⟩
  have HB1 := Lib.hid hb
  unfold wIds at hr
  obtain ⟨Y, hY⟩ : ∃ Y, wayL L (L.length + 1) id = Y := ⟨_, rfl⟩
  rw [hY] at hr HSEN HNIL HGET
  obtain ⟨A1, n1, c1, rfl, g1, g2, HN1, HR1⟩ := hr.op
  have HYL : Hid (Y.length = n1) := by rw [← HN1.out]; simp [Hid]
  clear hb hr hY
  go_wp2_with fail
  go_loopw [6] (fun i wr => ∃ k : Nat, k ≤ n1 ∧ i = .int .i64 k ∧ Hid (∀ e ∈ Y.take k, e.s.n = 0) ∧ Hid (Below w1.heap.size w1 wr)) (fun i _ => n1 - (intOf i).toNat)
  case atStart => exact ⟨0, Nat.zero_le _, rfl, by simp [Hid], Below.refl _ _⟩
  case round =>
    obtain ⟨k, hk, rfl, HZ, HB⟩ := hrel
    by_cases hlt : k < n1
    · obtain ⟨b1, off1, x, rfl, hbl1, hd1, e0⟩ := (HR1.out k hlt).below HB.out
      have hky : k < Y.length := by rw [HYL.out]; exact hlt
      obtain ⟨y, hy⟩ : ∃ y, Y[k] = y := ⟨_, rfl⟩
      have hyx : y.id = x := by
        have := hd1.out
        rw [← List.map_drop, List.drop_eq_getElem_cons hky, List.map_cons, hy] at this
        exact (List.cons.inj this).1
      have HY1 : Hid (Y.take (k + 1) = Y.take k ++ [y]) := by rw [Hid, List.take_succ_eq_append_getElem hky, hy]
      have hg : getE L x = some y := by rw [← hyx]; exact HGET.out y (by rw [← hy]; exact List.getElem_mem hky)
      subst hyx
      go_wp2_with fail
      refine (find_any _ L _ _ (HV.out.below (bchain HB1.out HB.out))).mono ?_
      rintro e' w2 ⟨rfl, rfl⟩
      rcases find_cases HV.out y.id with ⟨g3, g4⟩ | ⟨i, e2, b2, off2, g3, g4, g5, g6, hA2, hb2, hc2⟩
      · rw [hg] at g4; cases g4
      · rw [hg] at g6
        cases g6
        subst hA2
        have HC : Hid (ECells wr b2 (off2 + i * 8) y) := hc2.below (bchain HB1.out HB.out) hb2
        have hbl2 : b2 < wr.heap.size := Nat.lt_of_lt_of_le hb2 (bchain HB1.out HB.out).size
        obtain ⟨c0, c1, c2, c3, c4, c5, c6, c7⟩ := HC.out
        rw [g3]
        have HDY : Hid (0 < y.s.n → RdSe w (.slice y.s.A y.s.n y.s.c) (sensesP P id)) := fun h => HSEN.out (Y.take k) y (by rw [← HY1.out]; exact List.take_prefix _ _) HZ.out h
        clear g3 g5 hg hc2 hy hky
        by_cases hz : y.s.n = 0
        · have hd : decide (0 < y.s.n) = false := by simp [hz]
          have HZ2 : Hid (∀ e ∈ Y.take (k + 1), e.s.n = 0) := by
            intro e he
            rw [HY1.out, List.mem_append] at he
            rcases he with he | he
            · exact HZ.out e he
            · simp at he; subst he; exact hz
          clear hz
          go_wp2_with fail
          go_roundw
          case rel => exact ⟨k + 1, by omega, by go_num, HZ2.out, HB.out.alloc HB.out.size _⟩
          case measure => simp [intOf]; omega
        · have hd : decide (0 < y.s.n) = true := by simp; omega
          have HR2 := Lib.hid (HDY.out (by omega))
          clear hz
          go_wp2_with fail
          go_ret
          have hbb := (bchain HB1.out HB.out).alloc (o := .cells #[.int .i64 y.id, .slice y.f.A y.f.n y.f.c, .int .i64 y.cls, .slice y.a.A y.a.n y.a.c, .int .i64 y.main, .slice y.s.A y.s.n y.s.c, .slice y.l.A y.l.n y.l.c, .slice y.r.A y.r.n y.r.c] 34) (bchain HB1.out HB.out).size
          exact ⟨⟨_, rfl, HR2.out.below hbb⟩, hbb⟩
    · have HE : Hid (sensesP P id = []) := HNIL.out (by have := HZ.out; rwa [List.take_of_length_le (by rw [HYL.out]; omega)] at this)
      go_wp2_with fail
      go_ret
      refine ⟨⟨_, rfl, ?_⟩, bchain HB1.out HB.out⟩
      rw [HE.out]
      exact Rd.own (World.ownsRow_nil _ w.heap.size 41 2)
end Go.Proofs.Ytnjniganlielcaa
