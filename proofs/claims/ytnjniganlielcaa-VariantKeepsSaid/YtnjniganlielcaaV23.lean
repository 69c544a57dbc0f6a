/-
  Same and Up of the reference of variants; some and right of the statements.
-/
import Derived.Test.YtnjniganlielcaaV22
namespace Go.Proofs.Ytnjniganlielcaa
open Go.ChangeShapes Go.WideShapes Go.ChangeAt Go.RowKit
theorem RdP.opn {w : World} {v : Value} {P : List PE} (h : RdP w v P) : ∃ (A : Option Addr) (n c : Nat), v = .slice A n c ∧ P.length = n := by
  obtain ⟨L, h1, h2⟩ := h
  obtain ⟨A, n, c, rfl, _, _, HN, _⟩ := h1.op
  exact ⟨A, n, c, rfl, h2.length.symm.trans HN.out⟩
/-- element k of a list of entries read whole, in memory -/
def PAt (w : World) (A : Option Addr) (P : List PE) (k : Nat) : Prop :=
  ∃ b off e p, A = some ⟨b, off, none⟩ ∧ b < w.heap.size ∧ Hid (P.drop k = p :: P.drop (k + 1)) ∧ Hid (DpE w e p) ∧ ECells w b (off + k * 8) e
theorem RdP.op {w : World} {v : Value} {P : List PE} (h : RdP w v P) : ∃ (A : Option Addr) (n c : Nat), v = .slice A n c ∧ n ≤ c ∧ c ≤ 9223372036854775807 ∧ Hid (P.length = n) ∧ Hid (∀ k, k < n → PAt w A P k) := by
  obtain ⟨L, h1, h2⟩ := h
  obtain ⟨A, n, c, rfl, g1, g2, HN, HR⟩ := h1.op
  refine ⟨A, n, c, rfl, g1, g2, h2.length.symm.trans HN.out, fun k hk => ?_⟩
  obtain ⟨b, off, e, rfl, hb, hd, hc⟩ := HR.out k hk
  have hkl : k < L.length := by rw [HN.out]; exact hk
  have hLk : L[k]? = some e := by
    have := hd.out
    rw [List.drop_eq_getElem_cons hkl] at this
    rw [List.getElem?_eq_getElem hkl, (List.cons.inj this).1]
  obtain ⟨p, hp, hdp⟩ := h2.get hLk
  have hkp := List.getElem?_eq_some_iff.1 hp
  refine ⟨b, off, e, p, rfl, hb, ?_, hdp, hc⟩
  rw [Hid, List.drop_eq_getElem_cons hkp.1, hkp.2]
theorem PAt.below {w w' : World} {A : Option Addr} {P : List PE} {k : Nat} (h : PAt w A P k) (hb : Below w.heap.size w w') : PAt w' A P k := by
  obtain ⟨b, off, e, p, rfl, h1, h2, h3, h4⟩ := h
  exact ⟨b, off, e, p, rfl, by have := hb.size; omega, h2, h3.out.below hb, h4.below hb h1⟩
set_option maxHeartbeats 2000000 in
set_option maxRecDepth 100000 in
theorem same_any (v u : Value) (P Q : List PE) (w : World) (hv : RdP w v P) (hu : RdP w u Q) :
    Calls Try.prog 28 #[v, u] w fun e' w' => e' = .returned (.bool (decide (P = Q))) ∧ Below w.heap.size w w' := by
  obtain ⟨A, n, c, rfl, h1, h2, HN, HR⟩ := hv.op
  obtain ⟨A', n', c', rfl, h1', h2', HN', HR'⟩ := hu.op
  clear hv hu
  by_cases hn : n = n'
  · subst hn
    have hne : ((n : Int) != (n : Int)) = false := by simp
    go_enter Try.func28, Try.ntmps28
    go_wp2_with fail
    go_loopw [5] (fun i wr => ∃ k : Nat, k ≤ n ∧ i = .int .i64 k ∧ Hid (P.take k = Q.take k) ∧ Hid (Below w.heap.size w wr)) (fun i _ => n - (intOf i).toNat)
    case atStart => exact ⟨0, Nat.zero_le _, rfl, rfl, Below.refl _ _⟩
    case round =>
      obtain ⟨k, hk, rfl, HT, HB⟩ := hrel
      by_cases hlt : k < n
      · obtain ⟨b, off, e, p, rfl, hbl, hdr, HDE, c0, c1, c2, c3, c4, c5, c6, c7⟩ := (HR.out k hlt).below HB.out
        obtain ⟨b', off', f, q, rfl, hbl', hdr', HDF, d0, d1, d2, d3, d4, d5, d6, d7⟩ := (HR'.out k hlt).below HB.out
        have HTI := Lib.hid (take_drop_eq hdr.out hdr'.out)
        have hk0 : (0 : Int) ≤ (k : Int) := by omega
        go_wp2_with fail
        refine wp_region_ord 8 [0, 1, 2, 3, 4, 5, 6, 7] [] [0, 1, 2, 3, 4, 5, 6, 7] [8, 9] (fun w' => Below wr.heap.size wr w') (by kernel_rfl) (by kernel_rfl) ?_
        rintro D hD
        have HSD : Hid (Below wr.heap.size wr D) := by rw [hD]; exact (Below.refl _ _).drew
        clear hD
        refine ⟨HSD.out, ?_⟩
        have HC : Hid (ECells wr b (off + k * 8) e) := ⟨c0, c1, c2, c3, c4, c5, c6, c7⟩
        have HC' : Hid (ECells wr b' (off' + k * 8) f) := ⟨d0, d1, d2, d3, d4, d5, d6, d7⟩
        clear c0 c1 c2 c3 c4 c5 c6 c7 d0 d1 d2 d3 d4 d5 d6 d7
        have HS : Hid (∀ w' : World, Below wr.heap.size wr w' → ECells w' b (off + k * 8) e ∧ ECells w' b' (off' + k * 8) f) := fun w' h => ⟨HC.out.below h hbl, HC'.out.below h hbl'⟩
        iterate 8 (refine wpHead_cons (v := ?_) rfl rfl (fun w' hS => ?_) ?_; rotate_left; (focus ((try obtain ⟨⟨s0, s1, s2, s3, s4, s5, s6, s7⟩, t0, t1, t2, t3, t4, t5, t6, t7⟩ := HS.out _ (hS rfl)); clear hS; go_simp; try with_reducible rfl; done)); (try simp only [Act.put, List.setIfInBounds_toArray, List.set_cons_zero, List.set_cons_succ]))
        refine wpHead_nil ?_
        refine wpTail_cons rfl rfl (fun K hK => ?_)
        go_simp
        refine (same1_any e f p q _ (HDE.out.below HSD.out) (HDF.out.below HSD.out)).mono ?_
        rintro e' V2 ⟨rfl, hb⟩
        refine hK.out _ _ (fun h => absurd h (by decide)) ?_
        clear hK K hk0
        (try simp only [Act.put, List.setIfInBounds_toArray, List.set_cons_zero, List.set_cons_succ])
        have HB2 := Lib.hid (bchain HB.out (bchain HSD.out hb))
        clear hb
        refine wpTail_cons rfl rfl (fun K hK => ?_)
        go_simp
        refine hK.out _ _ (fun h => absurd h (by decide)) ?_
        clear hK K
        (try simp only [Act.put, List.setIfInBounds_toArray, List.set_cons_zero, List.set_cons_succ])
        refine wpTail_nil ?_
        refine NoPanic.normal ?_
        by_cases hpq : p = q
        · have HT2 : Hid (P.take (k + 1) = Q.take (k + 1)) := HTI.out.2 ⟨HT.out, hpq⟩
          rw [show decide (p = q) = true by simp [hpq]]
          clear hpq
          go_wp2_with fail
          go_roundw
          case rel => exact ⟨k + 1, by omega, by go_num, HT2.out, HB2.out⟩
          case measure => simp [intOf]; omega
        · have HNE : Hid (decide (P = Q) = false) := by
            rw [Hid, decide_eq_false_iff_not]
            exact fun h => hpq (HTI.out.1 (by rw [h])).2
          rw [show decide (p = q) = false by simp [hpq]]
          clear hpq
          go_wp2_with fail
          go_ret
          exact ⟨by rw [HNE.out]; rfl, HB2.out⟩
      · have HEQ : Hid (decide (P = Q) = true) := by
          have := HT.out
          rw [List.take_of_length_le (by rw [HN.out]; omega), List.take_of_length_le (by rw [HN'.out]; omega)] at this
          rw [Hid, decide_eq_true_iff]
          exact this
        go_wp2_with fail
        go_ret
        exact ⟨by rw [HEQ.out]; rfl, HB.out⟩
  · have hne : ((n : Int) != (n' : Int)) = true := by simp; omega
    have HNE : Hid (decide (P = Q) = false) := by
      rw [Hid, decide_eq_false_iff_not]
      exact fun h => hn (by rw [← HN.out, ← HN'.out, h])
    clear hn
    go_enter Try.func28, Try.ntmps28
    go_wp2_with fail
    go_ret
    exact ⟨by rw [HNE.out]; rfl, Below.refl _ _⟩
def upFrom : Int → List PE → Bool
  | _, [] => true
  | last, e :: l => if e.id ≤ last then false else upFrom e.id l
theorem upFrom_spec : ∀ (l : List PE) (last : Int), upFrom last l = true → (∀ e ∈ l, last < e.id) ∧ (l.map PE.id).Pairwise (· < ·)
  | [], _, _ => by simp
  | e :: l, last, h => by
    rw [upFrom] at h
    by_cases hle : e.id ≤ last
    · rw [if_pos hle] at h; cases h
    · rw [if_neg hle] at h
      obtain ⟨h1, h2⟩ := upFrom_spec l e.id h
      refine ⟨fun x hx => ?_, ?_⟩
      · rcases List.mem_cons.1 hx with rfl | hx
        · omega
        · have := h1 x hx; omega
      · rw [List.map_cons, List.pairwise_cons]
        exact ⟨fun y hy => by obtain ⟨x, hx, rfl⟩ := List.mem_map.1 hy; exact h1 x hx, h2⟩
set_option maxHeartbeats 1000000 in
theorem up_any (v : Value) (P : List PE) (w : World) (hv : RdP w v P) :
    Calls Try.prog 31 #[v] w fun e' w' => e' = .returned (.bool (upFrom 0 P)) ∧ w = w' := by
  obtain ⟨A, n, c, rfl, h1, h2, HN, HR⟩ := hv.op
  clear hv
  go_enter Try.func31, Try.ntmps31
  go_wp2_with fail
  go_loop [3, 4] (fun l i => ∃ (k : Nat) (last : Int), k ≤ n ∧ i = .int .i64 k ∧ l = .int .i64 last ∧ Hid (upFrom 0 P = upFrom last (P.drop k))) (fun _ i => n - (intOf i).toNat)
  case atStart => exact ⟨0, 0, Nat.zero_le _, rfl, rfl, rfl⟩
  case round =>
    obtain ⟨k, last, hk, rfl, rfl, HP⟩ := hrel
    by_cases hlt : k < n
    · obtain ⟨b, off, e, p, rfl, hb, hd, HDE, c0, c1, c2, c3, c4, c5, c6, c7⟩ := HR.out k hlt
      have HP2 : Hid (upFrom 0 P = if p.id ≤ last then false else upFrom p.id (P.drop (k + 1))) := by rw [Hid, HP.out, hd.out]; rfl
      have heid := HDE.out.id
      rw [heid] at c0
      clear heid
      by_cases hle : p.id ≤ last
      · have HP3 : Hid (upFrom 0 P = false) := by rw [Hid, HP2.out, if_pos hle]
        go_wp2_with fail
        go_ret
        exact ⟨by rw [HP3.out]; rfl, rfl⟩
      · have HP3 : Hid (upFrom 0 P = upFrom p.id (P.drop (k + 1))) := by rw [Hid, HP2.out, if_neg hle]
        go_wp2_with fail
        go_round
        case rel => exact ⟨k + 1, p.id, by omega, by go_num, rfl, HP3.out⟩
        case measure => simp [intOf]; omega
    · have HP3 : Hid (upFrom 0 P = true) := by rw [Hid, HP.out, List.drop_of_length_le (by rw [HN.out]; omega)]; rfl
      go_wp2_with fail
      go_ret
      exact ⟨by rw [HP3.out]; rfl, rfl⟩
end Go.Proofs.Ytnjniganlielcaa
