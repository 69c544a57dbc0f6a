/-
  analyze: has, shrinks, equal, key.
-/
import Derived.Test.YtiopgbbggeimaaaGreatKJ
namespace Go.Proofs.YtiopgbbggeimaaaGreat
open Go.ChangeShapes Go.WideShapes Go.ChangeAt Go.RowKit
theorem hasBQ_cons (y : Int) (l : List Int) (x : Int) : hasBQ (y :: l) x = if y = x then true else hasBQ l x := by
  unfold hasBQ
  by_cases h : y = x
  · rw [if_pos h, h]; simp
  · rw [if_neg h]; simp [Ne.symm h]
set_option maxHeartbeats 1000000 in
theorem ahas_any (v : Value) (l : List Int) (x : Int) (w : World) (hv : RdI w v l) :
    Calls Tryz.prog 114 #[v, .int .i64 x] w fun e w' => e = .returned (.bool (hasBQ l x)) ∧ Below w.heap.size w w' := by
  obtain ⟨A, n, c, rfl, _, _, HN, HR⟩ := hv.op
  clear hv
  go_enter Tryz.func114, Tryz.ntmps114
  go_wp2_with fail
  go_loopw [9] (fun v9 wr => ∃ k : Nat, k ≤ n ∧ v9 = .int .i64 k ∧ Hid (hasBQ l x = hasBQ (l.drop k) x) ∧ Hid (Below w.heap.size w wr)) (fun v9 _ => n - (intOf v9).toNat)
  case atStart => exact ⟨0, Nat.zero_le _, rfl, rfl, Below.refl _ _⟩
  case round =>
    obtain ⟨k, hk, rfl, HK, HBR⟩ := hrel
    by_cases hlt : k < n
    · obtain ⟨b, off, y, rfl, hb, hd, c0⟩ := (HR.out k hlt).below HBR.out
      have HK2 : Hid (hasBQ l x = if y = x then true else hasBQ (l.drop (k + 1)) x) := by rw [Hid, HK.out, hd.out, hasBQ_cons]
      have hk0 : (0 : Int) ≤ (k : Int) := by omega
      cases hx : (y == x)
      · have HK3 : Hid (hasBQ l x = hasBQ (l.drop (k + 1)) x) := by rw [Hid, HK2.out, if_neg (by simpa using hx)]
        go_wp2_with fail
        go_roundw
        case rel => exact ⟨k + 1, by omega, by go_num, HK3.out, HBR.out⟩
        case measure => simp [intOf]; omega
      · have HK3 : Hid (hasBQ l x = true) := by rw [Hid, HK2.out, if_pos (by simpa using hx)]
        go_wp2_with fail
        go_ret
        exact ⟨by rw [HK3.out]; rfl, HBR.out⟩
    · have HK3 : Hid (hasBQ l x = false) := by rw [Hid, HK.out, List.drop_of_length_le (by rw [HN.out]; omega)]; rfl
      go_wp2_with fail
      go_ret
      exact ⟨by rw [HK3.out]; rfl, HBR.out⟩
set_option maxHeartbeats 1000000 in
set_option maxRecDepth 100000 in
theorem shrinks_any (v : Value) (Rs : List PRule) (w : World) (hv : RdRs w v Rs) :
    Calls Tryz.prog 93 #[v] w fun e w' => e = .returned (.bool (shrB Rs)) ∧ Below w.heap.size w w' := by
  obtain ⟨A, n, c, rfl, _, _, HN, HR⟩ := hv
  go_enter Tryz.func93, Tryz.ntmps93
  go_wp2_with fail
  go_loopw [7] (fun v7 wr => ∃ k : Nat, k ≤ n ∧ v7 = .int .i64 k ∧ Hid (shrB Rs = shrB (Rs.drop k)) ∧ Hid (Below w.heap.size w wr)) (fun v7 _ => n - (intOf v7).toNat)
  case atStart => exact ⟨0, Nat.zero_le _, rfl, rfl, Below.refl _ _⟩
  case round =>
    obtain ⟨k, hk, rfl, HK, HBR⟩ := hrel
    by_cases hlt : k < n
    · obtain ⟨b, off, vf, vt, vl, vr, R, rfl, hb, hd, hcell, HRR⟩ := (HR.out k hlt).below HBR.out
      obtain ⟨A1, n1, c1, A2, n2, c2, A3, n3, c3, A4, n4, c4, rfl, rfl, rfl, rfl⟩ := rdR_form HRR.out
      obtain ⟨c0, c1', c2', c3', c4', c5'⟩ := hcell
      have HK2 : Hid (shrB Rs = (hasBQ R.tto 0 || shrB (Rs.drop (k + 1)))) := by rw [Hid, HK.out, hd.out]; rfl
      have HT : Hid (RdI wr (.slice A2 n2 c2) R.tto) := by
        obtain ⟨_, _, _, _, he, h1, h2, _, _⟩ := HRR.out
        injection he with he
        simp only [Array.mk.injEq, List.cons.injEq] at he
        rw [Hid, he.2.1]
        exact h2
      have hk0 : (0 : Int) ≤ (k : Int) := by omega
      generalize R.beg = rb at c4' HRR
      generalize R.fin = rf at c5' HRR
      obtain ⟨wo, rfl⟩ : ∃ wo : World, wo = wr := ⟨_, rfl⟩
      go_upto_region 4 with (fail)
      generalize hX : World.alloc wo _ = X
      have HXB : Hid (Below w.heap.size w X) := by rw [← hX]; exact bchain HBR.out (al_below _ _)
      have HXP : Hid (RBlk X wo.heap.size (.slice A1 n1 c1) (.slice A2 n2 c2) (.slice A3 n3 c3) (.slice A4 n4 c4) rb rf) := by rw [← hX]; exact heap_alloc_new wo _
      have HXT : Hid (RdI X (.slice A2 n2 c2) R.tto) := by rw [← hX]; exact HT.out.below (al_below _ _)
      clear hX c0 c1' c2' c3' c4' c5'
      generalize wo.heap.size = gx at HXP ⊢
      obtain ⟨z0, z1, z2, z3, z4, z5⟩ := HXP.out.cells
      have zl := HXP.out.lt
      go_wp2_with fail
      refine (ahas_any _ R.tto 0 _ HXT.out).mono ?_
      rintro e w1 ⟨rfl, hb1⟩
      have HB1 := Lib.hid (bchain HXB.out hb1)
      clear hb1
      cases hh : hasBQ R.tto 0
      · have HK3 : Hid (shrB Rs = shrB (Rs.drop (k + 1))) := by rw [Hid, HK2.out, hh, Bool.false_or]
        clear hh
        go_wp2_with fail
        go_roundw
        case rel => exact ⟨k + 1, by omega, by go_num, HK3.out, HB1.out⟩
        case measure => simp [intOf]; omega
      · have HK3 : Hid (shrB Rs = true) := by rw [Hid, HK2.out, hh, Bool.true_or]
        clear hh
        go_wp2_with fail
        go_ret
        exact ⟨by rw [HK3.out]; rfl, HB1.out⟩
    · have HK3 : Hid (shrB Rs = false) := by rw [Hid, HK.out, List.drop_of_length_le (by rw [HN.out]; omega)]; rfl
      go_wp2_with fail
      go_ret
      exact ⟨by rw [HK3.out]; rfl, HBR.out⟩
set_option maxHeartbeats 400000 in
theorem aequal_any (v u : Value) (xs ys : List Int) (w : World) (hv : RdI w v xs) (hu : RdI w u ys) :
    Calls Tryz.prog 131 #[v, u] w fun e w' => e = .returned (.bool (sameB xs ys)) ∧ Below w.heap.size w w' := by
  obtain ⟨A, n, c, rfl, h1, h2, HN, hr⟩ := hv.op
  obtain ⟨A', n', c', rfl, h1', h2', HN', hr'⟩ := hu.op
  clear hv hu
  by_cases hn : n = n'
  · subst hn
    have hne : ((n : Int) != (n : Int)) = false := by simp
    go_enter Tryz.func131, Tryz.ntmps131
    go_wp2_with fail
    go_loopw [13] (fun i wr => ∃ k nq : Nat, k ≤ n ∧ i = .int .i64 k ∧ wr = w.drewN nq ∧ Hid (sameB xs ys = sameB (xs.drop k) (ys.drop k))) (fun i _ => n - (intOf i).toNat)
    case atStart => exact ⟨0, 0, Nat.zero_le _, rfl, rfl, rfl⟩
    case round =>
      obtain ⟨k, nq, hk, rfl, rfl, HP⟩ := hrel
      by_cases hlt : k < n
      · obtain ⟨b, off, x, rfl, hb, hd, hck⟩ := hr.out k hlt
        obtain ⟨b', off', y, rfl, hb', hd', hck'⟩ := hr'.out k hlt
        have HS : Hid (sameB xs ys = if x = y then sameB (xs.drop (k + 1)) (ys.drop (k + 1)) else false) := by rw [Hid, HP.out, hd.out, hd'.out, sameB]
        by_cases hxy : x = y
        · have hb1 : (x != y) = false := by simpa using hxy
          have HS2 : Hid (sameB xs ys = sameB (xs.drop (k + 1)) (ys.drop (k + 1))) := by rw [Hid, HS.out, if_pos hxy]
          clear hxy HS
          go_wp2_with fail
          go_quiet (fail)
          go_wp2_with fail
          go_roundw
          case rel => exact ⟨k + 1, _, by omega, by go_num, rfl, HS2.out⟩
          case measure => simp [intOf]; omega
        · have hb1 : (x != y) = true := by simpa using hxy
          have HS2 : Hid (sameB xs ys = false) := by rw [Hid, HS.out, if_neg hxy]
          clear hxy HS
          go_wp2_with fail
          go_quiet (fail)
          go_wp2_with fail
          go_ret
          exact ⟨by rw [HS2.out]; rfl, below_drewN (below_drewN (Below.refl _ _) _) _⟩
      · go_wp2_with fail
        go_ret
        refine ⟨?_, below_drewN (Below.refl _ _) _⟩
        have : sameB xs ys = true := by rw [HP.out, List.drop_of_length_le (by rw [HN.out]; omega), List.drop_of_length_le (by rw [HN'.out]; omega)]; rfl
        rw [this]; rfl
  · have hne : ((n : Int) != (n' : Int)) = true := by simp; omega
    have HS2 : Hid (sameB xs ys = false) := sameB_len _ _ (by rw [HN.out, HN'.out]; exact hn)
    clear hn
    go_enter Tryz.func131, Tryz.ntmps131
    go_wp2_with fail
    go_ret
    exact ⟨by rw [HS2.out]; rfl, Below.refl _ _⟩
/-! a row of bytes -/
def OwnB (w : World) (base : Nat) (v : Value) (l : List Int) : Prop := w.ownsRow base 5 1 v l.length (l.map (Value.int .u8))
theorem infoU8 : (Tryz.prog.info? 5).map (fun i => (i.zero, i.size, i.bytes)) = some (some (.int .u8 0), 1, 1) := by kernel_rfl
theorem wpList_app_byte {ops : Array Oper} {rest : List Oper} {o : Oper} {a : Act} {Q : Exit → Act → World → Prop} {w : World} (hgd : o.guard = none) (s x : Operand)
    (ho : o.op = .call { callee := .builtin .append, args := #[s, x], argTypes := #[108, 108] })
    (base : Nat) (v : Value) (l : List Int) (hs : a.eval s = v) (hown : OwnB w base v l) (x0 : Int) (m : Nat) (hm : Hid (l.length = m)) (hl : m ≤ 1000000) (hbase : base ≤ w.heap.size)
    (hx : a.eval x = .slice (some ⟨w.heap.size, 0, none⟩) 1 1)
    (h : ∀ g' cap w', OwnB w' base (.slice (some ⟨g', 0, none⟩) (m + 1) cap) (l ++ [x0]) → base ≤ g' → w.grownBy w' v.ownBlock → wpList Tryz.prog ops Q rest (a.put o.dst (.slice (some ⟨g', 0, none⟩) (m + 1) cap)) w') :
    wpList Tryz.prog ops Q (o :: rest) a (w.alloc (.cells #[.int .u8 x0] 5)) := by
  obtain rfl := hm.out
  obtain ⟨i0, hi, hz0, hz1, hz2⟩ := info_parts infoU8
  refine wpList_append_own _ hgd s x 108 ho base 5 i0 _ 1 1 Tryz.underlying108 hi hz0 hz1 hz2 rfl (by decide) v l.length (l.map (Value.int .u8)) hs (World.ownsRow.alloc hown _) ⟨w.heap.size, 0, none⟩ 1 1
    [.int .u8 x0] hx rfl ?_ ?_ (by simp only [maxLen]; omega) (by omega) (by simp; omega) ?_
  · intro j u hu
    match j, hu with
    | 0, hu => simp at hu; subst hu; simp [go_sem, Addr.add]
  · intro u hu
    simp at hu
    subst hu
    rfl
  · intro v' w' h1 h2 _
    obtain ⟨g', cap, rfl, hg1, hg2⟩ := h1.form (by omega)
    refine h g' cap w' ?_ hg1 ?_
    · unfold OwnB
      rw [List.map_append, List.length_append]
      exact h1
    · exact ⟨h2.os, h2.tape, h2.output, Nat.le_trans (by simp) h2.size, fun k hk hne => (h2.block k (by simp; omega) hne).trans (Below.heap_alloc w _ k hk)⟩
theorem make_bytes (n : Nat) (hn : n ≤ 1000000) (W : World) : (Instr.makeSlice 108 (.int .i64 0) (.int .i64 (n : Int))).run Tryz.prog W = .ok (.slice (some ⟨W.heap.size, 0, none⟩) 0 n) (W.alloc (.cells (madeCells (Value.int .u8 0).cells (n * 1)) 5)) := by
  obtain ⟨i0, hi, hz0, hz1, hz2⟩ := info_parts infoU8
  have h := run_make_rowN (P := Tryz.prog) 108 5 i0 (.int .u8 0) Tryz.underlying108 hi hz0 .i64 .i64 0 n (Nat.zero_le _) (by rw [hz2]; omega) (by omega) W
  rw [hz1] at h
  exact h
theorem own_made (W : World) (base n : Nat) (hb : base ≤ W.heap.size) (hn : n ≤ 1000000) : OwnB (W.alloc (.cells (madeCells #[Value.int .u8 0] n) 5)) base (.slice (some ⟨W.heap.size, 0, none⟩) 0 n) [] := by
  refine ⟨rfl, .inr ⟨W.heap.size, n, _, rfl, hb, heap_alloc_new W _, Nat.zero_le _, by simp only [maxLen]; omega, ?_, rfl⟩⟩
  rw [← Array.length_toList, toList_madeCells_one]
  simp
theorem conv_own (w : World) (b off n c : Nat) (l : List Int) (hn : l.length = n) (hl : ∀ x ∈ l, 0 ≤ x ∧ x < 256) (hc : ∀ j u, (l.map (Value.int .u8))[j]? = some u → w.cell? ⟨b, off + j, none⟩ = some u) : (convert 108 9 (.slice (some ⟨b, off, none⟩) n c)).run Tryz.prog w = .ok (.string (bs l)) w := by
  subst hn
  have := run_convert_bytes_back (P := Tryz.prog) w 108 9 5 ⟨b, off, none⟩ c (l.map fun x => UInt8.ofNat x.toNat) Tryz.underlying108 Tryz.underlying5 Tryz.underlying9 ?_
  · simpa [bs] using this
  · intro j hj
    have hjl : j < l.length := by simpa using hj
    have hx := hl l[j] (List.getElem_mem hjl)
    have he : (⟨b, off, none⟩ : Addr).add j = ⟨b, off + j, none⟩ := by unfold Addr.add; split <;> simp_all
    rw [he, hc j (.int .u8 l[j]) (by rw [List.getElem?_map, List.getElem?_eq_getElem hjl]; rfl)]
    simp
    omega
theorem own_sliceB {w : World} {base : Nat} {v : Value} {l : List Int} (h : OwnB w base v l) : ∃ A c, v = .slice A l.length c := by
  rcases h.2 with ⟨rfl, h0⟩ | ⟨g, cap, cur, rfl, _⟩
  · exact ⟨none, 0, by rw [h0]⟩
  · exact ⟨_, _, rfl⟩
set_option maxHeartbeats 2000000 in
set_option maxRecDepth 100000 in
theorem key_any (v : Value) (l : List Int) (w : World) (hv : RdI w v l) (hl : ∀ x ∈ l, 0 ≤ x ∧ x < 256) (hn : l.length ≤ 1000000) :
    Calls Tryz.prog 130 #[v] w fun e w' => e = .returned (.string (bs l)) ∧ Below w.heap.size w w' := by
  have HL := Lib.hid hl
  obtain ⟨A, n, c, rfl, _, _, HN, HR⟩ := hv.op
  have hn1 : n ≤ 1000000 := by rw [← HN.out]; exact hn
  have hmk := make_bytes n hn1
  clear hv hl hn
  go_enter Tryz.func130, Tryz.ntmps130
  go_wp2_with fail
  generalize hW : World.alloc w _ = W
  have HBW : Hid (Below w.heap.size w W) := by rw [← hW]; exact al_below _ _
  have HO0 : Hid (OwnB W w.heap.size (.slice (some ⟨w.heap.size, 0, none⟩) 0 n) []) := by rw [← hW]; exact own_made w _ n (Nat.le_refl _) hn1
  clear hW hmk
  go_loopw [3, 11] (fun v3 v11 wr => ∃ k g cap : Nat, k ≤ n ∧ v11 = .int .i64 k ∧ v3 = .slice (some ⟨g, 0, none⟩) k cap ∧ Hid (OwnB wr w.heap.size (.slice (some ⟨g, 0, none⟩) k cap) (l.take k)) ∧ Hid (Below w.heap.size w wr)) (fun _ v11 _ => n - (intOf v11).toNat)
  case atStart => exact ⟨0, _, _, Nat.zero_le _, rfl, rfl, HO0.out, HBW.out⟩
  case round =>
    obtain ⟨k, g, cap, hk, rfl, rfl, HO, HBR⟩ := hrel
    by_cases hlt : k < n
    · obtain ⟨b, off, x, rfl, hb, hd, c0⟩ := (HR.out k hlt).below HBR.out
      have HTK := Lib.hid (take_snoc hd.out)
      have HKL : Hid ((l.take k).length = k) := by rw [Hid, List.length_take, HN.out]; omega
      have hx := HL.out x (List.mem_of_mem_drop (by rw [hd.out]; exact List.mem_cons_self))
      have hwr : IntKind.u8.wrap x = x := IntWalk.u8_in x (by omega)
      have hk0 : (0 : Int) ≤ (k : Int) := by omega
      have hno1 : k ≤ 1000000 := by omega
      have hbs : w.heap.size ≤ wr.heap.size := HBR.out.size
      go_wp2_with (at_builtin; refine wpList_app_byte rfl (.tmp 15) (.tmp 18) rfl w.heap.size (.slice (some ⟨g, 0, none⟩) k cap) (l.take k) rfl HO.out x k HKL hno1 hbs rfl ?_; intro g' cap' w5 ho hge hg; have HO5 := Lib.hid ho; have HB5 := Lib.hid (below_grown HBR.out (Nat.le_refl _) HO.out hg); clear ho hg)
      go_roundw
      case rel => exact ⟨k + 1, _, _, by omega, by go_num, rfl, by rw [Hid, HTK.out]; exact HO5.out, HB5.out⟩
      case measure => simp [intOf]; omega
    · obtain rfl : n = k := by omega
      have HTF : Hid (l.take n = l) := by rw [Hid, ← HN.out, List.take_length]
      rw [HTF.out] at HO
      have kc : (convert 108 9 (.slice (some ⟨g, 0, none⟩) n cap)).run Tryz.prog wr = .ok (.string (bs l)) wr := by
        refine conv_own wr g 0 n cap l HN.out HL.out fun j u hu => ?_
        obtain ⟨A1, c1, he1, _, _, _, hcell⟩ := Rd.own HO.out
        have hj := (List.getElem?_eq_some_iff.1 hu).1
        rw [List.length_map] at hj
        obtain ⟨b, off, hA, _, hc⟩ := hcell (by omega)
        cases he1
        cases hA
        exact hc j u hu
      go_wp2_with fail
      go_ret
      exact ⟨rfl, HBR.out⟩
theorem bs_inj {l m : List Int} (hl : ∀ x ∈ l, 0 ≤ x ∧ x < 256) (hm : ∀ x ∈ m, 0 ≤ x ∧ x < 256) (h : bs l = bs m) : l = m := by
  unfold bs at h
  injection h with h
  have h2 : (l.map fun x => UInt8.ofNat x.toNat) = (m.map fun x => UInt8.ofNat x.toNat) := by simpa using h
  clear h
  induction l generalizing m with
  | nil =>
    cases m with
    | nil => rfl
    | cons y m => simp at h2
  | cons x l ih =>
    cases m with
    | nil => simp at h2
    | cons y m =>
      simp only [List.map_cons, List.cons.injEq] at h2
      have hx := hl x (by simp)
      have hy := hm y (by simp)
      have h3 : x = y := by
        have h4 := congrArg UInt8.toNat h2.1
        simp at h4
        omega
      rw [h3, ih (fun z hz => hl z (by simp [hz])) (fun z hz => hm z (by simp [hz])) h2.2]
end Go.Proofs.YtiopgbbggeimaaaGreat
