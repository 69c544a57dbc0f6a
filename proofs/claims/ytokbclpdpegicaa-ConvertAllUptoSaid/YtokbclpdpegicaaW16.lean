/-
  Plain words: the segments of a text; Read of orthographies.
-/
import Derived.Test.YtokbclpdpegicaaW15
namespace Go.Proofs.Ytokbclpdpegicaa
open Go.ChangeShapes Go.WideShapes Go.ChangeAt Go.RowKit
theorem unitsR_range (us : List PU) (s : ByteArray) : ∀ (f a : Nat), ∀ x ∈ (unitsR us s f a).1, ∃ (j : Nat) (p : PU), x = j ∧ us[j]? = some p
  | 0, _, x, h => by simp [unitsR] at h
  | f + 1, a, x, h => by
    rw [unitsR] at h
    split at h
    · split at h
      · cases h
      · rename_i h1
        rcases longF_range us (tl s a) with h2 | ⟨j, p, h2, h3, _⟩
        · rw [h2] at h1; exact absurd (by decide) h1
        · rcases List.mem_cons.1 h with h4 | h4
          · exact ⟨j, p, h4.trans h2, h3⟩
          · exact unitsR_range us s f _ x h4
    · cases h
theorem unitsR_len (us : List PU) (s : ByteArray) (hg : ∀ p ∈ us, GoodU p) : ∀ (f a : Nat), a ≤ s.size → (unitsR us s f a).1.length + a ≤ (unitsR us s f a).2 ∧ (unitsR us s f a).2 ≤ s.size
  | 0, a, h => by simp [unitsR, h]
  | f + 1, a, h => by
    rw [unitsR]
    split
    · split
      · simp [h]
      · rename_i h1
        rcases longF_range us (tl s a) with h2 | ⟨j, p, h2, h3, h4⟩
        · rw [h2] at h1; exact absurd (by decide) h1
        · have h5 := (hg p (List.mem_of_getElem? h3)).1
          have h6 := beg_le h4
          rw [tl_size s a h] at h6
          rw [h2, Int.toNat_natCast, h3]
          have := unitsR_len us s hg f (a + p.g.size) (by omega)
          simp only [Option.map_some, Option.getD_some, List.length_cons]
          omega
    · simp [h]
theorem unitsF_len (us : List PU) (s : ByteArray) (hg : ∀ p ∈ us, GoodU p) : (unitsF us s).1.length ≤ s.size ∧ (unitsF us s).2 ≤ s.size := by
  have := unitsR_len us s hg (s.size + 1) 0 (Nat.zero_le _)
  unfold unitsF
  omega
/-- the segments of a list of units -/
def segsL (us : List PU) : List Int → List Int
  | [] => []
  | i :: l => ((us[i.toNat]?).map PU.s).getD [] ++ segsL us l
theorem segsL_append (us : List PU) (l m : List Int) : segsL us (l ++ m) = segsL us l ++ segsL us m := by
  induction l with
  | nil => rfl
  | cons i l ih => rw [List.cons_append, segsL, segsL, ih, List.append_assoc]
theorem segsL_len (us : List PU) (hg : ∀ p ∈ us, GoodU p) (l : List Int) : (segsL us l).length ≤ 3 * l.length := by
  induction l with
  | nil => simp [segsL]
  | cons i l ih =>
    rw [segsL, List.length_append, List.length_cons]
    have : (((us[i.toNat]?).map PU.s).getD []).length ≤ 3 := by
      cases h : us[i.toNat]? with
      | none => simp
      | some p => simpa using (hg p (List.mem_of_getElem? h)).2.2
    omega
/-- what Read returns -/
def readF (us : List PU) (s : ByteArray) : List Int × Nat × Int :=
  if s.size = 0 then ([], 0, 4)
  else if (unitsF us s).2 < s.size then ([], (unitsF us s).2, 20)
  else if 24 < (segsL us (unitsF us s).1).length then ([], 0, 5)
  else (segsL us (unitsF us s).1, 0, 0)
/-- the list of a call of Read -/
def RetR (base : Nat) (r : List Int × Nat × Int) (e : Ending) (w' : World) : Prop := ∃ v', e = .returned (.tuple #[v', .int .i64 r.2.1, .int .i64 r.2.2]) ∧ OwnI w' base v' r.1
set_option maxHeartbeats 4000000 in
set_option maxRecDepth 100000 in
theorem read_any (v : Value) (o : PO) (s : ByteArray) (w : World) (hv : RdO w v o) (hso : SmO o) (hg : ∀ p ∈ o.units, GoodU p) (hs : s.size ≤ 67108864) :
    Calls Try.prog 19 #[v, .string s] w fun e w' => RetR w.heap.size (readF o.units s) e w' ∧ Below w.heap.size w w' := by
  have HV := Lib.hid hv
  have HSO := Lib.hid hso
  have HGD := Lib.hid hg
  obtain ⟨vu, vl, rfl, hu, hl⟩ := hv
  obtain ⟨A, n, c, rfl, hnc, hcm, HN, HR⟩ := hu.op
  obtain ⟨B, m, d, rfl, _, _, _, _⟩ := hl.op
  have hn2 : n ≤ 1048576 := by rw [← HN.out]; exact hso.units
  clear hu hl hso hg
  by_cases hz : s.size = 0
  · have hse : s.toList.isEmpty = true := by
      have : s.data = #[] := Array.eq_empty_of_size_eq_zero hz
      rw [ByteArray.toList_eq, this]; rfl
    have HF : Hid (readF o.units s = ([], 0, 4)) := by rw [Hid, readF, if_pos hz]
    clear hz
    go_enter Try.func19, Try.ntmps19
    go_wp2_with fail
    go_ret3
    exact ⟨⟨_, by rw [HF.out]; rfl, by rw [HF.out]; exact World.ownsRow_nil _ _ _ _⟩, by repeat (first | assumption | exact Below.refl _ _ | refine Below.alloc ?_ (by first | omega | (simp; done) | (simp; omega)) _ | refine Below.drew ?_ | refine below_drewN ?_ _ | refine Below.setCell ?_ (by first | omega | (simp; done) | (simp; omega)) _)⟩
  have hse : s.toList.isEmpty = false := by
    rw [ByteArray.toList_eq]
    cases h : s.data.toList with
    | nil =>
      refine absurd ?_ hz
      show s.data.size = 0
      rw [← Array.length_toList, h]; rfl
    | cons _ _ => rfl
  have HF : Hid (readF o.units s = if (unitsF o.units s).2 < s.size then ([], (unitsF o.units s).2, 20)
      else if 24 < (segsL o.units (unitsF o.units s).1).length then ([], 0, 5)
      else (segsL o.units (unitsF o.units s).1, 0, 0)) := by rw [Hid, readF, if_neg hz]
  have HUL := Lib.hid (unitsF_len o.units s HGD.out)
  have HUR : Hid (∀ x ∈ (unitsF o.units s).1, ∃ (j : Nat) (p : PU), x = j ∧ o.units[j]? = some p) := unitsR_range o.units s _ _
  generalize hr : unitsF o.units s = r at HF HUL HUR
  have HRE := Lib.hid hr
  clear hr
  go_enter Try.func19, Try.ntmps19
  go_upto_region 1 with (fail)
  generalize hW : World.alloc w _ = W
  have HBW : Hid (Below w.heap.size w W) := by rw [← hW]; repeat (first | assumption | exact Below.refl _ _ | refine Below.alloc ?_ (by first | omega | (simp; done) | (simp; omega)) _ | refine Below.drew ?_ | refine below_drewN ?_ _ | refine Below.setCell ?_ (by first | omega | (simp; done) | (simp; omega)) _)
  have z0 : W.cell? ⟨w.heap.size, 0, none⟩ = some (.string o.name) := by rw [← hW]; simp [go_sem]
  have z1 : W.cell? ⟨w.heap.size, 1, none⟩ = some (.slice A n c) := by rw [← hW]; simp [go_sem]
  have z2 : W.cell? ⟨w.heap.size, 2, none⟩ = some (.slice B m d) := by rw [← hW]; simp [go_sem]
  have hgW : w.heap.size < W.heap.size := by rw [← hW]; simp
  have HZ : Hid (∀ W' : World, Below W.heap.size W W' → W'.cell? ⟨w.heap.size, 0, none⟩ = some (.string o.name) ∧ W'.cell? ⟨w.heap.size, 1, none⟩ = some (.slice A n c) ∧ W'.cell? ⟨w.heap.size, 2, none⟩ = some (.slice B m d)) := fun W' h => ⟨cell_keep hgW z0 h, cell_keep hgW z1 h, cell_keep hgW z2 h⟩
  have HRW : Hid (∀ W' : World, Below W.heap.size W W' → ∀ k, k < n → UAt W' A o.units k) := fun W' h k hk => ((HR.out k hk).below HBW.out).below h
  have HV : Hid (RdO W (.agg #[.string o.name, .slice A n c, .slice B m d]) o) := HV.out.below HBW.out
  have HBO : Hid (∀ W' : World, Below W.heap.size W W' → Below w.heap.size w W') := fun W' h => bchain HBW.out h
  have hle : w.heap.size ≤ W.heap.size := by omega
  clear hW HR HBW hgW
  generalize hg : w.heap.size = g at HZ HBO hle z0 z1 z2 ⊢
  have HG := Lib.hid hg
  clear hg
  go_wp2_with fail
  refine (units_any _ o s _ HV.out HSO.out HGD.out hs).mono ?_
  rw [HRE.out]
  rintro e w1 ⟨⟨v1, rfl, hO1⟩, hb⟩
  obtain ⟨A1, n1, c1, rfl, _, _, HN1, HI1⟩ := hO1.rd.op
  have HB1 := Lib.hid hb
  clear hb hO1 z0 z1 z2
  have hr1 := HUL.out.1
  have hr2 := HUL.out.2
  rw [HN1.out] at hr1
  by_cases hlt : r.2 < s.size
  · have d1 : decide ((r.2 : Int) < (s.size : Int)) = true := by simp; omega
    have HF2 : Hid (readF o.units s = ([], r.2, 20)) := by rw [Hid, HF.out, if_pos hlt]
    clear HF
    go_wp2_with fail
    go_ret3
    exact ⟨⟨_, by rw [HF2.out]; rfl, by rw [HF2.out]; exact World.ownsRow_nil _ _ _ _⟩, by rw [HG.out]; exact HBO.out _ HB1.out⟩
  have d1 : decide ((r.2 : Int) < (s.size : Int)) = false := by simp; omega
  have HF2 : Hid (readF o.units s = if 24 < (segsL o.units r.1).length then ([], 0, 5) else (segsL o.units r.1, 0, 0)) := by rw [Hid, HF.out, if_neg hlt]
  have d2 : decide (r.2 < s.size) = false := by simpa using hlt
  clear HF hlt
  go_wp2_with fail
  clear d1 d2
  have hgw1 : W.heap.size ≤ w1.heap.size := HB1.out.size
  go_loopw [9, 27] (fun v i wr => ∃ (k : Nat) (l : List Int), k ≤ n1 ∧ i = .int .i64 k ∧ Hid (segsL o.units r.1 = l ++ segsL o.units (r.1.drop k)) ∧ Hid (l.length ≤ 3 * k) ∧ Hid (OwnI wr w1.heap.size v l) ∧ Hid (Below w1.heap.size w1 wr)) (fun _ i _ => n1 - (intOf i).toNat)
  case atStart => exact ⟨0, [], Nat.zero_le _, rfl, rfl, Nat.le_refl _, World.ownsRow_nil _ _ _ _, Below.refl _ _⟩
  case round =>
    obtain ⟨k, l, hk, rfl, HP, HLN, HO, HB⟩ := hrel
    obtain ⟨Av, nv, cv, rfl, _, _, HNV, _⟩ := HO.out.rd.op
    have HBW2 : Hid (Below W.heap.size W wr) := bchain HB1.out HB.out
    by_cases hlt : k < n1
    · obtain ⟨b1, off1, x, hA1, hb1, hdr, e0⟩ := (HI1.out k hlt).below HB.out
      subst hA1
      obtain ⟨j, p, hx, hp⟩ := HUR.out x (List.mem_of_mem_drop (by rw [hdr.out]; exact List.mem_cons_self))
      subst hx
      have hjn : j < n := by rw [← HN.out]; exact (List.getElem?_eq_some_iff.1 hp).1
      have HP2 : Hid (segsL o.units r.1 = (l ++ p.s) ++ segsL o.units (r.1.drop (k + 1))) := by
        rw [Hid, HP.out, hdr.out, segsL, Int.toNat_natCast, hp]
        simp
      obtain ⟨b, off, B2, m2, c2, p', hA, hbl, hdr', _, e2, hrd⟩ := HRW.out wr HBW2.out j hjn
      subst hA
      have hpp : p' = p := by
        have := congrArg (fun l => l[0]?) hdr'.out
        simp only [List.getElem?_drop, Nat.add_zero, List.getElem?_cons_zero] at this
        rw [hp] at this
        exact (Option.some.inj this).symm
      subst hpp
      have hp3 := (HGD.out p' (List.mem_of_getElem? hp)).2.2
      have HLL : Hid (l.length + p'.s.length ≤ 300000000) := by have := HLN.out; rw [Hid]; omega
      have HL3 : Hid (p'.s.length ≤ 3) := hp3
      obtain ⟨z0, z1, z2⟩ := HZ.out wr HBW2.out
      have hbw : w1.heap.size ≤ wr.heap.size := HB.out.size
      have i0 : (0 : Int) ≤ (j : Int) := by omega
      have i1 : (j : Int) < (n : Int) := by omega
      clear hp hdr' hdr HP hp3
      go_wp2_with (at_builtin; refine wpList_app_ints rfl (.tmp 31) (.tmp 37) rfl w1.heap.size (.slice Av nv cv) l rfl HO.out (.slice B2 m2 c2) p'.s rfl hrd.out HLL.out hbw ?_; intro v9 w9 ho hg _; have HO9 := Lib.hid ho; have HB9 : Hid (Below w1.heap.size w1 w9) := HB.out.grown hg HB.out.size (fun j hj => (World.ownsRow.lt HO.out j hj).1); clear ho hg)
      go_roundw
      case rel => exact ⟨k + 1, l ++ p'.s, by omega, by go_num, HP2.out, by rw [Hid, List.length_append]; have := HLN.out; have := HL3.out; omega, HO9.out, HB9.out⟩
      case measure => simp [intOf]; omega
    · have HP2 : Hid (segsL o.units r.1 = l) := by rw [Hid, HP.out, List.drop_of_length_le (by rw [HN1.out]; omega)]; simp [segsL]
      by_cases h24 : 24 < nv
      · have HF3 : Hid (readF o.units s = ([], 0, 5)) := by rw [Hid, HF2.out, HP2.out, HNV.out, if_pos h24]
        have d1 : decide ((24 : Int) < (nv : Int)) = true := by simp; omega
        clear HF2 HP h24
        go_wp2_with fail
        go_ret3
        exact ⟨⟨_, by rw [HF3.out]; rfl, by rw [HF3.out]; exact World.ownsRow_nil _ _ _ _⟩, by rw [HG.out]; exact HBO.out _ HBW2.out⟩
      · have HF3 : Hid (readF o.units s = (l, 0, 0)) := by rw [Hid, HF2.out, HP2.out, HNV.out, if_neg h24]
        have d1 : decide ((24 : Int) < (nv : Int)) = false := by simp; omega
        clear HF2 HP h24
        go_wp2_with fail
        go_ret3
        exact ⟨⟨_, by rw [HF3.out]; rfl, by rw [HF3.out, HG.out]; exact own_base HO.out (by omega)⟩, by rw [HG.out]; exact HBO.out _ HBW2.out⟩
set_option maxHeartbeats 4000000 in
set_option maxRecDepth 100000 in
theorem read17_any (v : Value) (o : PO) (s : ByteArray) (w : World) (hv : RdO w v o) (hso : SmO o) (hg : ∀ p ∈ o.units, GoodU p) (hs : s.size ≤ 67108864) :
    Calls Try.prog 27 #[v, .string s] w fun e w' => RetR w.heap.size (readF o.units s) e w' ∧ Below w.heap.size w w' := by
  have HV := Lib.hid hv
  have HSO := Lib.hid hso
  have HGD := Lib.hid hg
  obtain ⟨vu, vl, rfl, hu, hl⟩ := hv
  obtain ⟨A, n, c, rfl, hnc, hcm, HN, HR⟩ := hu.op
  obtain ⟨B, m, d, rfl, _, _, _, _⟩ := hl.op
  have hn2 : n ≤ 1048576 := by rw [← HN.out]; exact hso.units
  clear hu hl hso hg
  by_cases hz : s.size = 0
  · have hse : s.toList.isEmpty = true := by
      have : s.data = #[] := Array.eq_empty_of_size_eq_zero hz
      rw [ByteArray.toList_eq, this]; rfl
    have HF : Hid (readF o.units s = ([], 0, 4)) := by rw [Hid, readF, if_pos hz]
    clear hz
    go_enter Try.func27, Try.ntmps27
    go_wp2_with fail
    go_ret3
    exact ⟨⟨_, by rw [HF.out]; rfl, by rw [HF.out]; exact World.ownsRow_nil _ _ _ _⟩, by repeat (first | assumption | exact Below.refl _ _ | refine Below.alloc ?_ (by first | omega | (simp; done) | (simp; omega)) _ | refine Below.drew ?_ | refine below_drewN ?_ _ | refine Below.setCell ?_ (by first | omega | (simp; done) | (simp; omega)) _)⟩
  have hse : s.toList.isEmpty = false := by
    rw [ByteArray.toList_eq]
    cases h : s.data.toList with
    | nil =>
      refine absurd ?_ hz
      show s.data.size = 0
      rw [← Array.length_toList, h]; rfl
    | cons _ _ => rfl
  have HF : Hid (readF o.units s = if (unitsF o.units s).2 < s.size then ([], (unitsF o.units s).2, 20)
      else if 24 < (segsL o.units (unitsF o.units s).1).length then ([], 0, 5)
      else (segsL o.units (unitsF o.units s).1, 0, 0)) := by rw [Hid, readF, if_neg hz]
  have HUL := Lib.hid (unitsF_len o.units s HGD.out)
  have HUR : Hid (∀ x ∈ (unitsF o.units s).1, ∃ (j : Nat) (p : PU), x = j ∧ o.units[j]? = some p) := unitsR_range o.units s _ _
  generalize hr : unitsF o.units s = r at HF HUL HUR
  have HRE := Lib.hid hr
  clear hr
  go_enter Try.func27, Try.ntmps27
  go_upto_region 1 with (fail)
  generalize hW : World.alloc w _ = W
  have HBW : Hid (Below w.heap.size w W) := by rw [← hW]; repeat (first | assumption | exact Below.refl _ _ | refine Below.alloc ?_ (by first | omega | (simp; done) | (simp; omega)) _ | refine Below.drew ?_ | refine below_drewN ?_ _ | refine Below.setCell ?_ (by first | omega | (simp; done) | (simp; omega)) _)
  have z0 : W.cell? ⟨w.heap.size, 0, none⟩ = some (.string o.name) := by rw [← hW]; simp [go_sem]
  have z1 : W.cell? ⟨w.heap.size, 1, none⟩ = some (.slice A n c) := by rw [← hW]; simp [go_sem]
  have z2 : W.cell? ⟨w.heap.size, 2, none⟩ = some (.slice B m d) := by rw [← hW]; simp [go_sem]
  have hgW : w.heap.size < W.heap.size := by rw [← hW]; simp
  have HZ : Hid (∀ W' : World, Below W.heap.size W W' → W'.cell? ⟨w.heap.size, 0, none⟩ = some (.string o.name) ∧ W'.cell? ⟨w.heap.size, 1, none⟩ = some (.slice A n c) ∧ W'.cell? ⟨w.heap.size, 2, none⟩ = some (.slice B m d)) := fun W' h => ⟨cell_keep hgW z0 h, cell_keep hgW z1 h, cell_keep hgW z2 h⟩
  have HRW : Hid (∀ W' : World, Below W.heap.size W W' → ∀ k, k < n → UAt W' A o.units k) := fun W' h k hk => ((HR.out k hk).below HBW.out).below h
  have HV : Hid (RdO W (.agg #[.string o.name, .slice A n c, .slice B m d]) o) := HV.out.below HBW.out
  have HBO : Hid (∀ W' : World, Below W.heap.size W W' → Below w.heap.size w W') := fun W' h => bchain HBW.out h
  have hle : w.heap.size ≤ W.heap.size := by omega
  clear hW HR HBW hgW
  generalize hg : w.heap.size = g at HZ HBO hle z0 z1 z2 ⊢
  have HG := Lib.hid hg
  clear hg
  go_wp2_with fail
  refine (units17_any _ o s _ HV.out HSO.out HGD.out hs).mono ?_
  rw [HRE.out]
  rintro e w1 ⟨⟨v1, rfl, hO1⟩, hb⟩
  obtain ⟨A1, n1, c1, rfl, _, _, HN1, HI1⟩ := hO1.rd.op
  have HB1 := Lib.hid hb
  clear hb hO1 z0 z1 z2
  have hr1 := HUL.out.1
  have hr2 := HUL.out.2
  rw [HN1.out] at hr1
  by_cases hlt : r.2 < s.size
  · have d1 : decide ((r.2 : Int) < (s.size : Int)) = true := by simp; omega
    have HF2 : Hid (readF o.units s = ([], r.2, 20)) := by rw [Hid, HF.out, if_pos hlt]
    clear HF
    go_wp2_with fail
    go_ret3
    exact ⟨⟨_, by rw [HF2.out]; rfl, by rw [HF2.out]; exact World.ownsRow_nil _ _ _ _⟩, by rw [HG.out]; exact HBO.out _ HB1.out⟩
  have d1 : decide ((r.2 : Int) < (s.size : Int)) = false := by simp; omega
  have HF2 : Hid (readF o.units s = if 24 < (segsL o.units r.1).length then ([], 0, 5) else (segsL o.units r.1, 0, 0)) := by rw [Hid, HF.out, if_neg hlt]
  have d2 : decide (r.2 < s.size) = false := by simpa using hlt
  clear HF hlt
  go_wp2_with fail
  clear d1 d2
  have hgw1 : W.heap.size ≤ w1.heap.size := HB1.out.size
  go_loopw [9, 10] (fun v i wr => ∃ (k : Nat) (l : List Int), k ≤ n1 ∧ i = .int .i64 k ∧ Hid (segsL o.units r.1 = l ++ segsL o.units (r.1.drop k)) ∧ Hid (l.length ≤ 3 * k) ∧ Hid (OwnI wr w1.heap.size v l) ∧ Hid (Below w1.heap.size w1 wr)) (fun _ i _ => n1 - (intOf i).toNat)
  case atStart => exact ⟨0, [], Nat.zero_le _, rfl, rfl, Nat.le_refl _, World.ownsRow_nil _ _ _ _, Below.refl _ _⟩
  case round =>
    obtain ⟨k, l, hk, rfl, HP, HLN, HO, HB⟩ := hrel
    obtain ⟨Av, nv, cv, rfl, _, _, HNV, _⟩ := HO.out.rd.op
    have HBW2 : Hid (Below W.heap.size W wr) := bchain HB1.out HB.out
    by_cases hlt : k < n1
    · obtain ⟨b1, off1, x, hA1, hb1, hdr, e0⟩ := (HI1.out k hlt).below HB.out
      subst hA1
      obtain ⟨j, p, hx, hp⟩ := HUR.out x (List.mem_of_mem_drop (by rw [hdr.out]; exact List.mem_cons_self))
      subst hx
      have hjn : j < n := by rw [← HN.out]; exact (List.getElem?_eq_some_iff.1 hp).1
      have HP2 : Hid (segsL o.units r.1 = (l ++ p.s) ++ segsL o.units (r.1.drop (k + 1))) := by
        rw [Hid, HP.out, hdr.out, segsL, Int.toNat_natCast, hp]
        simp
      obtain ⟨b, off, B2, m2, c2, p', hA, hbl, hdr', _, e2, hrd⟩ := HRW.out wr HBW2.out j hjn
      subst hA
      have hpp : p' = p := by
        have := congrArg (fun l => l[0]?) hdr'.out
        simp only [List.getElem?_drop, Nat.add_zero, List.getElem?_cons_zero] at this
        rw [hp] at this
        exact (Option.some.inj this).symm
      subst hpp
      have hp3 := (HGD.out p' (List.mem_of_getElem? hp)).2.2
      have HLL : Hid (l.length + p'.s.length ≤ 300000000) := by have := HLN.out; rw [Hid]; omega
      have HL3 : Hid (p'.s.length ≤ 3) := hp3
      obtain ⟨z0, z1, z2⟩ := HZ.out wr HBW2.out
      have hbw : w1.heap.size ≤ wr.heap.size := HB.out.size
      have i0 : (0 : Int) ≤ (j : Int) := by omega
      have i1 : (j : Int) < (n : Int) := by omega
      clear hp hdr' hdr HP hp3
      have HX2 := Lib.hid hrd
      have E0 := Lib.hid e0
      have E2 := Lib.hid e2
      clear z0 z1 z2 e0 e2 hrd
      have HS : Hid (∀ w' : World, Below wr.heap.size wr w' → w'.cell? ⟨g, 0, none⟩ = some (.string o.name) ∧ w'.cell? ⟨g, 1, none⟩ = some (.slice (some ⟨b, off, none⟩) n c) ∧ w'.cell? ⟨g, 2, none⟩ = some (.slice B m d) ∧ w'.cell? ⟨b1, off1 + k, none⟩ = some (.int .i64 j) ∧ w'.cell? ⟨b, off + j * 2 + 1, none⟩ = some (.slice B2 m2 c2)) := fun w' h => by
        obtain ⟨z0, z1, z2⟩ := HZ.out w' (bchain HBW2.out h)
        exact ⟨z0, z1, z2, cell_keep hb1 E0.out h, cell_keep hbl E2.out h⟩
      go_wp2_with fail
      refine wp_region_ord 7 [1, 2, 3, 4, 5, 6] [0] [0, 1, 2, 3, 4, 5, 6] [7, 8, 9, 10, 11] (fun w' => Below wr.heap.size wr w') (by kernel_rfl) (by kernel_rfl) ?_
      rintro D hD
      have HSD : Hid (Below wr.heap.size wr D) := by rw [hD]; exact (Below.refl _ _).drew
      clear hD
      refine ⟨HSD.out, ?_⟩
      iterate 7 (refine wpHead_cons (v := ?_) rfl rfl (fun w' hS => ?_) ?_; rotate_left; (focus ((try obtain ⟨s0, s1, s2, s3, s4⟩ := HS.out _ (hS rfl)); clear hS; go_simp; try with_reducible rfl; done)); (try simp only [Act.put, List.setIfInBounds_toArray, List.set_cons_zero, List.set_cons_succ]))
      refine wpHead_nil ?_
      refine wpTail_rest 7 rfl ?_
      simp only [List.drop_succ_cons, List.drop_zero]
      obtain ⟨s0, s1, s2, s3, s4⟩ := HS.out D HSD.out
      have HOD : Hid (OwnI D w1.heap.size (.slice Av nv cv) l) := own_below HO.out HSD.out
      have HRD : Hid (RdI D (.slice B2 m2 c2) p'.s) := HX2.out.below HSD.out
      have HBD : Hid (Below w1.heap.size w1 D) := bchain HB.out HSD.out
      have hbd : w1.heap.size ≤ D.heap.size := HBD.out.size
      go_wp2_with (at_builtin; refine wpList_app_ints rfl (.tmp 30) (.tmp 39) rfl w1.heap.size (.slice Av nv cv) l rfl HOD.out (.slice B2 m2 c2) p'.s rfl HRD.out HLL.out hbd ?_; intro v9 w9 ho hg _; have HO9 := Lib.hid ho; have HB9 : Hid (Below w1.heap.size w1 w9) := HBD.out.grown hg HBD.out.size (fun j hj => (World.ownsRow.lt HOD.out j hj).1); clear ho hg)
      refine NoPanic.normal ?_
      go_wp2_with fail
      go_roundw
      case rel => exact ⟨k + 1, l ++ p'.s, by omega, by go_num, HP2.out, by rw [Hid, List.length_append]; have := HLN.out; have := HL3.out; omega, HO9.out, HB9.out⟩
      case measure => simp [intOf]; omega
    · have HP2 : Hid (segsL o.units r.1 = l) := by rw [Hid, HP.out, List.drop_of_length_le (by rw [HN1.out]; omega)]; simp [segsL]
      by_cases h24 : 24 < nv
      · have HF3 : Hid (readF o.units s = ([], 0, 5)) := by rw [Hid, HF2.out, HP2.out, HNV.out, if_pos h24]
        have d1 : decide ((24 : Int) < (nv : Int)) = true := by simp; omega
        clear HF2 HP h24
        go_wp2_with fail
        go_ret3
        exact ⟨⟨_, by rw [HF3.out]; rfl, by rw [HF3.out]; exact World.ownsRow_nil _ _ _ _⟩, by rw [HG.out]; exact HBO.out _ HBW2.out⟩
      · have HF3 : Hid (readF o.units s = (l, 0, 0)) := by rw [Hid, HF2.out, HP2.out, HNV.out, if_neg h24]
        have d1 : decide ((24 : Int) < (nv : Int)) = false := by simp; omega
        clear HF2 HP h24
        go_wp2_with fail
        go_ret3
        exact ⟨⟨_, by rw [HF3.out]; rfl, by rw [HF3.out, HG.out]; exact own_base HO.out (by omega)⟩, by rw [HG.out]; exact HBO.out _ HBW2.out⟩
end Go.Proofs.Ytokbclpdpegicaa
