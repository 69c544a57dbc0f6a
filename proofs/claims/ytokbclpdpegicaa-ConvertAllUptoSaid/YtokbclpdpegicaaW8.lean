/-
  has and Check of the reference of orthographies.
-/
import Derived.Test.YtokbclpdpegicaaW7
namespace Go.Proofs.Ytokbclpdpegicaa
open Go.ChangeShapes Go.WideShapes Go.ChangeAt Go.RowKit
theorem infoT0 : (Try.prog.info? 9).map (fun i => (i.zero, i.size, i.bytes)) = some (some (.string ⟨#[]⟩), 1, 16) := by kernel_rfl
def OwnS (w : World) (base : Nat) (v : Value) (l : List ByteArray) : Prop := w.ownsRow base 9 1 v l.length (l.map Value.string)
theorem OwnS.rd {w : World} {base : Nat} {v : Value} {l : List ByteArray} (h : OwnS w base v l) : RdS w v l := Rd.own h
theorem wpList_app_str {ops : Array Oper} {rest : List Oper} {o : Oper} {a : Act} {Q : Exit → Act → World → Prop} {w : World} (hgd : o.guard = none) (s x : Operand)
    (ho : o.op = .call { callee := .builtin .append, args := #[s, x], argTypes := #[43, 43] })
    (base : Nat) (v : Value) (l : List ByteArray) (hs : a.eval s = v) (hown : OwnS w base v l) (x0 : ByteArray) (m : Nat) (hm : Hid (l.length = m)) (hl : m ≤ 1000000000) (hbase : base ≤ w.heap.size)
    (hx : a.eval x = .slice (some ⟨w.heap.size, 0, none⟩) 1 1)
    (h : ∀ g' cap w', OwnS w' base (.slice (some ⟨g', 0, none⟩) (m + 1) cap) (l ++ [x0]) → base ≤ g' → w.grownBy w' v.ownBlock → wpList Try.prog ops Q rest (a.put o.dst (.slice (some ⟨g', 0, none⟩) (m + 1) cap)) w') :
    wpList Try.prog ops Q (o :: rest) a (w.alloc (.cells #[.string x0] 9)) := by
  obtain rfl := hm.out
  obtain ⟨i0, hi, hz0, hz1, hz2⟩ := info_parts infoT0
  refine wpList_append_own _ hgd s x 43 ho base 9 i0 _ 1 16 Try.underlying43 hi hz0 hz1 hz2 rfl (by decide) v l.length (l.map Value.string) hs (World.ownsRow.alloc hown _) ⟨w.heap.size, 0, none⟩ 1 1
    [.string x0] hx rfl ?_ ?_ (by simp only [maxLen]; omega) (by omega) (by simp; omega) ?_
  · intro j u hu
    match j, hu with
    | 0, hu => simp at hu; subst hu; simp [go_sem, Addr.add]
  · intro u hu
    simp at hu
    subst hu
    rfl
  · intro v' w' h1 h2 _
    obtain ⟨g', cap, rfl, hg1, hg2⟩ := h1.form (by omega)
    refine h g' cap w' ?_ hg1 ?_
    · unfold OwnS
      rw [List.map_append, List.length_append]
      exact h1
    · exact ⟨h2.os, h2.tape, h2.output, Nat.le_trans (by simp) h2.size, fun k hk hne => (h2.block k (by simp; omega) hne).trans (Below.heap_alloc w _ k hk)⟩
set_option maxHeartbeats 2000000 in
set_option maxRecDepth 100000 in
theorem has17_any (v : Value) (l : List ByteArray) (s : ByteArray) (w : World) (hv : RdS w v l) (_ : l.length ≤ 1000000000) :
    Calls Try.prog 55 #[v, .string s] w fun e w' => RetB AnyB e ∧ w = w' := by
  obtain ⟨A, n, c, rfl, hnc, hcm, HN, HR⟩ := hv.op
  clear hv
  go_enter Try.func55, Try.ntmps55
  go_wp2_with fail
  go_loop [5] (fun i => ∃ k : Nat, k ≤ n ∧ i = .int .i64 k) (fun i => n - (intOf i).toNat)
  case atStart => exact ⟨0, Nat.zero_le _, rfl⟩
  case round =>
    obtain ⟨k, hk, rfl⟩ := hrel
    by_cases hlt : k < n
    · obtain ⟨b, off, x, rfl, hbl, _, e0⟩ := HR.out k hlt
      cases hq : (x.toList == s.toList)
      · go_wp2_with fail
        go_round
        case rel => exact ⟨k + 1, by omega, by go_num⟩
        case measure => simp [intOf]; omega
      · go_wp2_with fail
        go_ret
        exact ⟨RetB.mk (Q := AnyB) trivial, rfl⟩
    · go_wp2_with fail
      go_ret
      exact ⟨RetB.mk (Q := AnyB) trivial, rfl⟩
theorem nil_le (i : Nat) : Hid (([] : List ByteArray).length ≤ i) := Nat.zero_le i
theorem le_add0 {a b : Nat} (h : a ≤ b) : Hid (a ≤ b + 0) := h
theorem good_app {A : List PU} {q : PU} (h : ∀ p ∈ A, GoodU p) (hq : GoodU q) : ∀ p ∈ A ++ [q], GoodU p := by
  intro p hp
  rcases List.mem_append.1 hp with h1 | h1
  · exact h p h1
  · simp at h1; subst h1; exact hq
/-- the units before i: good, and with graphs of their own -/
def GoodTo (us : List PU) (i : Nat) : Prop := (∀ p ∈ us.take i, GoodU p) ∧ ∀ (j k : Nat) (p q : PU), j < k → k < i → us[j]? = some p → us[k]? = some q → (p.g.toList == q.g.toList) = false
/-- good units, with graphs of their own -/
def GoodO (us : List PU) : Prop := (∀ p ∈ us, GoodU p) ∧ ∀ (j k : Nat) (p q : PU), j < k → us[j]? = some p → us[k]? = some q → (p.g.toList == q.g.toList) = false
theorem GoodTo.next {us : List PU} {i : Nat} {p : PU} (h : GoodTo us i) (hp : us[i]? = some p) (hu : GoodU p ∧ ∀ (k : Nat) (q : PU), k < i → us[k]? = some q → (q.g.toList == p.g.toList) = false) : GoodTo us (i + 1) := by
  refine ⟨by rw [List.take_add_one, hp]; exact good_app h.1 hu.1, fun j k p' q hjk hk hj hq => ?_⟩
  by_cases hki : k < i
  · exact h.2 j k p' q hjk hki hj hq
  · obtain rfl : k = i := by omega
    rw [hp] at hq
    cases hq
    exact hu.2 j p' hjk hj
theorem GoodTo.all {us : List PU} {i : Nat} (h : GoodTo us i) (hi : us.length ≤ i) : GoodO us :=
  ⟨fun p hp => h.1 p (by rwa [List.take_of_length_le hi]), fun j k p q hjk hj hk => h.2 j k p q hjk (by have := (List.getElem?_eq_some_iff.1 hk).1; omega) hj hk⟩
def CheckQ (o : PO) (x : Int) : Prop := x = 0 → GoodO o.units
theorem CheckQ.ne {o : PO} {x : Int} (h : x ≠ 0) : CheckQ o x := fun h' => absurd h' h
set_option maxHeartbeats 8000000 in
set_option maxRecDepth 100000 in
theorem check17_any (vi vo : Value) (L : List PPh) (o : PO) (w : World) (hvi : RdPh w vi L) (hvo : RdO w vo o) (hso : SmO o) :
    Calls Try.prog 39 #[.agg #[vi], vo] w fun e w' => RetE (CheckQ o) e ∧ Below w.heap.size w w' := by
  have HVI := Lib.hid hvi
  have HVO := Lib.hid hvo
  have HSO := Lib.hid hso
  obtain ⟨Ai, ni, ci, rfl, _, _, _, _⟩ := hvi.op
  obtain ⟨vu, vl, rfl, hu, hl⟩ := hvo
  obtain ⟨A, n, c, rfl, hnc, hcm, HN, HR⟩ := hu.op
  obtain ⟨B, m, d, rfl, hmd, hdm, HM, HRL⟩ := hl.op
  have hns : o.name.size ≤ 1048576 := hso.name
  have hn2 : n ≤ 1048576 := by rw [← HN.out]; exact hso.units
  have hm2 : m ≤ 1048576 := by rw [← HM.out]; exact hso.letters
  clear hvi hu hl hso HR
  go_enter Try.func39, Try.ntmps39
  go_upto_region 1 with (fail)
  generalize hW : World.alloc (World.alloc w _) _ = W
  have HBW : Hid (Below w.heap.size w W) := by rw [← hW]; repeat (first | assumption | exact Below.refl _ _ | refine Below.alloc ?_ (by first | omega | (simp; done) | (simp; omega)) _ | refine Below.drew ?_ | refine below_drewN ?_ _ | refine Below.setCell ?_ (by first | omega | (simp; done) | (simp; omega)) _)
  have z0 : W.cell? ⟨w.heap.size, 0, none⟩ = some (.slice Ai ni ci) := by rw [← hW]; simp [go_sem]
  have z1 : W.cell? ⟨w.heap.size + 1, 0, none⟩ = some (.string o.name) := by rw [← hW]; simp [go_sem]
  have z2 : W.cell? ⟨w.heap.size + 1, 1, none⟩ = some (.slice A n c) := by rw [← hW]; simp [go_sem]
  have z3 : W.cell? ⟨w.heap.size + 1, 2, none⟩ = some (.slice B m d) := by rw [← hW]; simp [go_sem]
  have hgW : w.heap.size + 1 < W.heap.size := by rw [← hW]; simp
  clear hW
  have HZ : Hid (∀ W' : World, Below W.heap.size W W' → W'.cell? ⟨w.heap.size, 0, none⟩ = some (.slice Ai ni ci) ∧ W'.cell? ⟨w.heap.size + 1, 0, none⟩ = some (.string o.name) ∧ W'.cell? ⟨w.heap.size + 1, 1, none⟩ = some (.slice A n c) ∧ W'.cell? ⟨w.heap.size + 1, 2, none⟩ = some (.slice B m d)) := fun W' h =>
    ⟨cell_keep (by omega) z0 h, cell_keep (by omega) z1 h, cell_keep (by omega) z2 h, cell_keep (by omega) z3 h⟩
  have HRW : Hid (∀ k, k < m → SSAt W B o.letters k) := fun k hk => (HRL.out k hk).below HBW.out
  have HVI : Hid (RdPh W (.slice Ai ni ci) L) := HVI.out.below HBW.out
  have HVO : Hid (RdO W (.agg #[.string o.name, .slice A n c, .slice B m d]) o) := HVO.out.below HBW.out
  have HBO : Hid (∀ W' : World, Below W.heap.size W W' → Below w.heap.size w W') := fun W' h => bchain HBW.out h
  clear HBW HRL z0 z1 z2 z3 hgW
  generalize hg : w.heap.size = g at HZ HBO ⊢
  have HG := Lib.hid hg
  clear hg
  obtain ⟨z0, z1, z2, z3⟩ := HZ.out W (Below.refl _ _)
  go_wp2_with fail
  refine (name_any o.name _ hns).mono ?_
  rintro e w2 ⟨⟨ok, rfl, _⟩, rfl⟩
  cases ok
  · go_wp2_with fail
    go_ret
    exact ⟨RetE.mk (CheckQ.ne (by decide)), by rw [HG.out]; exact HBO.out _ (Below.refl _ _)⟩
  by_cases h100 : 100 < n
  · have d1 : decide ((100 : Int) < (n : Int)) = true := by simp; omega
    go_wp2_with fail
    go_ret
    exact ⟨RetE.mk (CheckQ.ne (by decide)), by rw [HG.out]; exact HBO.out _ (Below.refl _ _)⟩
  have d1 : decide ((100 : Int) < (n : Int)) = false := by simp; omega
  go_wp2_with fail
  clear z0 z1 z2 z3 d1
  go_loopw [5, 6] (fun x _ wr => ∃ i : Nat, i ≤ n ∧ x = .int .i64 i ∧ Hid (GoodTo o.units i) ∧ Hid (Below W.heap.size W wr)) (fun x _ _ => n - (intOf x).toNat)
  case atStart => exact ⟨0, Nat.zero_le _, rfl, ⟨fun p hp => by simp at hp, fun j k p q _ h => absurd h (by omega)⟩, Below.refl _ _⟩
  case round =>
    obtain ⟨i, hi, rfl, HGU, HB⟩ := hrel
    obtain ⟨z0, z1, z2, z3⟩ := HZ.out wr HB.out
    by_cases hlt : i < n
    · have hil : i < o.units.length := by rw [HN.out]; exact hlt
      obtain ⟨pu, HGI⟩ : ∃ q, Hid (o.units[i]? = some q) := ⟨_, List.getElem?_eq_getElem hil⟩
      clear hil
      go_wp2_with fail
      refine (unit17_any _ _ L o i pu _ (HVI.out.below HB.out) (HVO.out.below HB.out) HGI.out HSO.out).mono ?_
      rintro e w2 ⟨⟨x, rfl, hq⟩, hb⟩
      have HQ := Lib.hid hq
      have HB2 := Lib.hid (bchain HB.out hb)
      clear hq hb z0 z1 z2 z3
      obtain ⟨z0, z1, z2, z3⟩ := HZ.out w2 HB2.out
      by_cases hx : x = 0
      · have dx : (x != 0) = false := by simp [hx]
        have HX := Lib.hid hx
        clear hx
        go_wp2_with fail
        go_roundw
        case rel => exact ⟨i + 1, by omega, by go_num, HGU.out.next HGI.out (HQ.out HX.out), HB2.out⟩
        case measure => simp [intOf]; omega
      · have dx : (x != 0) = true := by simp [hx]
        have HX := Lib.hid hx
        clear hx
        go_wp2_with fail
        go_ret
        exact ⟨RetE.mk (CheckQ.ne HX.out), by rw [HG.out]; exact HBO.out _ HB2.out⟩
    · have HGA : Hid (CheckQ o 0) := fun _ => HGU.out.all (by rw [HN.out]; omega)
      clear HGU
      by_cases h100 : 100 < m
      · have d1 : decide ((100 : Int) < (m : Int)) = true := by simp; omega
        go_wp2_with fail
        go_ret
        exact ⟨RetE.mk (CheckQ.ne (by decide)), by rw [HG.out]; exact HBO.out _ HB.out⟩
      have d1 : decide ((100 : Int) < (m : Int)) = false := by simp; omega
      go_wp2_with fail
      clear z0 z1 z2 z3 d1
      obtain ⟨wo, rfl⟩ : ∃ wo : World, wo = wr := ⟨_, rfl⟩
      go_loopw [7, 8, 9, 10] (fun v x _ _ wr => ∃ (i : Nat) (l : List ByteArray), i ≤ m ∧ x = .int .i64 i ∧ Hid (l.length ≤ i * 1048576) ∧ Hid (OwnS wr W.heap.size v l) ∧ Hid (Below W.heap.size W wr)) (fun _ x _ _ _ => m - (intOf x).toNat)
      case atStart =>
        refine ⟨0, [], Nat.zero_le _, rfl, nil_le _, ?_, HB.out⟩
        exact World.ownsRow_nil _ _ _ _
      case round =>
        obtain ⟨i2, l, hi2, rfl, HLN, HO, HB5⟩ := hrel
        obtain ⟨z0, z1, z2, z3⟩ := HZ.out wr HB5.out
        by_cases hlt2 : i2 < m
        · obtain ⟨b, off, B2, m3, c3, ls, rfl, hbl, hdr, eW, hrl⟩ := HRW.out i2 hlt2
          have e0 := cell_keep hbl eW HB5.out
          have EW := Lib.hid eW
          clear eW
          obtain ⟨_, _, _, h0, hmc3, hcm3, HNL, HRS⟩ := hrl.out.op
          cases h0
          have hls := HSO.out.letter ls (List.mem_of_mem_drop (by rw [hdr.out]; exact List.mem_cons_self))
          have hm3 : m3 ≤ 1048576 := by rw [← HNL.out]; exact hls.1
          have HSM : Hid (∀ s ∈ ls, SmS s) := hls.2
          have HDR := Lib.hid hdr
          clear hls hrl hdr
          by_cases hm0 : m3 = 0
          · subst hm0
            go_wp2_with fail
            go_ret
            exact ⟨RetE.mk (CheckQ.ne (by decide)), by rw [HG.out]; exact HBO.out _ HB5.out⟩
          have d0 : ((m3 : Int) == 0) = false := by simp [hm0]
          go_wp2_with fail
          clear z0 z1 z2 z3 d0 e0
          obtain ⟨wo2, rfl⟩ : ∃ wo : World, wo = wr := ⟨_, rfl⟩
          go_loopw [7, 9, 10] (fun v x _ wr => ∃ (j : Nat) (l : List ByteArray), j ≤ m3 ∧ x = .int .i64 j ∧ Hid (l.length ≤ i2 * 1048576 + j) ∧ Hid (OwnS wr W.heap.size v l) ∧ Hid (Below W.heap.size W wr)) (fun _ x _ _ => m3 - (intOf x).toNat)
          case atStart => exact ⟨0, l, Nat.zero_le _, rfl, le_add0 HLN.out, HO.out, HB5.out⟩
          case round =>
            obtain ⟨j, l, hj, rfl, HLN, HO, HB6⟩ := hrel
            obtain ⟨z0, z1, z2, z3⟩ := HZ.out wr HB6.out
            have e0 := cell_keep hbl EW.out HB6.out
            obtain ⟨Av, nv, cv, rfl, _, _, HNV, _⟩ := HO.out.rd.op
            by_cases hjt : j < m3
            · obtain ⟨b5, off5, sx, rfl, hbl5, hdr5, f0⟩ := (HRS.out j hjt).below HB6.out
              have hsx : sx.size ≤ 1048576 := HSM.out sx (List.mem_of_mem_drop (by rw [hdr5.out]; exact List.mem_cons_self))
              have hnv : nv ≤ 1000000000 := by have := HLN.out; have := HNV.out; omega
              clear hdr5
              go_wp2_with fail
              refine (label17_any sx _ hsx).mono ?_
              rintro e w7 ⟨⟨ok, rfl, _⟩, hb⟩
              have HB7 := Lib.hid (bchain HB6.out hb)
              have HO7 : Hid (OwnS w7 W.heap.size (.slice Av nv cv) l) := own_below HO.out hb
              clear hb z0 z1 z2 z3 e0 f0
              cases ok
              · go_wp2_with fail
                go_ret
                exact ⟨RetE.mk (CheckQ.ne (by decide)), by rw [HG.out]; exact HBO.out _ HB7.out⟩
              go_wp2_with fail
              refine (has17_any _ l sx _ HO7.out.rd (by rw [HNV.out]; exact hnv)).mono ?_
              rintro e w8 ⟨⟨hx, rfl, _⟩, rfl⟩
              cases hx
              rotate_left
              · go_wp2_with fail
                go_ret
                exact ⟨RetE.mk (CheckQ.ne (by decide)), by rw [HG.out]; exact HBO.out _ HB7.out⟩
              have hbl8 : W.heap.size ≤ w7.heap.size := HB7.out.size
              go_wp2_with (at_builtin; refine wpList_app_str rfl (.tmp 75) (.tmp 77) rfl W.heap.size (.slice Av nv cv) l rfl HO7.out sx nv HNV hnv hbl8 rfl ?_; intro g' cap' w9 ho hge hg; have HO9 := Lib.hid ho; have HG9 := Lib.hid hg; clear ho hg)
              go_roundw
              case rel => exact ⟨j + 1, l ++ [sx], by omega, by go_num, by rw [Hid, List.length_append]; have := HLN.out; simp; omega, HO9.out, HB7.out.grown HG9.out HB7.out.size (fun j hj => (World.ownsRow.lt HO7.out j hj).1)⟩
              case measure => simp [intOf]; omega
            · obtain rfl : j = m3 := by omega
              go_wp2_with fail
              go_roundw
              case rel => exact ⟨i2 + 1, l, by omega, by go_num, by rw [Hid]; have := HLN.out; omega, HO.out, HB6.out⟩
              case measure => simp [intOf]; omega
        · go_wp2_with fail
          go_ret
          exact ⟨RetE.mk HGA.out, by rw [HG.out]; exact HBO.out _ HB5.out⟩
end Go.Proofs.Ytokbclpdpegicaa
