/-
  The walk of the statement All.
-/
import Derived.Test.YtokbclpdpegicaaW35
import Derived.Test.YtokbclpdpegicaaWP6
namespace Go.Proofs.Ytokbclpdpegicaa
open Go.ChangeShapes Go.WideShapes Go.ChangeAt Go.RowKit
structure AllL (us : List PU) (s : ByteArray) (w : List Int) (L : List ByteArray) : Prop where
  read : ∀ t ∈ L, readF us t = (w, 0, 0)
  has : s ∈ L
  up : L.Pairwise (fun x y => Op.bytesLess x.toList y.toList = true)
  size : ∀ t ∈ L, t.size ≤ 67108864
  len : L.length ≤ 500
theorem all_facts {us : List PU} {s : ByteArray} {w : List Int} {M : List Bool} (hg : ∀ p ∈ us, GoodU p) (hsm : ∀ p ∈ us, SmS p.g) (ho : ∀ (j k : Nat) (p q : PU), j < k → us[j]? = some p → us[k]? = some q → (p.g.toList == q.g.toList) = false)
    (hr : readF us s = (w, 0, 0)) (hM : GoodR us w M) (hc : (capT us w w.length).getD 0 0 ≤ 500) : AllL us s w ((sortT ((etab us w (fun i => M.getD i false) w.length).getD 0 [])).take 1000) := by
  have hlen := fine_len hg hM hc w.length (Nat.le_refl _) 0
  obtain ⟨l, hd, hl, h1⟩ := div_of_read hg (s := s) (by rw [hr])
  rw [hr] at hl h1
  have h24 : w.length ≤ 24 := by have := readF_len us s; rw [hr] at this; exact this
  rw [List.take_of_length_le (by rw [sortT_len]; omega)]
  refine ⟨fun t ht => ?_, ?_, sortT_up (etab_nodup w _ (own_pair ho) w.length 0), fun t ht => ?_, by rw [sortT_len]; exact hlen⟩
  · obtain ⟨l', h2, h3⟩ := ends_div hg ho w _ w.length w.length (Nat.le_refl _) (Nat.le_refl _) t (mem_sortT.1 ht)
    rw [Nat.sub_self, List.drop_zero] at h3
    rw [read_of_div hg h2 (by rw [h3]; exact h1) (by rw [h3]; exact h24), h3]
  · refine mem_sortT.2 (div_ends hg hM hd w.length (Nat.le_refl _) ?_ ?_)
    · rw [hl, Nat.sub_self, List.drop_zero]
    · rw [Nat.sub_self]; exact hM.zero
  · have := etab_sz us w (fun i => M.getD i false) hsm w.length 0 t (mem_sortT.1 ht)
    omega
def anyT (s : ByteArray) (L : List ByteArray) : Bool := L.any fun t => t.toList == s.toList
theorem anyT_next {s t : ByteArray} {L r : List ByteArray} {i : Nat} (h : L.drop i = t :: r) : anyT s (L.take (i + 1)) = (anyT s (L.take i) || (t.toList == s.toList)) := by
  have : L[i]? = some t := by
    have := congrArg (fun l => l[0]?) h
    simpa [List.getElem?_drop] using this
  rw [List.take_add_one, this, anyT, anyT, List.any_append]
  simp
theorem anyT_all {s : ByteArray} {L : List ByteArray} (h : s ∈ L) : anyT s L = true := by
  rw [anyT, List.any_eq_true]
  exact ⟨s, h, by simp⟩
set_option maxHeartbeats 8000000 in
set_option maxRecDepth 100000 in
theorem all_law_any (v : Value) (x : PAsk) (w : World) (hv : RdK w v x) (hs : SmK x) :
    Calls Try.prog 6 #[v] w fun e w' => e = .returned (.bool true) ∧ Below w.heap.size w w' := by
  have HS := Lib.hid hs
  have HKV := Lib.hid hv
  obtain ⟨vi, ua, la, ub, lb, rfl, hi, ha, hb⟩ := hv
  have HA := Lib.hid ha
  have HB := Lib.hid hb
  obtain ⟨Ai, ni, ci, rfl, _, _, HNI, _⟩ := hi.op
  obtain ⟨A1, n1, c1, B1, m1, d1, he, _, _, _, _⟩ := ha.op
  obtain ⟨A2, n2, c2, B2, m2, d2, he2, _, _, _, _⟩ := hb.op
  cases he
  cases he2
  clear hi ha hb hs
  go_enter Try.func6, Try.ntmps6
  go_upto_region 1 with (fail)
  generalize hW : World.alloc w _ = W
  have HBW : Hid (Below w.heap.size w W) := by rw [← hW]; repeat (first | assumption | exact Below.refl _ _ | refine Below.alloc ?_ (by first | omega | (simp; done) | (simp; omega)) _ | refine Below.drew ?_ | refine below_drewN ?_ _ | refine Below.setCell ?_ (by first | omega | (simp; done) | (simp; omega)) _)
  have HK : Hid (W.heap[w.heap.size]? = some (.cells #[.slice Ai ni ci, .string x.a.name, .slice A1 n1 c1, .slice B1 m1 d1, .string x.b.name, .slice A2 n2 c2, .slice B2 m2 d2, .string x.s, .string x.t] 30 (0, 0))) := by rw [← hW]; exact heap_alloc_new w _
  have hgW : w.heap.size < W.heap.size := by rw [← hW]; simp
  have HKW : Hid (RdK W _ x) := HKV.out.below HBW.out
  have HVA : Hid (∀ W' : World, Below W.heap.size W W' → RdO W' (.agg #[.string x.a.name, .slice A1 n1 c1, .slice B1 m1 d1]) x.a) := fun W' h => (HA.out.below HBW.out).below h
  have HVB : Hid (∀ W' : World, Below W.heap.size W W' → RdO W' (.agg #[.string x.b.name, .slice A2 n2 c2, .slice B2 m2 d2]) x.b) := fun W' h => (HB.out.below HBW.out).below h
  have HBO : Hid (∀ W' : World, Below W.heap.size W W' → Below w.heap.size w W') := fun W' h => bchain HBW.out h
  clear HBW hW
  generalize hg : w.heap.size = g at HK HBO hgW ⊢
  have HG := Lib.hid hg
  clear hg
  have HZ : Hid (∀ W' : World, Below W.heap.size W W' → W'.cell? ⟨g, 0, none⟩ = some (.slice Ai ni ci) ∧ W'.cell? ⟨g, 1, none⟩ = some (.string x.a.name) ∧ W'.cell? ⟨g, 2, none⟩ = some (.slice A1 n1 c1) ∧ W'.cell? ⟨g, 3, none⟩ = some (.slice B1 m1 d1) ∧ W'.cell? ⟨g, 4, none⟩ = some (.string x.b.name) ∧ W'.cell? ⟨g, 5, none⟩ = some (.slice A2 n2 c2) ∧ W'.cell? ⟨g, 6, none⟩ = some (.slice B2 m2 d2) ∧ W'.cell? ⟨g, 7, none⟩ = some (.string x.s) ∧ W'.cell? ⟨g, 8, none⟩ = some (.string x.t)) := fun W' h => by
    have hk := (h.block g hgW).trans HK.out
    refine ⟨?_, ?_, ?_, ?_, ?_, ?_, ?_, ?_, ?_⟩ <;> (rw [cell_of_row W' g _ _ _ (0, 0) hk]; rfl)
  clear HK
  obtain ⟨z0, z1, z2, z3, z4, z5, z6, z7, z8⟩ := HZ.out W (Below.refl _ _)
  go_wp2_with fail
  refine (right_any _ x _ HKW.out HS.out).mono ?_
  rintro e w1 ⟨⟨ok, rfl, hq⟩, hb⟩
  have HQ := Lib.hid hq
  have HB1 := Lib.hid hb
  clear hq hb z0 z1 z2 z3 z4 z5 z6 z7 z8
  cases ok
  · go_wp2_with fail
    refine (awake_any _).mono ?_
    rintro e w2 ⟨rfl, hb⟩
    have HB2 := Lib.hid (bchain HB1.out hb)
    clear hb
    go_wp2_with fail
    go_ret
    exact ⟨rfl, by rw [HG.out]; exact HBO.out _ HB2.out⟩
  have hok := HQ.out rfl
  have hs200 : x.s.size ≤ 200 := hok.s
  have ht200 : x.t.size ≤ 200 := hok.t
  have hxs : x.s.size ≤ 67108864 := by omega
  have hxt : x.t.size ≤ 67108864 := by omega
  have HOK := Lib.hid hok
  clear hok HQ
  obtain ⟨z0, z1, z2, z3, z4, z5, z6, z7, z8⟩ := HZ.out w1 HB1.out
  obtain ⟨r, hr⟩ : ∃ r, readF x.a.units x.s = r := ⟨_, rfl⟩
  have HL : Hid (r.1.length ≤ 24) := by rw [← hr]; exact readF_len _ _
  have HR := Lib.hid hr
  clear hr
  go_wp2_with fail
  refine (read_any _ x.a x.s _ (HVA.out _ HB1.out) HS.out.a HOK.out.a.good hxs).mono ?_
  rw [HR.out]
  rintro e w2 ⟨⟨v2, rfl, ho⟩, hb⟩
  obtain ⟨E2, f2, k2, rfl, _, _, _, _⟩ := ho.rd.op
  have HO2 := Lib.hid ho.rd
  have HB2 := Lib.hid (bchain HB1.out hb)
  clear ho hb
  clear z0 z1 z2 z3 z4 z5 z6 z7 z8
  obtain ⟨z0, z1, z2, z3, z4, z5, z6, z7, z8⟩ := HZ.out w2 HB2.out
  by_cases h0 : r.2.2 = 0
  rotate_left
  · have dz0 : (r.2.2 != 0) = true := by simp [h0]
    clear h0
    go_wp2_with fail
    refine (awake_any _).mono ?_
    rintro e wz ⟨rfl, hb⟩
    have HBZ := Lib.hid (bchain HB2.out hb)
    clear hb
    go_wp2_with fail
    go_ret
    exact ⟨rfl, by rw [HG.out]; exact HBO.out _ HBZ.out⟩
  have dz0 : (r.2.2 != 0) = false := by simp [h0]
  have HR2 : Hid (readF x.a.units x.s = (r.1, 0, 0) ∧ 1 ≤ r.1.length) := by
    obtain ⟨_, _, _, h1⟩ := div_of_read HOK.out.a.good (s := x.s) (by rw [HR.out]; exact h0)
    rw [HR.out] at h1
    refine ⟨?_, h1⟩
    have h2 := HR.out
    rw [readF] at h2 ⊢
    split at h2
    · rw [← h2] at h0; cases h0
    · rename_i h3
      rw [if_neg h3]
      split at h2
      · rw [← h2] at h0; cases h0
      · rename_i h4
        rw [if_neg h4]
        split at h2
        · rw [← h2] at h0; cases h0
        · rename_i h5
          rw [if_neg h5, ← h2]
  have HO2' : Hid (RdI w2 (.slice E2 f2 k2) r.1) := HO2.out
  clear h0
  obtain ⟨cw, hcw⟩ : ∃ cw, waysF x.a.units r.1 = cw := ⟨_, rfl⟩
  have HCW : Hid ((capT x.a.units r.1 r.1.length).getD 0 0 = cw) := by
    rw [Hid, ← hcw, waysF, if_neg (by have := HR2.out.2; have := HL.out; omega)]
  go_wp2_with fail
  refine (ways_any _ _ x.a r.1 _ (HVA.out _ HB2.out) HS.out.a HOK.out.a.good HO2'.out (by have := HL.out; omega)).mono ?_
  rw [hcw]
  rintro e w3 ⟨rfl, hb⟩
  have HX3 := Lib.hid hb
  have HB3 := Lib.hid (bchain HB2.out hb)
  clear hb
  clear z0 z1 z2 z3 z4 z5 z6 z7 z8
  obtain ⟨z0, z1, z2, z3, z4, z5, z6, z7, z8⟩ := HZ.out w3 HB3.out
  clear hcw
  by_cases h5 : 500 < cw
  · have d5 : decide (500 < cw) = true := by simpa using h5
    clear h5
    go_wp2_with fail
    refine (awake_any _).mono ?_
    rintro e wz ⟨rfl, hb⟩
    have HBZ := Lib.hid (bchain HB3.out hb)
    clear hb
    go_wp2_with fail
    go_ret
    exact ⟨rfl, by rw [HG.out]; exact HBO.out _ HBZ.out⟩
  have d5 : decide (500 < cw) = false := by simpa using h5
  have HC5 : Hid (cw ≤ 500) := by rw [Hid]; omega
  clear h5
  have HO3 : Hid (RdI w3 (.slice E2 f2 k2) r.1) := HO2'.out.below (by exact HX3.out)
  go_wp2_with fail
  refine wp_region_ord 5 [0, 1, 2, 3, 4] [] [0, 1, 3] [2, 4, 5, 6] (fun w' => Below w3.heap.size w3 w') (by kernel_rfl) (by kernel_rfl) ?_
  rintro D hD
  have HSD : Hid (Below w3.heap.size w3 D) := by rw [hD]; exact (Below.refl _ _).drew
  clear hD
  refine ⟨HSD.out, ?_⟩
  have HSM := HS
  clear HS
  have HS : Hid (∀ w' : World, Below w3.heap.size w3 w' → w'.cell? ⟨g, 0, none⟩ = some (.slice Ai ni ci) ∧ w'.cell? ⟨g, 1, none⟩ = some (.string x.a.name) ∧ w'.cell? ⟨g, 2, none⟩ = some (.slice A1 n1 c1) ∧ w'.cell? ⟨g, 3, none⟩ = some (.slice B1 m1 d1) ∧ w'.cell? ⟨g, 4, none⟩ = some (.string x.b.name) ∧ w'.cell? ⟨g, 5, none⟩ = some (.slice A2 n2 c2) ∧ w'.cell? ⟨g, 6, none⟩ = some (.slice B2 m2 d2) ∧ w'.cell? ⟨g, 7, none⟩ = some (.string x.s) ∧ w'.cell? ⟨g, 8, none⟩ = some (.string x.t)) := fun w' h => HZ.out w' (bchain HB3.out h)
  iterate 3 (refine wpHead_cons (v := ?_) rfl rfl (fun w' hS => ?_) ?_; rotate_left; (focus ((try obtain ⟨s0, s1, s2, s3, s4, s5, s6, s7, s8⟩ := HS.out _ (hS rfl)); clear hS; go_simp; try with_reducible rfl; done)); (try simp only [Act.put, List.setIfInBounds_toArray, List.set_cons_zero, List.set_cons_succ]))
  refine wpHead_nil ?_
  refine wpTail_cons rfl rfl (fun K hK => ?_)
  go_simp
  refine hK.out _ _ (fun _ => HSD.out.alloc HSD.out.size _) ?_
  clear hK K
  (try simp only [Act.put, List.setIfInBounds_toArray, List.set_cons_zero, List.set_cons_succ])
  refine wpTail_cons rfl rfl (fun K hK => ?_)
  have HOD : Hid (OwnI (D.alloc (.cells #[] 3)) w3.heap.size (.slice (some ⟨D.heap.size, 0, none⟩) 0 0) []) := own_newI D _ _ rfl HSD.out.size
  have HSA : Hid (Below w3.heap.size w3 (D.alloc (.cells #[] 3))) := HSD.out.alloc HSD.out.size _
  refine wp_app_ints (.tmp 37) (.tmp 38) rfl w3.heap.size _ [] rfl HOD.out (.slice E2 f2 k2) r.1 rfl (HO3.out.below HSA.out) (by have := HL.out; simp; omega) HSA.out.size (fun v5 w5 ho5 hg5 _ => ?_)
  have HS5 : Hid (Below w3.heap.size w3 w5) := HSA.out.grown hg5 HSA.out.size (fun j hj => (World.ownsRow.lt HOD.out j hj).1)
  rw [List.nil_append] at ho5
  obtain ⟨E5, f5, k5, rfl, _, _, _, _⟩ := ho5.rd.op
  have HO5 := Lib.hid ho5.rd
  refine hK.out _ _ (fun _ => HS5.out) ?_
  clear hK K ho5 hg5 HOD HSA
  (try simp only [Act.put, List.setIfInBounds_toArray, List.set_cons_zero, List.set_cons_succ])
  refine wpTail_rest 5 rfl ?_
  simp only [List.drop_succ_cons, List.drop_zero]
  have HB5 : Hid (Below W.heap.size W w5) := bchain HB3.out HS5.out
  obtain ⟨z0, z1, z2, z3, z4, z5, z6, z7, z8⟩ := HZ.out w5 HB5.out
  go_wp2_with fail
  refine (spellings_any _ _ x.a r.1 1000 _ (HVA.out _ HB5.out) HSM.out.a HOK.out.a.good HO5.out HR2.out.2 HL.out (by decide) (by decide) (fine_of HOK.out.a.good HOK.out.a.own (by rw [HCW.out]; exact HC5.out))).mono ?_
  rintro e w6 ⟨⟨v6, M, rfl, hgr, hrd⟩, hb⟩
  have hall := all_facts HOK.out.a.good HSM.out.a.graph HOK.out.a.own HR2.out.1 hgr (by rw [HCW.out]; exact HC5.out)
  generalize (sortT ((etab x.a.units r.1 (fun i => M.getD i false) r.1.length).getD 0 [])).take 1000 = L at hrd hall
  obtain ⟨A6, n6, c6, rfl, _, _, HN6, HR6⟩ := hrd.op
  have HALL := Lib.hid hall
  have HX6 := Lib.hid hb
  have HB6 : Hid (Below W.heap.size W w6) := bchain HB5.out hb
  have HO6 : Hid (RdI w6 (.slice E2 f2 k2) r.1) := HO3.out.below (bchain HS5.out hb)
  have hn6 : n6 ≤ 500 := by rw [← HN6.out]; exact hall.len
  clear hrd hall hgr hb
  clear z0 z1 z2 z3 z4 z5 z6 z7 z8
  go_wp2_with fail
  refine NoPanic.normal ?_
  go_wp2_with fail
  go_loopw [7, 8] (fun f i wr => ∃ (k : Nat) (fb : Bool), k ≤ n6 ∧ f = .bool fb ∧ i = .int .i64 k ∧ Hid (fb = anyT x.s (L.take k)) ∧ Hid (Below w6.heap.size w6 wr)) (fun _ i _ => n6 - (intOf i).toNat)
  case atStart => exact ⟨0, false, Nat.zero_le _, rfl, rfl, rfl, Below.refl _ _⟩
  case round =>
    obtain ⟨k, fb, hk, rfl, rfl, HF, HBR⟩ := hrel
    have HBW : Hid (Below W.heap.size W wr) := bchain HB6.out HBR.out
    by_cases hlt : k < n6
    · obtain ⟨b, off, t, hA, hbl, hdr, e0⟩ := (HR6.out k hlt).below HBR.out
      subst hA
      have htL : t ∈ L := List.mem_of_mem_drop (by rw [hdr.out]; exact List.mem_cons_self)
      have HRT : Hid (readF x.a.units t = (r.1, 0, 0)) := HALL.out.read t htL
      have HTS : Hid (t.size ≤ 67108864) := HALL.out.size t htL
      have HF2 : Hid ((fb || (t.toList == x.s.toList)) = anyT x.s (L.take (k + 1))) := by rw [Hid, anyT_next hdr.out, ← HF.out]
      have HDR := Lib.hid hdr.out
      have E0 := Lib.hid e0
      have hk0 : (0 : Int) ≤ (k : Int) := by omega
      have hk1 : (k : Int) < (n6 : Int) := by omega
      clear htL hdr HF e0
      go_wp2_with fail
      clear HS
      have HS : Hid (∀ w' : World, Below wr.heap.size wr w' → (w'.cell? ⟨g, 0, none⟩ = some (.slice Ai ni ci) ∧ w'.cell? ⟨g, 1, none⟩ = some (.string x.a.name) ∧ w'.cell? ⟨g, 2, none⟩ = some (.slice A1 n1 c1) ∧ w'.cell? ⟨g, 3, none⟩ = some (.slice B1 m1 d1) ∧ w'.cell? ⟨g, 4, none⟩ = some (.string x.b.name) ∧ w'.cell? ⟨g, 5, none⟩ = some (.slice A2 n2 c2) ∧ w'.cell? ⟨g, 6, none⟩ = some (.slice B2 m2 d2) ∧ w'.cell? ⟨g, 7, none⟩ = some (.string x.s) ∧ w'.cell? ⟨g, 8, none⟩ = some (.string x.t)) ∧ w'.cell? ⟨b, off + k, none⟩ = some (.string t)) := fun w' h => ⟨HZ.out w' (bchain HBW.out h), cell_keep hbl E0.out h⟩
      refine wp_region_mix 11 [0, 1, 2, 3, 4, 5, 6, 7, 8] [9, 10] [(true, 0), (true, 1), (true, 2), (true, 3), (true, 4), (true, 5), (false, 6), (true, 7), (true, 8), (true, 9), (true, 10), (false, 11), (false, 12), (false, 13)] (fun w' => Below wr.heap.size wr w') (by kernel_rfl) (by kernel_rfl) ?_
      rintro D2 hD
      have HSD2 : Hid (Below wr.heap.size wr D2) := by rw [hD]; exact (Below.refl _ _).drew
      clear hD
      refine ⟨HSD2.out, ?_⟩
      iterate 6 (refine wpMix_q (v := ?_) rfl rfl (fun w' hS => ?_) ?_; rotate_left; (focus ((try obtain ⟨⟨s0, s1, s2, s3, s4, s5, s6, s7, s8⟩, s9⟩ := HS.out _ (hS rfl)); clear hS; go_simp; try with_reducible rfl; done)); (try simp only [Act.put, List.setIfInBounds_toArray, List.set_cons_zero, List.set_cons_succ]))
      refine wpMix_e rfl rfl (fun K hK => ?_)
      go_simp
      refine (read_any _ x.a t _ (HVA.out _ (bchain HBW.out HSD2.out)) HSM.out.a HOK.out.a.good HTS.out).mono ?_
      rw [HRT.out]
      rintro e Y ⟨⟨v7, rfl, ho⟩, hb⟩
      obtain ⟨E7, f7, k7, rfl, _, _, _, _⟩ := ho.rd.op
      refine hK.out _ _ (fun _ => bchain HSD2.out hb) ?_
      clear hK K
      have HO7 := Lib.hid ho.rd
      have HSY := Lib.hid (bchain HSD2.out hb)
      clear ho hb
      iterate 4 (refine wpMix_q (v := ?_) rfl rfl (fun w' hS => ?_) ?_; rotate_left; (focus ((try obtain ⟨⟨s0, s1, s2, s3, s4, s5, s6, s7, s8⟩, s9⟩ := HS.out _ (hS rfl)); clear hS; go_simp; try with_reducible rfl; done)); (try simp only [Act.put, List.setIfInBounds_toArray, List.set_cons_zero, List.set_cons_succ]))
      iterate 3 (refine wpMix_e rfl rfl (fun K hK => ?_); go_simp; refine hK.out _ _ (fun h => absurd h (by decide)) ?_; clear hK K; (try simp only [Act.put, List.setIfInBounds_toArray, List.set_cons_zero, List.set_cons_succ]))
      refine wpMix_nil ?_
      refine NoPanic.normal ?_
      have HOW : Hid (RdI Y (.slice E2 f2 k2) r.1) := HO6.out.below (bchain HBR.out HSY.out)
      have HBY : Hid (Below W.heap.size W Y) := bchain HBW.out HSY.out
      have HBY6 : Hid (Below w6.heap.size w6 Y) := bchain HBR.out HSY.out
      have dsm : sameB r.1 r.1 = true := (sameB_iff _ _).2 rfl
      obtain ⟨⟨z0, z1, z2, z3, z4, z5, z6, z7, z8⟩, e0⟩ := HS.out Y HSY.out
      obtain ⟨eb, heb⟩ : ∃ eb, (t.toList == x.s.toList) = eb := ⟨_, rfl⟩
      rw [heb] at HF2
      by_cases hk2 : k = 0
      · have dk : decide (0 < k) = false := by simp; omega
        have dk2 : decide (0 < (k : Int)) = false := by simp; omega
        clear hk2
        cases fb
        · go_wp2_with fail
          go_quiet (first | (go_at_call 22; exact Calls.quiet_of (rsame_any _ _ r.1 r.1 _ HO7.out HOW.out)))
          go_wp2_with fail
          go_quiet (fail)
          go_wp2_with fail
          go_roundw
          case rel => exact ⟨k + 1, _, by omega, rfl, by go_num, by rw [Hid, ← HF2.out]; rfl, below_drewN HBY6.out _⟩
          case measure => simp [intOf]; omega
        · go_wp2_with fail
          go_quiet (first | (go_at_call 22; exact Calls.quiet_of (rsame_any _ _ r.1 r.1 _ HO7.out HOW.out)))
          go_wp2_with fail
          go_quiet (fail)
          go_wp2_with fail
          go_roundw
          case rel => exact ⟨k + 1, _, by omega, rfl, by go_num, by rw [Hid, ← HF2.out]; rfl, below_drewN HBY6.out _⟩
          case measure => simp [intOf]; omega
      · obtain ⟨p, rfl⟩ : ∃ p, k = p + 1 := ⟨k - 1, by omega⟩
        obtain ⟨b', off', t', hA', hbl', hdr', e1⟩ := (HR6.out p (by omega)).below HBY6.out
        cases hA'
        have HLT : Op.bytesLess t'.toList t.toList = true := by
          have h1 := hdr'.out
          rw [HDR.out] at h1
          have h2 : (t' :: t :: L.drop (p + 1 + 1)).Pairwise (fun x y => Op.bytesLess x.toList y.toList = true) := by rw [← h1]; exact HALL.out.up.sublist (List.drop_sublist _ _)
          exact (List.pairwise_cons.1 h2).1 t List.mem_cons_self
        have hwr : IntKind.i64.wrap ((p : Int) + 1 - 1) = (p : Int) := by rw [show (p : Int) + 1 - 1 = (p : Int) by omega]; exact IntWalk.i64_in _ (by omega)
        have hp0 : (0 : Int) ≤ (p : Int) := by omega
        have hp1 : (p : Int) < (n6 : Int) := by omega
        have dk : decide (0 < p + 1) = true := by simp
        have dk2 : decide (0 < (p : Int) + 1) = true := decide_eq_true (by omega)
        clear hdr' hk2
        cases fb
        · go_wp2_with fail
          go_quiet (first | (go_at_call 22; exact Calls.quiet_of (rsame_any _ _ r.1 r.1 _ HO7.out HOW.out)))
          go_wp2_with fail
          go_quiet (fail)
          go_wp2_with fail
          go_roundw
          case rel => exact ⟨p + 1 + 1, _, by omega, rfl, by go_num, by rw [Hid, ← HF2.out]; rfl, below_drewN HBY6.out _⟩
          case measure => simp [intOf]; omega
        · go_wp2_with fail
          go_quiet (first | (go_at_call 22; exact Calls.quiet_of (rsame_any _ _ r.1 r.1 _ HO7.out HOW.out)))
          go_wp2_with fail
          go_quiet (fail)
          go_wp2_with fail
          go_roundw
          case rel => exact ⟨p + 1 + 1, _, by omega, rfl, by go_num, by rw [Hid, ← HF2.out]; rfl, below_drewN HBY6.out _⟩
          case measure => simp [intOf]; omega
    · obtain rfl : k = n6 := by omega
      have HFT : Hid (fb = true) := by rw [Hid, HF.out, List.take_of_length_le (by rw [HN6.out]; exact Nat.le_refl _)]; exact anyT_all HALL.out.has
      obtain rfl := HFT.out
      go_wp2_with fail
      refine (awake_any _).mono ?_
      rintro e wz ⟨rfl, hb⟩
      have HBZ := Lib.hid (bchain HBW.out hb)
      clear hb
      go_wp2_with fail
      go_ret
      exact ⟨rfl, by rw [HG.out]; exact HBO.out _ HBZ.out⟩
end Go.Proofs.Ytokbclpdpegicaa
