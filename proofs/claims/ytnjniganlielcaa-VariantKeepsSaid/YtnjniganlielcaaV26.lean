/-
  The examples of the chapter.
-/
import Derived.Test.YtnjniganlielcaaV25
namespace Go.Proofs.Ytnjniganlielcaa
open Go.ChangeShapes Go.WideShapes Go.ChangeAt Go.RowKit
theorem up_sample : UpK (pk sampleP) := by unfold UpK; decide
theorem rdI_block2 {w : World} {g : Nat} (a b : Int) (h : w.heap[g]? = some (.cells #[.int .i64 a, .int .i64 b] 3 (0, 0))) : RdI w (.slice (some ⟨g, 0, none⟩) 2 2) [a, b] := rd_block h rfl rfl (by decide)
set_option maxHeartbeats 8000000 in
set_option maxRecDepth 100000 in
theorem awake_any (w : World) : Calls Try.prog 15 #[] w fun e w' => e = .returned (.bool true) ∧ Below w.heap.size w w' := by
  have HB0 : Hid (Below w.heap.size w w) := Below.refl _ _
  go_enter Try.func15, Try.ntmps15
  go_wp2_with fail
  refine (sample_any _).mono ?_
  rintro e w1 ⟨⟨v1, rfl, hr⟩, hb⟩
  have HB1 := Lib.hid (bchain HB0.out hb)
  have HV1 := Lib.hid hr
  obtain ⟨A1, n1, c1, rfl, hn⟩ := hr.opn
  obtain rfl : n1 = 3 := hn.symm
  clear hr hb hn
  go_wp2_with fail
  refine (sample_any _).mono ?_
  rintro e w2 ⟨⟨v2, rfl, hr⟩, hb⟩
  have HB2 := Lib.hid (bchain HB1.out hb)
  have HV2 := Lib.hid hr
  obtain ⟨A2, n2, c2, rfl, hn⟩ := hr.opn
  obtain rfl : n2 = 3 := hn.symm
  have HV1 := Lib.hid (HV1.out.below hb)
  clear hr hb hn
  go_wp2_with fail
  refine (senses_any _ sampleP 3 _ HV2.out (by decide) (by decide)).mono ?_
  rintro e w3 ⟨⟨v3, rfl, hr⟩, hb⟩
  have HB3 := Lib.hid (bchain HB2.out hb)
  rw [show sensesP sampleP 3 = [⟨bHound, bNo⟩] from rfl] at hr
  have HV3 := Lib.hid hr
  obtain ⟨A3, n3, c3, rfl, _, _, HN3, HR3⟩ := hr.op
  obtain rfl : n3 = 1 := HN3.out.symm
  have HV1 := Lib.hid (HV1.out.below hb)
  clear hr hb HR3
  go_wp2_with fail
  refine (sample_any _).mono ?_
  rintro e w4 ⟨⟨v4, rfl, hr⟩, hb⟩
  have HB4 := Lib.hid (bchain HB3.out hb)
  have HV4 := Lib.hid hr
  obtain ⟨A4, n4, c4, rfl, hn⟩ := hr.opn
  obtain rfl : n4 = 3 := hn.symm
  have HV1 := Lib.hid (HV1.out.below hb)
  have HV3 := Lib.hid (HV3.out.below hb)
  clear hr hb hn
  go_wp2_with fail
  refine (join_p 9 3 HV4.out (by decide)).mono ?_
  rintro e w5 ⟨⟨v5, rfl, hr⟩, hb⟩
  have HB5 := Lib.hid (bchain HB4.out hb)
  have HV5 := Lib.hid hr
  obtain ⟨A5, n5, c5, rfl, hn⟩ := hr.opn
  obtain rfl : n5 = 0 := hn.symm
  rw [show joinK (pk sampleP) 9 3 = 17 by decide]
  have HV1 := Lib.hid (HV1.out.below hb)
  have HV3 := Lib.hid (HV3.out.below hb)
  clear hr hb hn
  go_wp2_with fail
  refine (sample_any _).mono ?_
  rintro e w6 ⟨⟨v6, rfl, hr⟩, hb⟩
  have HB6 := Lib.hid (bchain HB5.out hb)
  have HV6 := Lib.hid hr
  obtain ⟨A6, n6, c6, rfl, hn⟩ := hr.opn
  obtain rfl : n6 = 3 := hn.symm
  have HV1 := Lib.hid (HV1.out.below hb)
  have HV3 := Lib.hid (HV3.out.below hb)
  clear hr hb hn
  go_wp2_with fail
  refine (join_p 3 9 HV6.out (by decide)).mono ?_
  rintro e w7 ⟨⟨v7, rfl, hr⟩, hb⟩
  have HB7 := Lib.hid (bchain HB6.out hb)
  have HV7 := Lib.hid hr
  obtain ⟨A7, n7, c7, rfl, hn⟩ := hr.opn
  obtain rfl : n7 = 3 := hn.symm
  rw [show joinK (pk sampleP) 3 9 = 0 by decide]
  have HV1 := Lib.hid (HV1.out.below hb)
  have HV3 := Lib.hid (HV3.out.below hb)
  clear hr hb hn
  go_wp2_with fail
  refine (sample_any _).mono ?_
  rintro e w8 ⟨⟨v8, rfl, hr⟩, hb⟩
  have HB8 := Lib.hid (bchain HB7.out hb)
  have HV8 := Lib.hid hr
  obtain ⟨A8, n8, c8, rfl, hn⟩ := hr.opn
  obtain rfl : n8 = 3 := hn.symm
  have HV1 := Lib.hid (HV1.out.below hb)
  have HV3 := Lib.hid (HV3.out.below hb)
  have HV7 := Lib.hid (HV7.out.below hb)
  clear hr hb hn
  go_wp2_with fail
  refine (part_p 3 HV8.out (by decide)).mono ?_
  rintro e w9 ⟨⟨v9, rfl, hr⟩, hb⟩
  have HB9 := Lib.hid (bchain HB8.out hb)
  have HV9 := Lib.hid hr
  obtain ⟨A9, n9, c9, rfl, hn⟩ := hr.opn
  obtain rfl : n9 = 0 := hn.symm
  rw [show partK (pk sampleP) 3 = 4 by decide]
  have HV1 := Lib.hid (HV1.out.below hb)
  have HV3 := Lib.hid (HV3.out.below hb)
  have HV7 := Lib.hid (HV7.out.below hb)
  clear hr hb hn
  go_wp2_with fail
  refine (sample_any _).mono ?_
  rintro e w10 ⟨⟨v10, rfl, hr⟩, hb⟩
  have HB10 := Lib.hid (bchain HB9.out hb)
  have HV10 := Lib.hid hr
  obtain ⟨A10, n10, c10, rfl, hn⟩ := hr.opn
  obtain rfl : n10 = 3 := hn.symm
  have HV1 := Lib.hid (HV1.out.below hb)
  have HV3 := Lib.hid (HV3.out.below hb)
  have HV7 := Lib.hid (HV7.out.below hb)
  clear hr hb hn
  go_wp2_with fail
  refine (part_p 5 HV10.out (by decide)).mono ?_
  rintro e w11 ⟨⟨v11, rfl, hr⟩, hb⟩
  have HB11 := Lib.hid (bchain HB10.out hb)
  have HV11 := Lib.hid hr
  obtain ⟨A11, n11, c11, rfl, hn⟩ := hr.opn
  obtain rfl : n11 = 3 := hn.symm
  rw [show partK (pk sampleP) 5 = 0 by decide]
  have HV1 := Lib.hid (HV1.out.below hb)
  have HV3 := Lib.hid (HV3.out.below hb)
  have HV7 := Lib.hid (HV7.out.below hb)
  clear hr hb hn
  go_wp2_with fail
  refine (check_p HV1.out (by decide)).mono ?_
  rintro e w12 ⟨rfl, hb⟩
  rw [show chkK (pk sampleP) = 0 by decide]
  have HB12 := Lib.hid (bchain HB11.out hb)
  have HV1 := Lib.hid (HV1.out.below hb)
  have HV3 := Lib.hid (HV3.out.below hb)
  have HV7 := Lib.hid (HV7.out.below hb)
  have HV11 := Lib.hid (HV11.out.below hb)
  clear hb
  go_wp2_with fail
  generalize hX : World.alloc w12 _ = X
  have HXB : Hid (Below w12.heap.size w12 X) := by rw [← hX]; exact (Below.refl _ _).alloc (Nat.le_refl _) _
  have HXC : Hid (X.heap[w12.heap.size]? = some (.cells #[.int .i64 1, .slice none 0 0, .int .i64 0, .slice none 0 0, .int .i64 2, .slice none 0 0, .slice none 0 0, .slice none 0 0] 34 (0, 0))) := by rw [← hX]; exact heap_alloc_new _ _
  clear hX
  have HV1 := Lib.hid (HV1.out.below HXB.out)
  have HV3 := Lib.hid (HV3.out.below HXB.out)
  have HV7 := Lib.hid (HV7.out.below HXB.out)
  have HV11 := Lib.hid (HV11.out.below HXB.out)
  refine (check_p (P := [⟨1, [], 0, [], 2, [], [], []⟩]) (one_rd 1 2 HXC.out) (by decide)).mono ?_
  rintro e w13 ⟨rfl, hb⟩
  rw [show chkK (pk [(⟨1, [], 0, [], 2, [], [], []⟩ : PE)]) = 9 by decide]
  have HB13 := Lib.hid (bchain (bchain HB12.out HXB.out) hb)
  have HV1 := Lib.hid (HV1.out.below hb)
  have HV3 := Lib.hid (HV3.out.below hb)
  have HV7 := Lib.hid (HV7.out.below hb)
  have HV11 := Lib.hid (HV11.out.below hb)
  clear hb
  go_wp2_with fail
  generalize hX : World.alloc w13 _ = X
  have HXB : Hid (Below w13.heap.size w13 X) := by rw [← hX]; exact (Below.refl _ _).alloc (Nat.le_refl _) _
  have HXC : Hid (X.heap[w13.heap.size]? = some (.cells #[.int .i64 1, .slice none 0 0, .int .i64 0, .slice none 0 0, .int .i64 1, .slice none 0 0, .slice none 0 0, .slice none 0 0] 34 (0, 0))) := by rw [← hX]; exact heap_alloc_new _ _
  clear hX
  have HV1 := Lib.hid (HV1.out.below HXB.out)
  have HV3 := Lib.hid (HV3.out.below HXB.out)
  have HV7 := Lib.hid (HV7.out.below HXB.out)
  have HV11 := Lib.hid (HV11.out.below HXB.out)
  refine (check_p (P := [⟨1, [], 0, [], 1, [], [], []⟩]) (one_rd 1 1 HXC.out) (by decide)).mono ?_
  rintro e w14 ⟨rfl, hb⟩
  rw [show chkK (pk [(⟨1, [], 0, [], 1, [], [], []⟩ : PE)]) = 17 by decide]
  have HB14 := Lib.hid (bchain (bchain HB13.out HXB.out) hb)
  have HV1 := Lib.hid (HV1.out.below hb)
  have HV3 := Lib.hid (HV3.out.below hb)
  have HV7 := Lib.hid (HV7.out.below hb)
  have HV11 := Lib.hid (HV11.out.below hb)
  clear hb
  go_wp2_with fail
  refine (sample_any _).mono ?_
  rintro e w15 ⟨⟨v15, rfl, hr⟩, hb⟩
  have HB15 := Lib.hid (bchain HB14.out hb)
  have HV15 := Lib.hid hr
  obtain ⟨A15, n15, c15, rfl, hn⟩ := hr.opn
  obtain rfl : n15 = 3 := hn.symm
  have HV1 := Lib.hid (HV1.out.below hb)
  have HV3 := Lib.hid (HV3.out.below hb)
  have HV7 := Lib.hid (HV7.out.below hb)
  have HV11 := Lib.hid (HV11.out.below hb)
  clear hr hb hn
  go_wp2_with fail
  refine (main_p 3 HV15.out (by decide)).mono ?_
  rintro e w16 ⟨rfl, hb⟩
  rw [show mainK (pk sampleP) 3 = 9 by decide]
  have HB16 := Lib.hid (bchain HB15.out hb)
  have HV1 := Lib.hid (HV1.out.below hb)
  have HV3 := Lib.hid (HV3.out.below hb)
  have HV7 := Lib.hid (HV7.out.below hb)
  have HV11 := Lib.hid (HV11.out.below hb)
  clear hb
  go_wp2_with fail
  refine (sample_any _).mono ?_
  rintro e w17 ⟨⟨v17, rfl, hr⟩, hb⟩
  have HB17 := Lib.hid (bchain HB16.out hb)
  have HV17 := Lib.hid hr
  obtain ⟨A17, n17, c17, rfl, hn⟩ := hr.opn
  obtain rfl : n17 = 3 := hn.symm
  have HV1 := Lib.hid (HV1.out.below hb)
  have HV3 := Lib.hid (HV3.out.below hb)
  have HV7 := Lib.hid (HV7.out.below hb)
  have HV11 := Lib.hid (HV11.out.below hb)
  clear hr hb hn
  go_wp2_with fail
  refine (all_p 9 HV17.out (by decide) up_sample).mono ?_
  rintro e w18 ⟨⟨v18, rfl, hr⟩, hb⟩
  rw [show allK (pk sampleP) 9 = [3, 5] by decide] at hr
  have HB18 := Lib.hid (bchain HB17.out hb)
  have HV18 := Lib.hid hr
  obtain ⟨A18, n18, c18, rfl, _, _, HN, _⟩ := hr.op
  obtain rfl : n18 = 2 := HN.out.symm
  have HV1 := Lib.hid (HV1.out.below hb)
  have HV3 := Lib.hid (HV3.out.below hb)
  have HV7 := Lib.hid (HV7.out.below hb)
  have HV11 := Lib.hid (HV11.out.below hb)
  clear hr hb HN
  go_wp2_with fail
  generalize hX : World.alloc w18 _ = X
  have HXB : Hid (Below w18.heap.size w18 X) := by rw [← hX]; exact (Below.refl _ _).alloc (Nat.le_refl _) _
  have HXC : Hid (X.heap[w18.heap.size]? = some (.cells #[.int .i64 3, .int .i64 5] 3 (0, 0))) := by rw [← hX]; exact heap_alloc_new _ _
  clear hX
  have HV1 := Lib.hid (HV1.out.below HXB.out)
  have HV3 := Lib.hid (HV3.out.below HXB.out)
  have HV7 := Lib.hid (HV7.out.below HXB.out)
  have HV11 := Lib.hid (HV11.out.below HXB.out)
  refine (rsame_b _ _ [3, 5] [3, 5] _ (HV18.out.below HXB.out) (rdI_block2 3 5 HXC.out)).mono ?_
  rintro e w19 ⟨rfl, hb⟩
  rw [show sameB [3, 5] [3, 5] = true by decide]
  have HB19 := Lib.hid (bchain (bchain HB18.out HXB.out) hb)
  have HV1 := Lib.hid (HV1.out.below hb)
  have HV3 := Lib.hid (HV3.out.below hb)
  have HV7 := Lib.hid (HV7.out.below hb)
  have HV11 := Lib.hid (HV11.out.below hb)
  clear hb
  go_wp2_with fail
  refine (sample_any _).mono ?_
  rintro e w20 ⟨⟨v20, rfl, hr⟩, hb⟩
  have HB20 := Lib.hid (bchain HB19.out hb)
  have HV20 := Lib.hid hr
  obtain ⟨A20, n20, c20, rfl, hn⟩ := hr.opn
  obtain rfl : n20 = 3 := hn.symm
  have HV1 := Lib.hid (HV1.out.below hb)
  have HV3 := Lib.hid (HV3.out.below hb)
  have HV7 := Lib.hid (HV7.out.below hb)
  have HV11 := Lib.hid (HV11.out.below hb)
  clear hr hb hn
  go_wp2_with fail
  refine (all_p 5 HV20.out (by decide) up_sample).mono ?_
  rintro e w21 ⟨⟨v21, rfl, hr⟩, hb⟩
  rw [show allK (pk sampleP) 5 = [] by decide] at hr
  have HB21 := Lib.hid (bchain HB20.out hb)
  obtain ⟨A21, n21, c21, rfl, _, _, HN, _⟩ := hr.op
  obtain rfl : n21 = 0 := HN.out.symm
  have HV1 := Lib.hid (HV1.out.below hb)
  have HV3 := Lib.hid (HV3.out.below hb)
  have HV7 := Lib.hid (HV7.out.below hb)
  have HV11 := Lib.hid (HV11.out.below hb)
  clear hr hb HN
  obtain ⟨_, _, _, h0, _, _, _, HR3⟩ := HV3.out.op
  cases h0
  obtain ⟨b3, o3, p3, rfl, hl3, hd3, e3, e3'⟩ := HR3.out 0 (by omega)
  obtain ⟨_, _, _, h0, _, _, _, HR7⟩ := HV7.out.op
  cases h0
  obtain ⟨b7, o7, x7, p7, rfl, hl7, hd7, hdp7, hc7⟩ := HR7.out 0 (by omega)
  obtain ⟨_, _, _, h0, _, _, _, HR11⟩ := HV11.out.op
  cases h0
  obtain ⟨b11, o11, x11, p11, rfl, hl11, hd11, hdp11, hc11⟩ := HR11.out 1 (by omega)
  have hg3 : p3.g = bHound := by have := (List.cons.inj hd3.out).1; rw [← this]
  have hm7 : x7.main = 9 := by rw [hdp7.out.main]; have := (List.cons.inj (show joinP sampleP 3 9 = p7 :: (joinP sampleP 3 9).drop 1 from hd7.out)).1; rw [← this]; decide
  have hm11 : x11.main = 0 := by rw [hdp11.out.main]; have := hd11.out; rw [show (partP sampleP 5).drop 1 = [⟨5, [], 0, [], 0, [⟨bHound, bNo⟩], [], []⟩, ⟨9, [], 0, [], 0, [⟨bDog, bNo⟩], [], []⟩] from rfl] at this; have := (List.cons.inj this).1; rw [← this]
  obtain ⟨a0, a1, a2, a3, a4, a5, a6, a7⟩ := hc7
  obtain ⟨d0, d1, d2, d3, d4, d5, d6, d7⟩ := hc11
  rw [hg3] at e3
  rw [hm7] at a4
  rw [hm11] at d4
  unfold bHound at e3
  simp only [Nat.zero_mul, Nat.add_zero, Nat.one_mul] at e3 a4 d4
  clear hg3 hm7 hm11 hdp7 hdp11 hd7 hd11 hd3
  go_wp2_with fail
  go_ret
  exact ⟨rfl, HB21.out⟩
end Go.Proofs.Ytnjniganlielcaa
