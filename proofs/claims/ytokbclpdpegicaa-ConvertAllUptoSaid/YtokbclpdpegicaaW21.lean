/-
  Convert, Same, Normal, Faithful of both sides, and Exact (printed by gen21w.py).
-/
import Derived.Test.YtokbclpdpegicaaW20
namespace Go.Proofs.Ytokbclpdpegicaa
open Go.ChangeShapes Go.WideShapes Go.ChangeAt Go.RowKit
theorem readF_len (us : List PU) (s : ByteArray) : (readF us s).1.length ≤ 24 := by
  rw [readF]
  split
  · simp
  · split
    · simp
    · split
      · simp
      · simp only; omega
theorem spellR_size (us : List PU) (w : List Int) (hs : ∀ u ∈ us, SmS u.g) : ∀ (f a : Nat) (t : ByteArray) (k : Nat), t.size ≤ k * 1048576 → (spellR us w f a t).1.size ≤ (k + f) * 1048576
  | 0, a, t, k, h => by simpa [spellR] using h
  | f + 1, a, t, k, h => by
    rw [spellR]
    split
    · split
      · simp
      · have h1 : (uG us (bestF us (w.drop a))).size ≤ 1048576 := by
          rcases bestF_range us (w.drop a) with h2 | ⟨j, p, h2, h3, _⟩
          · rename_i h4; rw [h2] at h4; exact absurd (by decide) h4
          · rw [h2, uG_at h3]; exact hs p (List.mem_of_getElem? h3)
        have := spellR_size us w hs f (a + (uS us (bestF us (w.drop a))).length) (t ++ uG us (bestF us (w.drop a))) (k + 1) (by rw [ByteArray.size_append]; omega)
        rw [show k + (f + 1) = k + 1 + f by omega]
        exact this
    · exact Nat.le_trans h (Nat.mul_le_mul_right _ (by omega))
theorem empty_le (k : Nat) : ByteArray.empty.size ≤ k := Nat.zero_le k
theorem spellF_size (us : List PU) (w : List Int) (hs : ∀ u ∈ us, SmS u.g) : (spellF us w).1.size ≤ 67108864 := by
  rw [spellF]
  split
  · exact empty_le 67108864
  · split
    · exact empty_le 67108864
    · have := spellR_size us w hs 25 0 ByteArray.empty 0 (empty_le (0 * 1048576))
      omega
def convF (a b : List PU) (s : ByteArray) : ByteArray × Nat × Int := if (readF a s).2.2 = 0 then spellF b (readF a s).1 else (ByteArray.empty, (readF a s).2.1, (readF a s).2.2)
def sameF (a b : List PU) (s t : ByteArray) : Bool := (readF a s).2.2 == 0 && (readF b t).2.2 == 0 && sameB (readF a s).1 (readF b t).1
def faithF (o : List PU) (s : ByteArray) : Bool := (convF o o s).2.2 == 0 && ((convF o o s).1.toList == s.toList)
def exactF (o : List PU) (w : List Int) : Bool := (spellF o w).2.2 == 0 && (readF o (spellF o w).1).2.2 == 0 && sameB (readF o (spellF o w).1).1 w
theorem convF_size (a b : List PU) (s : ByteArray) (hs : ∀ u ∈ b, SmS u.g) : (convF a b s).1.size ≤ 67108864 := by
  rw [convF]
  split
  · exact spellF_size b _ hs
  · exact empty_le 67108864
/-- two orthographies in boxes: the cells of the second, behind the first -/
theorem two_boxes (w : World) (x y : Array Value) (t u : TypeId) : Below w.heap.size w ((w.alloc (.cells x t)).alloc (.cells y u)) := by
  refine ((Below.refl _ _).alloc (Nat.le_refl _) _).alloc ?_ _
  simp
set_option maxHeartbeats 4000000 in
set_option maxRecDepth 100000 in
theorem convert_any (va vb : Value) (a b : PO) (s : ByteArray) (w : World) (hA : RdO w va a) (hB : RdO w vb b) (hsa : SmO a) (hsb : SmO b) (hga : ∀ p ∈ a.units, GoodU p) (hgb : ∀ p ∈ b.units, GoodU p) (hs : s.size ≤ 67108864) :
    Calls Try.prog 11 #[va, vb, .string s] w fun e w' => RetT (convF a.units b.units s) e ∧ Below w.heap.size w w' := by
  have HSA := Lib.hid hsa
  have HSB := Lib.hid hsb
  have HGA := Lib.hid hga
  have HGB := Lib.hid hgb
  clear hsa hsb hga hgb
  have HA := Lib.hid hA
  obtain ⟨vuA, vlA, rfl, huA, hlA⟩ := hA
  obtain ⟨AA, nA, cA, rfl, _, _, _, _⟩ := huA.op
  obtain ⟨BA, mA, dA, rfl, _, _, _, _⟩ := hlA.op
  clear huA hlA
  have HB := Lib.hid hB
  obtain ⟨vuB, vlB, rfl, huB, hlB⟩ := hB
  obtain ⟨AB, nB, cB, rfl, _, _, _, _⟩ := huB.op
  obtain ⟨BB, mB, dB, rfl, _, _, _, _⟩ := hlB.op
  clear huB hlB
  go_enter Try.func11, Try.ntmps11
  go_upto_region 1 with (fail)
  generalize hW : World.alloc (World.alloc w _) _ = W
  have HBW : Hid (Below w.heap.size w W) := by rw [← hW]; exact two_boxes _ _ _ _ _
  have z0 : W.cell? ⟨w.heap.size, 0, none⟩ = some (.string a.name) := by rw [← hW]; simp [go_sem]
  have z1 : W.cell? ⟨w.heap.size, 1, none⟩ = some (.slice AA nA cA) := by rw [← hW]; simp [go_sem]
  have z2 : W.cell? ⟨w.heap.size, 2, none⟩ = some (.slice BA mA dA) := by rw [← hW]; simp [go_sem]
  have y0 : W.cell? ⟨w.heap.size + 1, 0, none⟩ = some (.string b.name) := by rw [← hW]; simp [go_sem]
  have y1 : W.cell? ⟨w.heap.size + 1, 1, none⟩ = some (.slice AB nB cB) := by rw [← hW]; simp [go_sem]
  have y2 : W.cell? ⟨w.heap.size + 1, 2, none⟩ = some (.slice BB mB dB) := by rw [← hW]; simp [go_sem]
  have hgW : w.heap.size < W.heap.size := by rw [← hW]; simp; omega
  have hgW2 : w.heap.size + 1 < W.heap.size := by rw [← hW]; simp
  have HZ : Hid (∀ W' : World, Below W.heap.size W W' → W'.cell? ⟨w.heap.size, 0, none⟩ = some (.string a.name) ∧ W'.cell? ⟨w.heap.size, 1, none⟩ = some (.slice AA nA cA) ∧ W'.cell? ⟨w.heap.size, 2, none⟩ = some (.slice BA mA dA)) := fun W' h => ⟨cell_keep hgW z0 h, cell_keep hgW z1 h, cell_keep hgW z2 h⟩
  have HY : Hid (∀ W' : World, Below W.heap.size W W' → W'.cell? ⟨w.heap.size + 1, 0, none⟩ = some (.string b.name) ∧ W'.cell? ⟨w.heap.size + 1, 1, none⟩ = some (.slice AB nB cB) ∧ W'.cell? ⟨w.heap.size + 1, 2, none⟩ = some (.slice BB mB dB)) := fun W' h => ⟨cell_keep hgW2 y0 h, cell_keep hgW2 y1 h, cell_keep hgW2 y2 h⟩
  have HVA : Hid (∀ W' : World, Below W.heap.size W W' → RdO W' (.agg #[.string a.name, .slice AA nA cA, .slice BA mA dA]) a) := fun W' h => (HA.out.below HBW.out).below h
  have HVB : Hid (∀ W' : World, Below W.heap.size W W' → RdO W' (.agg #[.string b.name, .slice AB nB cB, .slice BB mB dB]) b) := fun W' h => (HB.out.below HBW.out).below h
  have HBO : Hid (∀ W' : World, Below W.heap.size W W' → Below w.heap.size w W') := fun W' h => bchain HBW.out h
  clear hW HBW hgW hgW2 z0 z1 z2 y0 y1 y2
  generalize hg : w.heap.size = g at HZ HY HBO ⊢
  have HG := Lib.hid hg
  clear hg
  obtain ⟨z0, z1, z2⟩ := HZ.out W (Below.refl _ _)
  have HL : Hid ((readF a.units s).1.length ≤ 24) := readF_len _ _
  have HC : Hid (convF a.units b.units s = if (readF a.units s).2.2 = 0 then spellF b.units (readF a.units s).1 else (ByteArray.empty, (readF a.units s).2.1, (readF a.units s).2.2)) := rfl
  have HCALL : Hid (Calls Try.prog _ _ _ _) := (read_any _ a s _ (HVA.out W (Below.refl _ _)) HSA.out HGA.out hs)
  generalize hr : readF a.units s = r at HL HC HCALL
  clear hr
  go_wp2_with fail
  refine (HCALL.out).mono ?_
  rintro e w1 ⟨⟨v1, rfl, ho⟩, hb⟩
  obtain ⟨A1, n1, c1, rfl, _, _, _, _⟩ := ho.rd.op
  have HO := Lib.hid ho.rd
  have HB1 := Lib.hid hb
  clear ho hb z0 z1 z2 HCALL
  obtain ⟨y0, y1, y2⟩ := HY.out w1 HB1.out
  by_cases h0 : r.2.2 = 0
  · have d0 : (r.2.2 != 0) = false := by simp [h0]
    have HC2 : Hid (convF a.units b.units s = spellF b.units r.1) := by rw [Hid, HC.out, if_pos h0]
    clear HC h0
    go_wp2_with fail
    refine (spell_any _ _ b r.1 _ (HVB.out _ HB1.out) HSB.out HGB.out HO.out (by have := HL.out; omega)).mono ?_
    rintro e w2 ⟨he, hb⟩
    obtain rfl := he
    have HB2 := Lib.hid (bchain HB1.out hb)
    clear hb
    go_wp2_with fail
    go_ret3
    exact ⟨by rw [HC2.out]; rfl, by rw [HG.out]; exact HBO.out _ HB2.out⟩
  · have d0 : (r.2.2 != 0) = true := by simp [h0]
    have HC2 : Hid (convF a.units b.units s = (ByteArray.empty, r.2.1, r.2.2)) := by rw [Hid, HC.out, if_neg h0]
    clear HC h0
    go_wp2_with fail
    go_ret3
    exact ⟨by rw [HC2.out]; rfl, by rw [HG.out]; exact HBO.out _ HB1.out⟩
set_option maxHeartbeats 4000000 in
set_option maxRecDepth 100000 in
theorem convert18_any (va vb : Value) (a b : PO) (s : ByteArray) (w : World) (hA : RdO w va a) (hB : RdO w vb b) (hsa : SmO a) (hsb : SmO b) (hga : ∀ p ∈ a.units, GoodU p) (hgb : ∀ p ∈ b.units, GoodU p) (hs : s.size ≤ 67108864) :
    Calls Try.prog 12 #[va, vb, .string s] w fun e w' => RetT (convF a.units b.units s) e ∧ Below w.heap.size w w' := by
  have HSA := Lib.hid hsa
  have HSB := Lib.hid hsb
  have HGA := Lib.hid hga
  have HGB := Lib.hid hgb
  clear hsa hsb hga hgb
  have HA := Lib.hid hA
  obtain ⟨vuA, vlA, rfl, huA, hlA⟩ := hA
  obtain ⟨AA, nA, cA, rfl, _, _, _, _⟩ := huA.op
  obtain ⟨BA, mA, dA, rfl, _, _, _, _⟩ := hlA.op
  clear huA hlA
  have HB := Lib.hid hB
  obtain ⟨vuB, vlB, rfl, huB, hlB⟩ := hB
  obtain ⟨AB, nB, cB, rfl, _, _, _, _⟩ := huB.op
  obtain ⟨BB, mB, dB, rfl, _, _, _, _⟩ := hlB.op
  clear huB hlB
  go_enter Try.func12, Try.ntmps12
  go_upto_region 1 with (fail)
  generalize hW : World.alloc (World.alloc w _) _ = W
  have HBW : Hid (Below w.heap.size w W) := by rw [← hW]; exact two_boxes _ _ _ _ _
  have z0 : W.cell? ⟨w.heap.size, 0, none⟩ = some (.string a.name) := by rw [← hW]; simp [go_sem]
  have z1 : W.cell? ⟨w.heap.size, 1, none⟩ = some (.slice AA nA cA) := by rw [← hW]; simp [go_sem]
  have z2 : W.cell? ⟨w.heap.size, 2, none⟩ = some (.slice BA mA dA) := by rw [← hW]; simp [go_sem]
  have y0 : W.cell? ⟨w.heap.size + 1, 0, none⟩ = some (.string b.name) := by rw [← hW]; simp [go_sem]
  have y1 : W.cell? ⟨w.heap.size + 1, 1, none⟩ = some (.slice AB nB cB) := by rw [← hW]; simp [go_sem]
  have y2 : W.cell? ⟨w.heap.size + 1, 2, none⟩ = some (.slice BB mB dB) := by rw [← hW]; simp [go_sem]
  have hgW : w.heap.size < W.heap.size := by rw [← hW]; simp; omega
  have hgW2 : w.heap.size + 1 < W.heap.size := by rw [← hW]; simp
  have HZ : Hid (∀ W' : World, Below W.heap.size W W' → W'.cell? ⟨w.heap.size, 0, none⟩ = some (.string a.name) ∧ W'.cell? ⟨w.heap.size, 1, none⟩ = some (.slice AA nA cA) ∧ W'.cell? ⟨w.heap.size, 2, none⟩ = some (.slice BA mA dA)) := fun W' h => ⟨cell_keep hgW z0 h, cell_keep hgW z1 h, cell_keep hgW z2 h⟩
  have HY : Hid (∀ W' : World, Below W.heap.size W W' → W'.cell? ⟨w.heap.size + 1, 0, none⟩ = some (.string b.name) ∧ W'.cell? ⟨w.heap.size + 1, 1, none⟩ = some (.slice AB nB cB) ∧ W'.cell? ⟨w.heap.size + 1, 2, none⟩ = some (.slice BB mB dB)) := fun W' h => ⟨cell_keep hgW2 y0 h, cell_keep hgW2 y1 h, cell_keep hgW2 y2 h⟩
  have HVA : Hid (∀ W' : World, Below W.heap.size W W' → RdO W' (.agg #[.string a.name, .slice AA nA cA, .slice BA mA dA]) a) := fun W' h => (HA.out.below HBW.out).below h
  have HVB : Hid (∀ W' : World, Below W.heap.size W W' → RdO W' (.agg #[.string b.name, .slice AB nB cB, .slice BB mB dB]) b) := fun W' h => (HB.out.below HBW.out).below h
  have HBO : Hid (∀ W' : World, Below W.heap.size W W' → Below w.heap.size w W') := fun W' h => bchain HBW.out h
  clear hW HBW hgW hgW2 z0 z1 z2 y0 y1 y2
  generalize hg : w.heap.size = g at HZ HY HBO ⊢
  have HG := Lib.hid hg
  clear hg
  obtain ⟨z0, z1, z2⟩ := HZ.out W (Below.refl _ _)
  have HL : Hid ((readF a.units s).1.length ≤ 24) := readF_len _ _
  have HC : Hid (convF a.units b.units s = if (readF a.units s).2.2 = 0 then spellF b.units (readF a.units s).1 else (ByteArray.empty, (readF a.units s).2.1, (readF a.units s).2.2)) := rfl
  have HCALL : Hid (Calls Try.prog _ _ _ _) := (read17_any _ a s _ (HVA.out W (Below.refl _ _)) HSA.out HGA.out hs)
  generalize hr : readF a.units s = r at HL HC HCALL
  clear hr
  go_wp2_with fail
  refine (HCALL.out).mono ?_
  rintro e w1 ⟨⟨v1, rfl, ho⟩, hb⟩
  obtain ⟨A1, n1, c1, rfl, _, _, _, _⟩ := ho.rd.op
  have HO := Lib.hid ho.rd
  have HB1 := Lib.hid hb
  clear ho hb z0 z1 z2 HCALL
  obtain ⟨y0, y1, y2⟩ := HY.out w1 HB1.out
  by_cases h0 : r.2.2 = 0
  · have d0 : (r.2.2 != 0) = false := by simp [h0]
    have HC2 : Hid (convF a.units b.units s = spellF b.units r.1) := by rw [Hid, HC.out, if_pos h0]
    clear HC h0
    go_wp2_with fail
    refine (spell17_any _ _ b r.1 _ (HVB.out _ HB1.out) HSB.out HGB.out HO.out (by have := HL.out; omega)).mono ?_
    rintro e w2 ⟨he, hb⟩
    obtain rfl := he
    have HB2 := Lib.hid (bchain HB1.out hb)
    clear hb
    go_wp2_with fail
    go_ret3
    exact ⟨by rw [HC2.out]; rfl, by rw [HG.out]; exact HBO.out _ HB2.out⟩
  · have d0 : (r.2.2 != 0) = true := by simp [h0]
    have HC2 : Hid (convF a.units b.units s = (ByteArray.empty, r.2.1, r.2.2)) := by rw [Hid, HC.out, if_neg h0]
    clear HC h0
    go_wp2_with fail
    go_ret3
    exact ⟨by rw [HC2.out]; rfl, by rw [HG.out]; exact HBO.out _ HB1.out⟩
set_option maxHeartbeats 4000000 in
set_option maxRecDepth 100000 in
theorem same_any (va vb : Value) (a b : PO) (s t : ByteArray) (w : World) (hA : RdO w va a) (hB : RdO w vb b) (hsa : SmO a) (hsb : SmO b) (hga : ∀ p ∈ a.units, GoodU p) (hgb : ∀ p ∈ b.units, GoodU p) (hs : s.size ≤ 67108864) (ht : t.size ≤ 67108864) :
    Calls Try.prog 13 #[va, vb, .string s, .string t] w fun e w' => e = .returned (.bool (sameF a.units b.units s t)) ∧ Below w.heap.size w w' := by
  have HSA := Lib.hid hsa
  have HSB := Lib.hid hsb
  have HGA := Lib.hid hga
  have HGB := Lib.hid hgb
  clear hsa hsb hga hgb
  have HA := Lib.hid hA
  obtain ⟨vuA, vlA, rfl, huA, hlA⟩ := hA
  obtain ⟨AA, nA, cA, rfl, _, _, _, _⟩ := huA.op
  obtain ⟨BA, mA, dA, rfl, _, _, _, _⟩ := hlA.op
  clear huA hlA
  have HB := Lib.hid hB
  obtain ⟨vuB, vlB, rfl, huB, hlB⟩ := hB
  obtain ⟨AB, nB, cB, rfl, _, _, _, _⟩ := huB.op
  obtain ⟨BB, mB, dB, rfl, _, _, _, _⟩ := hlB.op
  clear huB hlB
  go_enter Try.func13, Try.ntmps13
  go_upto_region 1 with (fail)
  generalize hW : World.alloc (World.alloc w _) _ = W
  have HBW : Hid (Below w.heap.size w W) := by rw [← hW]; exact two_boxes _ _ _ _ _
  have z0 : W.cell? ⟨w.heap.size, 0, none⟩ = some (.string a.name) := by rw [← hW]; simp [go_sem]
  have z1 : W.cell? ⟨w.heap.size, 1, none⟩ = some (.slice AA nA cA) := by rw [← hW]; simp [go_sem]
  have z2 : W.cell? ⟨w.heap.size, 2, none⟩ = some (.slice BA mA dA) := by rw [← hW]; simp [go_sem]
  have y0 : W.cell? ⟨w.heap.size + 1, 0, none⟩ = some (.string b.name) := by rw [← hW]; simp [go_sem]
  have y1 : W.cell? ⟨w.heap.size + 1, 1, none⟩ = some (.slice AB nB cB) := by rw [← hW]; simp [go_sem]
  have y2 : W.cell? ⟨w.heap.size + 1, 2, none⟩ = some (.slice BB mB dB) := by rw [← hW]; simp [go_sem]
  have hgW : w.heap.size < W.heap.size := by rw [← hW]; simp; omega
  have hgW2 : w.heap.size + 1 < W.heap.size := by rw [← hW]; simp
  have HZ : Hid (∀ W' : World, Below W.heap.size W W' → W'.cell? ⟨w.heap.size, 0, none⟩ = some (.string a.name) ∧ W'.cell? ⟨w.heap.size, 1, none⟩ = some (.slice AA nA cA) ∧ W'.cell? ⟨w.heap.size, 2, none⟩ = some (.slice BA mA dA)) := fun W' h => ⟨cell_keep hgW z0 h, cell_keep hgW z1 h, cell_keep hgW z2 h⟩
  have HY : Hid (∀ W' : World, Below W.heap.size W W' → W'.cell? ⟨w.heap.size + 1, 0, none⟩ = some (.string b.name) ∧ W'.cell? ⟨w.heap.size + 1, 1, none⟩ = some (.slice AB nB cB) ∧ W'.cell? ⟨w.heap.size + 1, 2, none⟩ = some (.slice BB mB dB)) := fun W' h => ⟨cell_keep hgW2 y0 h, cell_keep hgW2 y1 h, cell_keep hgW2 y2 h⟩
  have HVA : Hid (∀ W' : World, Below W.heap.size W W' → RdO W' (.agg #[.string a.name, .slice AA nA cA, .slice BA mA dA]) a) := fun W' h => (HA.out.below HBW.out).below h
  have HVB : Hid (∀ W' : World, Below W.heap.size W W' → RdO W' (.agg #[.string b.name, .slice AB nB cB, .slice BB mB dB]) b) := fun W' h => (HB.out.below HBW.out).below h
  have HBO : Hid (∀ W' : World, Below W.heap.size W W' → Below w.heap.size w W') := fun W' h => bchain HBW.out h
  clear hW HBW hgW hgW2 z0 z1 z2 y0 y1 y2
  generalize hg : w.heap.size = g at HZ HY HBO ⊢
  have HG := Lib.hid hg
  clear hg
  obtain ⟨z0, z1, z2⟩ := HZ.out W (Below.refl _ _)
  have HC : Hid (sameF a.units b.units s t = ((readF a.units s).2.2 == 0 && (readF b.units t).2.2 == 0 && sameB (readF a.units s).1 (readF b.units t).1)) := rfl
  have HCALL : Hid (Calls Try.prog _ _ _ _) := (read_any _ a s _ (HVA.out W (Below.refl _ _)) HSA.out HGA.out hs)
  have HCALL2 : Hid (∀ W', Below W.heap.size W W' → Calls Try.prog _ _ _ _) := fun W' h => (read_any _ b t W' (HVB.out W' h) HSB.out HGB.out ht)
  generalize hr : readF a.units s = r at HC HCALL
  generalize hq : readF b.units t = q at HC HCALL2
  clear hr hq
  go_wp2_with fail
  refine (HCALL.out).mono ?_
  rintro e w1 ⟨⟨v1, rfl, ho⟩, hb⟩
  obtain ⟨A1, n1, c1, rfl, _, _, _, _⟩ := ho.rd.op
  have HO := Lib.hid ho.rd
  have HB1 := Lib.hid hb
  clear ho hb z0 z1 z2 HCALL
  obtain ⟨y0, y1, y2⟩ := HY.out w1 HB1.out
  go_wp2_with fail
  refine (HCALL2.out w1 HB1.out).mono ?_
  rintro e w2 ⟨⟨v2, rfl, ho⟩, hb⟩
  obtain ⟨A2, n2, c2, rfl, _, _, _, _⟩ := ho.rd.op
  have HO2 := Lib.hid ho.rd
  have HO1 : Hid (RdI w2 (.slice A1 n1 c1) r.1) := HO.out.below hb
  have HB2 := Lib.hid (bchain HB1.out hb)
  clear ho hb y0 y1 y2 HCALL2 HO
  cases h0 : (r.2.2 == 0)
  · have HC2 : Hid (sameF a.units b.units s t = false) := by rw [Hid, HC.out, h0]; rfl
    clear HC
    go_wp2_with fail
    go_ret
    exact ⟨by rw [HC2.out]; rfl, by rw [HG.out]; exact HBO.out _ HB2.out⟩
  cases h1 : (q.2.2 == 0)
  · have HC2 : Hid (sameF a.units b.units s t = false) := by rw [Hid, HC.out, h0, h1]; rfl
    clear HC
    go_wp2_with fail
    go_ret
    exact ⟨by rw [HC2.out]; rfl, by rw [HG.out]; exact HBO.out _ HB2.out⟩
  have HC2 : Hid (sameF a.units b.units s t = sameB r.1 q.1) := by rw [Hid, HC.out, h0, h1]; rfl
  clear HC
  go_wp2_with fail
  refine (equal_any _ _ r.1 q.1 _ HO1.out HO2.out).mono ?_
  rintro e w3 ⟨rfl, nq, rfl⟩
  go_wp2_with fail
  go_ret
  exact ⟨by rw [HC2.out]; rfl, by rw [HG.out]; exact HBO.out _ (below_drewN HB2.out _)⟩
set_option maxHeartbeats 4000000 in
set_option maxRecDepth 100000 in
theorem same18_any (va vb : Value) (a b : PO) (s t : ByteArray) (w : World) (hA : RdO w va a) (hB : RdO w vb b) (hsa : SmO a) (hsb : SmO b) (hga : ∀ p ∈ a.units, GoodU p) (hgb : ∀ p ∈ b.units, GoodU p) (hs : s.size ≤ 67108864) (ht : t.size ≤ 67108864) :
    Calls Try.prog 14 #[va, vb, .string s, .string t] w fun e w' => e = .returned (.bool (sameF a.units b.units s t)) ∧ Below w.heap.size w w' := by
  have HSA := Lib.hid hsa
  have HSB := Lib.hid hsb
  have HGA := Lib.hid hga
  have HGB := Lib.hid hgb
  clear hsa hsb hga hgb
  have HA := Lib.hid hA
  obtain ⟨vuA, vlA, rfl, huA, hlA⟩ := hA
  obtain ⟨AA, nA, cA, rfl, _, _, _, _⟩ := huA.op
  obtain ⟨BA, mA, dA, rfl, _, _, _, _⟩ := hlA.op
  clear huA hlA
  have HB := Lib.hid hB
  obtain ⟨vuB, vlB, rfl, huB, hlB⟩ := hB
  obtain ⟨AB, nB, cB, rfl, _, _, _, _⟩ := huB.op
  obtain ⟨BB, mB, dB, rfl, _, _, _, _⟩ := hlB.op
  clear huB hlB
  go_enter Try.func14, Try.ntmps14
  go_upto_region 1 with (fail)
  generalize hW : World.alloc (World.alloc w _) _ = W
  have HBW : Hid (Below w.heap.size w W) := by rw [← hW]; exact two_boxes _ _ _ _ _
  have z0 : W.cell? ⟨w.heap.size, 0, none⟩ = some (.string a.name) := by rw [← hW]; simp [go_sem]
  have z1 : W.cell? ⟨w.heap.size, 1, none⟩ = some (.slice AA nA cA) := by rw [← hW]; simp [go_sem]
  have z2 : W.cell? ⟨w.heap.size, 2, none⟩ = some (.slice BA mA dA) := by rw [← hW]; simp [go_sem]
  have y0 : W.cell? ⟨w.heap.size + 1, 0, none⟩ = some (.string b.name) := by rw [← hW]; simp [go_sem]
  have y1 : W.cell? ⟨w.heap.size + 1, 1, none⟩ = some (.slice AB nB cB) := by rw [← hW]; simp [go_sem]
  have y2 : W.cell? ⟨w.heap.size + 1, 2, none⟩ = some (.slice BB mB dB) := by rw [← hW]; simp [go_sem]
  have hgW : w.heap.size < W.heap.size := by rw [← hW]; simp; omega
  have hgW2 : w.heap.size + 1 < W.heap.size := by rw [← hW]; simp
  have HZ : Hid (∀ W' : World, Below W.heap.size W W' → W'.cell? ⟨w.heap.size, 0, none⟩ = some (.string a.name) ∧ W'.cell? ⟨w.heap.size, 1, none⟩ = some (.slice AA nA cA) ∧ W'.cell? ⟨w.heap.size, 2, none⟩ = some (.slice BA mA dA)) := fun W' h => ⟨cell_keep hgW z0 h, cell_keep hgW z1 h, cell_keep hgW z2 h⟩
  have HY : Hid (∀ W' : World, Below W.heap.size W W' → W'.cell? ⟨w.heap.size + 1, 0, none⟩ = some (.string b.name) ∧ W'.cell? ⟨w.heap.size + 1, 1, none⟩ = some (.slice AB nB cB) ∧ W'.cell? ⟨w.heap.size + 1, 2, none⟩ = some (.slice BB mB dB)) := fun W' h => ⟨cell_keep hgW2 y0 h, cell_keep hgW2 y1 h, cell_keep hgW2 y2 h⟩
  have HVA : Hid (∀ W' : World, Below W.heap.size W W' → RdO W' (.agg #[.string a.name, .slice AA nA cA, .slice BA mA dA]) a) := fun W' h => (HA.out.below HBW.out).below h
  have HVB : Hid (∀ W' : World, Below W.heap.size W W' → RdO W' (.agg #[.string b.name, .slice AB nB cB, .slice BB mB dB]) b) := fun W' h => (HB.out.below HBW.out).below h
  have HBO : Hid (∀ W' : World, Below W.heap.size W W' → Below w.heap.size w W') := fun W' h => bchain HBW.out h
  clear hW HBW hgW hgW2 z0 z1 z2 y0 y1 y2
  generalize hg : w.heap.size = g at HZ HY HBO ⊢
  have HG := Lib.hid hg
  clear hg
  obtain ⟨z0, z1, z2⟩ := HZ.out W (Below.refl _ _)
  have HC : Hid (sameF a.units b.units s t = ((readF a.units s).2.2 == 0 && (readF b.units t).2.2 == 0 && sameB (readF a.units s).1 (readF b.units t).1)) := rfl
  have HCALL : Hid (Calls Try.prog _ _ _ _) := (read17_any _ a s _ (HVA.out W (Below.refl _ _)) HSA.out HGA.out hs)
  have HCALL2 : Hid (∀ W', Below W.heap.size W W' → Calls Try.prog _ _ _ _) := fun W' h => (read17_any _ b t W' (HVB.out W' h) HSB.out HGB.out ht)
  generalize hr : readF a.units s = r at HC HCALL
  generalize hq : readF b.units t = q at HC HCALL2
  clear hr hq
  go_wp2_with fail
  refine (HCALL.out).mono ?_
  rintro e w1 ⟨⟨v1, rfl, ho⟩, hb⟩
  obtain ⟨A1, n1, c1, rfl, _, _, _, _⟩ := ho.rd.op
  have HO := Lib.hid ho.rd
  have HB1 := Lib.hid hb
  clear ho hb z0 z1 z2 HCALL
  obtain ⟨y0, y1, y2⟩ := HY.out w1 HB1.out
  go_wp2_with fail
  refine (HCALL2.out w1 HB1.out).mono ?_
  rintro e w2 ⟨⟨v2, rfl, ho⟩, hb⟩
  obtain ⟨A2, n2, c2, rfl, _, _, _, _⟩ := ho.rd.op
  have HO2 := Lib.hid ho.rd
  have HO1 : Hid (RdI w2 (.slice A1 n1 c1) r.1) := HO.out.below hb
  have HB2 := Lib.hid (bchain HB1.out hb)
  clear ho hb y0 y1 y2 HCALL2 HO
  cases h0 : (r.2.2 == 0)
  · have HC2 : Hid (sameF a.units b.units s t = false) := by rw [Hid, HC.out, h0]; rfl
    clear HC
    go_wp2_with fail
    go_ret
    exact ⟨by rw [HC2.out]; rfl, by rw [HG.out]; exact HBO.out _ HB2.out⟩
  cases h1 : (q.2.2 == 0)
  · have HC2 : Hid (sameF a.units b.units s t = false) := by rw [Hid, HC.out, h0, h1]; rfl
    clear HC
    go_wp2_with fail
    go_ret
    exact ⟨by rw [HC2.out]; rfl, by rw [HG.out]; exact HBO.out _ HB2.out⟩
  have HC2 : Hid (sameF a.units b.units s t = sameB r.1 q.1) := by rw [Hid, HC.out, h0, h1]; rfl
  clear HC
  go_wp2_with fail
  refine (ints_any _ _ r.1 q.1 _ HO1.out HO2.out).mono ?_
  rintro e w3 ⟨rfl, nq, rfl⟩
  go_wp2_with fail
  go_ret
  exact ⟨by rw [HC2.out]; rfl, by rw [HG.out]; exact HBO.out _ (below_drewN HB2.out _)⟩
set_option maxHeartbeats 4000000 in
set_option maxRecDepth 100000 in
theorem normal_any (va : Value) (a : PO) (s : ByteArray) (w : World) (hA : RdO w va a) (hsa : SmO a) (hga : ∀ p ∈ a.units, GoodU p) (hs : s.size ≤ 67108864) :
    Calls Try.prog 15 #[va, .string s] w fun e w' => RetT (convF a.units a.units s) e ∧ Below w.heap.size w w' := by
  have HSA := Lib.hid hsa
  have HGA := Lib.hid hga
  clear hsa hga
  have HA := Lib.hid hA
  obtain ⟨vuA, vlA, rfl, huA, hlA⟩ := hA
  obtain ⟨AA, nA, cA, rfl, _, _, _, _⟩ := huA.op
  obtain ⟨BA, mA, dA, rfl, _, _, _, _⟩ := hlA.op
  clear huA hlA
  go_enter Try.func15, Try.ntmps15
  go_upto_region 1 with (fail)
  generalize hW : World.alloc w _ = W
  have HBW : Hid (Below w.heap.size w W) := by rw [← hW]; repeat (first | assumption | exact Below.refl _ _ | refine Below.alloc ?_ (by first | omega | (simp; done) | (simp; omega)) _ | refine Below.drew ?_ | refine below_drewN ?_ _ | refine Below.setCell ?_ (by first | omega | (simp; done) | (simp; omega)) _)
  have z0 : W.cell? ⟨w.heap.size, 0, none⟩ = some (.string a.name) := by rw [← hW]; simp [go_sem]
  have z1 : W.cell? ⟨w.heap.size, 1, none⟩ = some (.slice AA nA cA) := by rw [← hW]; simp [go_sem]
  have z2 : W.cell? ⟨w.heap.size, 2, none⟩ = some (.slice BA mA dA) := by rw [← hW]; simp [go_sem]
  have hgW : w.heap.size < W.heap.size := by rw [← hW]; simp
  have HZ : Hid (∀ W' : World, Below W.heap.size W W' → W'.cell? ⟨w.heap.size, 0, none⟩ = some (.string a.name) ∧ W'.cell? ⟨w.heap.size, 1, none⟩ = some (.slice AA nA cA) ∧ W'.cell? ⟨w.heap.size, 2, none⟩ = some (.slice BA mA dA)) := fun W' h => ⟨cell_keep hgW z0 h, cell_keep hgW z1 h, cell_keep hgW z2 h⟩
  have HVA : Hid (∀ W' : World, Below W.heap.size W W' → RdO W' (.agg #[.string a.name, .slice AA nA cA, .slice BA mA dA]) a) := fun W' h => (HA.out.below HBW.out).below h
  have HBO : Hid (∀ W' : World, Below W.heap.size W W' → Below w.heap.size w W') := fun W' h => bchain HBW.out h
  clear hW HBW hgW z0 z1 z2
  generalize hg : w.heap.size = g at HZ HBO ⊢
  have HG := Lib.hid hg
  clear hg
  obtain ⟨z0, z1, z2⟩ := HZ.out W (Below.refl _ _)
  have HCALL : Hid (Calls Try.prog _ _ _ _) := (convert_any _ _ a a s _ (HVA.out W (Below.refl _ _)) (HVA.out W (Below.refl _ _)) HSA.out HSA.out HGA.out HGA.out hs)
  generalize hr : convF a.units a.units s = r at HCALL ⊢
  go_wp2_with fail
  refine (HCALL.out).mono ?_
  rintro e w1 ⟨he, hb⟩
  obtain rfl := he
  have HB1 := Lib.hid hb
  clear hb z0 z1 z2 HCALL
  go_wp2_with fail
  go_ret3
  exact ⟨by rw [hr]; rfl, by rw [HG.out]; exact HBO.out _ HB1.out⟩
set_option maxHeartbeats 4000000 in
set_option maxRecDepth 100000 in
theorem normal18_any (va : Value) (a : PO) (s : ByteArray) (w : World) (hA : RdO w va a) (hsa : SmO a) (hga : ∀ p ∈ a.units, GoodU p) (hs : s.size ≤ 67108864) :
    Calls Try.prog 16 #[va, .string s] w fun e w' => RetT (convF a.units a.units s) e ∧ Below w.heap.size w w' := by
  have HSA := Lib.hid hsa
  have HGA := Lib.hid hga
  clear hsa hga
  have HA := Lib.hid hA
  obtain ⟨vuA, vlA, rfl, huA, hlA⟩ := hA
  obtain ⟨AA, nA, cA, rfl, _, _, _, _⟩ := huA.op
  obtain ⟨BA, mA, dA, rfl, _, _, _, _⟩ := hlA.op
  clear huA hlA
  go_enter Try.func16, Try.ntmps16
  go_upto_region 1 with (fail)
  generalize hW : World.alloc w _ = W
  have HBW : Hid (Below w.heap.size w W) := by rw [← hW]; repeat (first | assumption | exact Below.refl _ _ | refine Below.alloc ?_ (by first | omega | (simp; done) | (simp; omega)) _ | refine Below.drew ?_ | refine below_drewN ?_ _ | refine Below.setCell ?_ (by first | omega | (simp; done) | (simp; omega)) _)
  have z0 : W.cell? ⟨w.heap.size, 0, none⟩ = some (.string a.name) := by rw [← hW]; simp [go_sem]
  have z1 : W.cell? ⟨w.heap.size, 1, none⟩ = some (.slice AA nA cA) := by rw [← hW]; simp [go_sem]
  have z2 : W.cell? ⟨w.heap.size, 2, none⟩ = some (.slice BA mA dA) := by rw [← hW]; simp [go_sem]
  have hgW : w.heap.size < W.heap.size := by rw [← hW]; simp
  have HZ : Hid (∀ W' : World, Below W.heap.size W W' → W'.cell? ⟨w.heap.size, 0, none⟩ = some (.string a.name) ∧ W'.cell? ⟨w.heap.size, 1, none⟩ = some (.slice AA nA cA) ∧ W'.cell? ⟨w.heap.size, 2, none⟩ = some (.slice BA mA dA)) := fun W' h => ⟨cell_keep hgW z0 h, cell_keep hgW z1 h, cell_keep hgW z2 h⟩
  have HVA : Hid (∀ W' : World, Below W.heap.size W W' → RdO W' (.agg #[.string a.name, .slice AA nA cA, .slice BA mA dA]) a) := fun W' h => (HA.out.below HBW.out).below h
  have HBO : Hid (∀ W' : World, Below W.heap.size W W' → Below w.heap.size w W') := fun W' h => bchain HBW.out h
  clear hW HBW hgW z0 z1 z2
  generalize hg : w.heap.size = g at HZ HBO ⊢
  have HG := Lib.hid hg
  clear hg
  obtain ⟨z0, z1, z2⟩ := HZ.out W (Below.refl _ _)
  have HCALL : Hid (Calls Try.prog _ _ _ _) := (convert18_any _ _ a a s _ (HVA.out W (Below.refl _ _)) (HVA.out W (Below.refl _ _)) HSA.out HSA.out HGA.out HGA.out hs)
  generalize hr : convF a.units a.units s = r at HCALL ⊢
  go_wp2_with fail
  refine (HCALL.out).mono ?_
  rintro e w1 ⟨he, hb⟩
  obtain rfl := he
  have HB1 := Lib.hid hb
  clear hb z0 z1 z2 HCALL
  go_wp2_with fail
  go_ret3
  exact ⟨by rw [hr]; rfl, by rw [HG.out]; exact HBO.out _ HB1.out⟩
set_option maxHeartbeats 4000000 in
set_option maxRecDepth 100000 in
theorem faithful_any (va : Value) (a : PO) (s : ByteArray) (w : World) (hA : RdO w va a) (hsa : SmO a) (hga : ∀ p ∈ a.units, GoodU p) (hs : s.size ≤ 67108864) :
    Calls Try.prog 17 #[va, .string s] w fun e w' => e = .returned (.bool (faithF a.units s)) ∧ Below w.heap.size w w' := by
  have HSA := Lib.hid hsa
  have HGA := Lib.hid hga
  clear hsa hga
  have HA := Lib.hid hA
  obtain ⟨vuA, vlA, rfl, huA, hlA⟩ := hA
  obtain ⟨AA, nA, cA, rfl, _, _, _, _⟩ := huA.op
  obtain ⟨BA, mA, dA, rfl, _, _, _, _⟩ := hlA.op
  clear huA hlA
  go_enter Try.func17, Try.ntmps17
  go_upto_region 1 with (fail)
  generalize hW : World.alloc w _ = W
  have HBW : Hid (Below w.heap.size w W) := by rw [← hW]; repeat (first | assumption | exact Below.refl _ _ | refine Below.alloc ?_ (by first | omega | (simp; done) | (simp; omega)) _ | refine Below.drew ?_ | refine below_drewN ?_ _ | refine Below.setCell ?_ (by first | omega | (simp; done) | (simp; omega)) _)
  have z0 : W.cell? ⟨w.heap.size, 0, none⟩ = some (.string a.name) := by rw [← hW]; simp [go_sem]
  have z1 : W.cell? ⟨w.heap.size, 1, none⟩ = some (.slice AA nA cA) := by rw [← hW]; simp [go_sem]
  have z2 : W.cell? ⟨w.heap.size, 2, none⟩ = some (.slice BA mA dA) := by rw [← hW]; simp [go_sem]
  have hgW : w.heap.size < W.heap.size := by rw [← hW]; simp
  have HZ : Hid (∀ W' : World, Below W.heap.size W W' → W'.cell? ⟨w.heap.size, 0, none⟩ = some (.string a.name) ∧ W'.cell? ⟨w.heap.size, 1, none⟩ = some (.slice AA nA cA) ∧ W'.cell? ⟨w.heap.size, 2, none⟩ = some (.slice BA mA dA)) := fun W' h => ⟨cell_keep hgW z0 h, cell_keep hgW z1 h, cell_keep hgW z2 h⟩
  have HVA : Hid (∀ W' : World, Below W.heap.size W W' → RdO W' (.agg #[.string a.name, .slice AA nA cA, .slice BA mA dA]) a) := fun W' h => (HA.out.below HBW.out).below h
  have HBO : Hid (∀ W' : World, Below W.heap.size W W' → Below w.heap.size w W') := fun W' h => bchain HBW.out h
  clear hW HBW hgW z0 z1 z2
  generalize hg : w.heap.size = g at HZ HBO ⊢
  have HG := Lib.hid hg
  clear hg
  obtain ⟨z0, z1, z2⟩ := HZ.out W (Below.refl _ _)
  have HC : Hid (faithF a.units s = ((convF a.units a.units s).2.2 == 0 && ((convF a.units a.units s).1.toList == s.toList))) := rfl
  have HCALL : Hid (Calls Try.prog _ _ _ _) := (normal_any _ a s _ (HVA.out W (Below.refl _ _)) HSA.out HGA.out hs)
  generalize hr : convF a.units a.units s = r at HC HCALL
  clear hr
  go_wp2_with fail
  refine (HCALL.out).mono ?_
  rintro e w1 ⟨he, hb⟩
  obtain rfl := he
  have HB1 := Lib.hid hb
  clear hb z0 z1 z2 HCALL
  cases h0 : (r.2.2 == 0)
  · have HC2 : Hid (faithF a.units s = false) := by rw [Hid, HC.out, h0]; rfl
    clear HC
    go_wp2_with fail
    go_ret
    exact ⟨by rw [HC2.out]; rfl, by rw [HG.out]; exact HBO.out _ HB1.out⟩
  have HC2 : Hid (faithF a.units s = (r.1.toList == s.toList)) := by rw [Hid, HC.out, h0]; rfl
  clear HC
  go_wp2_with fail
  go_ret
  exact ⟨by rw [HC2.out]; rfl, by rw [HG.out]; exact HBO.out _ HB1.out⟩
set_option maxHeartbeats 4000000 in
set_option maxRecDepth 100000 in
theorem faithful18_any (va : Value) (a : PO) (s : ByteArray) (w : World) (hA : RdO w va a) (hsa : SmO a) (hga : ∀ p ∈ a.units, GoodU p) (hs : s.size ≤ 67108864) :
    Calls Try.prog 18 #[va, .string s] w fun e w' => e = .returned (.bool (faithF a.units s)) ∧ Below w.heap.size w w' := by
  have HSA := Lib.hid hsa
  have HGA := Lib.hid hga
  clear hsa hga
  have HA := Lib.hid hA
  obtain ⟨vuA, vlA, rfl, huA, hlA⟩ := hA
  obtain ⟨AA, nA, cA, rfl, _, _, _, _⟩ := huA.op
  obtain ⟨BA, mA, dA, rfl, _, _, _, _⟩ := hlA.op
  clear huA hlA
  go_enter Try.func18, Try.ntmps18
  go_upto_region 1 with (fail)
  generalize hW : World.alloc w _ = W
  have HBW : Hid (Below w.heap.size w W) := by rw [← hW]; repeat (first | assumption | exact Below.refl _ _ | refine Below.alloc ?_ (by first | omega | (simp; done) | (simp; omega)) _ | refine Below.drew ?_ | refine below_drewN ?_ _ | refine Below.setCell ?_ (by first | omega | (simp; done) | (simp; omega)) _)
  have z0 : W.cell? ⟨w.heap.size, 0, none⟩ = some (.string a.name) := by rw [← hW]; simp [go_sem]
  have z1 : W.cell? ⟨w.heap.size, 1, none⟩ = some (.slice AA nA cA) := by rw [← hW]; simp [go_sem]
  have z2 : W.cell? ⟨w.heap.size, 2, none⟩ = some (.slice BA mA dA) := by rw [← hW]; simp [go_sem]
  have hgW : w.heap.size < W.heap.size := by rw [← hW]; simp
  have HZ : Hid (∀ W' : World, Below W.heap.size W W' → W'.cell? ⟨w.heap.size, 0, none⟩ = some (.string a.name) ∧ W'.cell? ⟨w.heap.size, 1, none⟩ = some (.slice AA nA cA) ∧ W'.cell? ⟨w.heap.size, 2, none⟩ = some (.slice BA mA dA)) := fun W' h => ⟨cell_keep hgW z0 h, cell_keep hgW z1 h, cell_keep hgW z2 h⟩
  have HVA : Hid (∀ W' : World, Below W.heap.size W W' → RdO W' (.agg #[.string a.name, .slice AA nA cA, .slice BA mA dA]) a) := fun W' h => (HA.out.below HBW.out).below h
  have HBO : Hid (∀ W' : World, Below W.heap.size W W' → Below w.heap.size w W') := fun W' h => bchain HBW.out h
  clear hW HBW hgW z0 z1 z2
  generalize hg : w.heap.size = g at HZ HBO ⊢
  have HG := Lib.hid hg
  clear hg
  obtain ⟨z0, z1, z2⟩ := HZ.out W (Below.refl _ _)
  have HC : Hid (faithF a.units s = ((convF a.units a.units s).2.2 == 0 && ((convF a.units a.units s).1.toList == s.toList))) := rfl
  have HCALL : Hid (Calls Try.prog _ _ _ _) := (normal18_any _ a s _ (HVA.out W (Below.refl _ _)) HSA.out HGA.out hs)
  generalize hr : convF a.units a.units s = r at HC HCALL
  clear hr
  go_wp2_with fail
  refine (HCALL.out).mono ?_
  rintro e w1 ⟨he, hb⟩
  obtain rfl := he
  have HB1 := Lib.hid hb
  clear hb z0 z1 z2 HCALL
  cases h0 : (r.2.2 == 0)
  · have HC2 : Hid (faithF a.units s = false) := by rw [Hid, HC.out, h0]; rfl
    clear HC
    go_wp2_with fail
    go_ret
    exact ⟨by rw [HC2.out]; rfl, by rw [HG.out]; exact HBO.out _ HB1.out⟩
  have HC2 : Hid (faithF a.units s = (r.1.toList == s.toList)) := by rw [Hid, HC.out, h0]; rfl
  clear HC
  go_wp2_with fail
  go_ret
  exact ⟨by rw [HC2.out]; rfl, by rw [HG.out]; exact HBO.out _ HB1.out⟩
set_option maxHeartbeats 4000000 in
set_option maxRecDepth 100000 in
theorem exact_any (va vw : Value) (a : PO) (ws : List Int) (w : World) (hA : RdO w va a) (hsa : SmO a) (hga : ∀ p ∈ a.units, GoodU p) (hw : RdI w vw ws) (hl : ws.length ≤ 1000000000) :
    Calls Try.prog 23 #[va, vw] w fun e w' => e = .returned (.bool (exactF a.units ws)) ∧ Below w.heap.size w w' := by
  have HSA := Lib.hid hsa
  have HGA := Lib.hid hga
  have HWS := Lib.hid hw
  obtain ⟨Aw, nw, cw, rfl, _, _, _, _⟩ := hw.op
  clear hsa hga hw
  have HA := Lib.hid hA
  obtain ⟨vuA, vlA, rfl, huA, hlA⟩ := hA
  obtain ⟨AA, nA, cA, rfl, _, _, _, _⟩ := huA.op
  obtain ⟨BA, mA, dA, rfl, _, _, _, _⟩ := hlA.op
  clear huA hlA
  go_enter Try.func23, Try.ntmps23
  go_upto_region 1 with (fail)
  generalize hW : World.alloc w _ = W
  have HBW : Hid (Below w.heap.size w W) := by rw [← hW]; repeat (first | assumption | exact Below.refl _ _ | refine Below.alloc ?_ (by first | omega | (simp; done) | (simp; omega)) _ | refine Below.drew ?_ | refine below_drewN ?_ _ | refine Below.setCell ?_ (by first | omega | (simp; done) | (simp; omega)) _)
  have z0 : W.cell? ⟨w.heap.size, 0, none⟩ = some (.string a.name) := by rw [← hW]; simp [go_sem]
  have z1 : W.cell? ⟨w.heap.size, 1, none⟩ = some (.slice AA nA cA) := by rw [← hW]; simp [go_sem]
  have z2 : W.cell? ⟨w.heap.size, 2, none⟩ = some (.slice BA mA dA) := by rw [← hW]; simp [go_sem]
  have hgW : w.heap.size < W.heap.size := by rw [← hW]; simp
  have HZ : Hid (∀ W' : World, Below W.heap.size W W' → W'.cell? ⟨w.heap.size, 0, none⟩ = some (.string a.name) ∧ W'.cell? ⟨w.heap.size, 1, none⟩ = some (.slice AA nA cA) ∧ W'.cell? ⟨w.heap.size, 2, none⟩ = some (.slice BA mA dA)) := fun W' h => ⟨cell_keep hgW z0 h, cell_keep hgW z1 h, cell_keep hgW z2 h⟩
  have HVA : Hid (∀ W' : World, Below W.heap.size W W' → RdO W' (.agg #[.string a.name, .slice AA nA cA, .slice BA mA dA]) a) := fun W' h => (HA.out.below HBW.out).below h
  have HBO : Hid (∀ W' : World, Below W.heap.size W W' → Below w.heap.size w W') := fun W' h => bchain HBW.out h
  have HWS : Hid (∀ W' : World, Below W.heap.size W W' → RdI W' (.slice Aw nw cw) ws) := fun W' h => (HWS.out.below HBW.out).below h
  clear hW HBW hgW z0 z1 z2
  generalize hg : w.heap.size = g at HZ HBO ⊢
  have HG := Lib.hid hg
  clear hg
  obtain ⟨z0, z1, z2⟩ := HZ.out W (Below.refl _ _)
  have HC : Hid (exactF a.units ws = ((spellF a.units ws).2.2 == 0 && (readF a.units (spellF a.units ws).1).2.2 == 0 && sameB (readF a.units (spellF a.units ws).1).1 ws)) := rfl
  have HQS : Hid ((spellF a.units ws).1.size ≤ 67108864) := spellF_size _ _ HSA.out.graph
  have HCALL : Hid (Calls Try.prog _ _ _ _) := (spell_any _ _ a ws _ (HVA.out W (Below.refl _ _)) HSA.out HGA.out (HWS.out W (Below.refl _ _)) hl)
  generalize hr : spellF a.units ws = r at HC HCALL HQS
  clear hr
  go_wp2_with fail
  refine (HCALL.out).mono ?_
  rintro e w1 ⟨he, hb⟩
  obtain rfl := he
  have HB1 := Lib.hid hb
  clear hb z0 z1 z2 HCALL
  obtain ⟨z0, z1, z2⟩ := HZ.out w1 HB1.out
  by_cases h0 : r.2.2 = 0
  rotate_left
  · have d0 : (r.2.2 != 0) = true := by simp [h0]
    have HC2 : Hid (exactF a.units ws = false) := by rw [Hid, HC.out, beq_false_of_ne h0]; rfl
    clear HC h0
    go_wp2_with fail
    go_ret
    exact ⟨by rw [HC2.out]; rfl, by rw [HG.out]; exact HBO.out _ HB1.out⟩
  have d0 : (r.2.2 != 0) = false := by simp [h0]
  have HC3 : Hid (exactF a.units ws = ((readF a.units r.1).2.2 == 0 && sameB (readF a.units r.1).1 ws)) := by rw [Hid, HC.out, h0]; rfl
  clear HC h0
  have HCALL : Hid (Calls Try.prog _ _ _ _) := (read_any _ a r.1 w1 (HVA.out w1 HB1.out) HSA.out HGA.out HQS.out)
  generalize hq : readF a.units r.1 = q at HC3 HCALL
  clear hq
  go_wp2_with fail
  refine (HCALL.out).mono ?_
  rintro e w2 ⟨⟨v2, rfl, ho⟩, hb⟩
  obtain ⟨A2, n2, c2, rfl, _, _, _, _⟩ := ho.rd.op
  have HO2 := Lib.hid ho.rd
  have HB2 := Lib.hid (bchain HB1.out hb)
  clear ho hb z0 z1 z2 HCALL
  cases h1 : (q.2.2 == 0)
  · have HC2 : Hid (exactF a.units ws = false) := by rw [Hid, HC3.out, h1]; rfl
    clear HC3
    go_wp2_with fail
    go_ret
    exact ⟨by rw [HC2.out]; rfl, by rw [HG.out]; exact HBO.out _ HB2.out⟩
  have HC2 : Hid (exactF a.units ws = sameB q.1 ws) := by rw [Hid, HC3.out, h1]; rfl
  clear HC3
  go_wp2_with fail
  refine (equal_any _ _ q.1 ws _ HO2.out (HWS.out _ HB2.out)).mono ?_
  rintro e w3 ⟨rfl, nq, rfl⟩
  go_wp2_with fail
  go_ret
  exact ⟨by rw [HC2.out]; rfl, by rw [HG.out]; exact HBO.out _ (below_drewN HB2.out _)⟩
end Go.Proofs.Ytokbclpdpegicaa
