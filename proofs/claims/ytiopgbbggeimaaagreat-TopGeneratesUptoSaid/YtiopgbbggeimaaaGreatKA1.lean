import Derived.Test.YtiopgbbggeimaaaGreatK22
/-
  analyze: All.
-/
namespace Go.Proofs.YtiopgbbggeimaaaGreat
open Go.ChangeShapes Go.WideShapes Go.ChangeAt Go.RowKit
/-- what All returns -/
def AllQ (G : PLang) (wl : List Int) (e : Ending) (w : World) : Prop := ∃ (A : Option Addr) (n c : Nat), e = .returned (.tuple #[.slice A n c, .int .i64 (allF G wl).2]) ∧ RdAs w (.slice A n c) (allF G wl).1
theorem rdAs_nil (w : World) : RdAs w (.slice none 0 0) [] := (OwnAs.nil w 0).rd
set_option maxHeartbeats 32000000 in
set_option maxRecDepth 100000 in
theorem all_any (g : GV) (G : PLang) (ws : Sl) (wl : List Int) (w : World) (hg : DpG w g G) (hl : LightOk G) (hw : RdI w (.slice ws.A ws.n ws.c) wl) :
    Calls Tryz.prog 25 #[.agg #[.slice g.i.A g.i.n g.i.c, .string g.on, .slice g.u.A g.u.n g.u.c, .slice g.l.A g.l.n g.l.c, .slice g.r.A g.r.n g.r.c, .int .i64 g.q, .slice g.s.A g.s.n g.s.c, .slice g.f.A g.f.n g.f.c, .slice g.x.A g.x.n g.x.c], .slice ws.A ws.n ws.c] w fun e w' => AllQ G wl e w' ∧ Below w.heap.size w w' := by
  have HG := Lib.hid hg
  have HL := Lib.hid hl
  have HW := Lib.hid hw
  obtain ⟨r, hr⟩ : ∃ r, wordC G.inv wl = r := ⟨_, rfl⟩
  have HR := Lib.hid hr
  clear hg hl hw hr
  go_enter Tryz.func25, Tryz.ntmps25
  go_upto_region 1 with (fail)
  generalize hW : World.alloc w _ = W
  have HBW : Hid (Below w.heap.size w W) := by rw [← hW]; exact al_below _ _
  have HQ : Hid (LgBlk W w.heap.size g) := by rw [← hW]; exact heap_alloc_new w _
  clear hW
  obtain ⟨z0, z1, z2, z3, z4, z5, z6, z7, z8, zl⟩ := HQ.out.facts
  go_wp2_with fail
  refine (pword_any _ _ G.inv wl W (HG.out.below HBW.out).inv (HW.out.below HBW.out)).mono ?_
  rintro e w1 ⟨rfl, hb1⟩
  rw [HR.out]
  have HB1 : Hid (Below w.heap.size w w1) := bchain HBW.out hb1
  have HQ1 := Lib.hid (HQ.out.below hb1)
  clear hb1 z0 z1 z2 z3 z4 z5 z6 z7 z8 zl
  by_cases hr0 : r = 0
  · have d1 : (r != 0) = false := by simp [hr0]
    have HRW : Hid (wordC G.inv wl = 0) := by rw [Hid, HR.out, hr0]
    clear hr0
    obtain ⟨z0, z1, z2, z3, z4, z5, z6, z7, z8, zl⟩ := HQ1.out.facts
    go_upto_region 7 with (fail)
    generalize hY : World.alloc (World.alloc (World.alloc w1 _) _) _ = Y
    obtain ⟨Y1, h1⟩ : ∃ Y1, w1.alloc (.cells #[.slice none 0 0] 48) = Y1 := ⟨_, rfl⟩
    obtain ⟨Y2, h2⟩ : ∃ Y2, Y1.alloc (.cells #[.bool false] 4) = Y2 := ⟨_, rfl⟩
    have hs1 : Y1.heap.size = w1.heap.size + 1 := by rw [← h1]; exact World.size_alloc _ _
    have hs2 : Y2.heap.size = w1.heap.size + 1 + 1 := by rw [← h2, World.size_alloc, hs1]
    have hb1 : Below w1.heap.size w1 Y1 := by rw [← h1]; exact al_below _ _
    have hb2 : Below Y1.heap.size Y1 Y2 := by rw [← h2]; exact al_below _ _
    rw [h1, h2] at hY
    have hb3 : Below Y2.heap.size Y2 Y := by rw [← hY]; exact al_below _ _
    have g1 : Boxed Y1 w1.heap.size 48 (.slice none 0 0) := by rw [← h1]; exact Boxed.new _ _ _
    have g2 : Boxed Y2 (w1.heap.size + 1) 4 (.bool false) := by rw [← h2, ← hs1]; exact Boxed.new _ _ _
    have g3 : Boxed Y (w1.heap.size + 1 + 1) 120 (addV w1.heap.size (w1.heap.size + 1)) := by rw [← hY, ← hs2]; exact Boxed.new _ _ _
    have HBY : Hid (Below w1.heap.size w1 Y) := bchain hb1 (bchain hb2 hb3)
    have hge : w.heap.size ≤ w1.heap.size := HB1.out.size
    have HST : Hid (StA w.heap.size w1.heap.size (w1.heap.size + 1) ([], false) Y) := ⟨_, boxed_below g1 (bchain hb2 hb3), OwnAs.nil _ _, boxed_below g2 hb3, hge, by omega, by simp⟩
    have HAD := Lib.hid g3
    have HBY0 : Hid (Below w.heap.size w Y) := bchain HB1.out HBY.out
    have HQY := Lib.hid (HQ1.out.below HBY.out)
    clear hY h1 h2 hs1 hs2 hb1 hb2 hb3 g1 g2 g3 hge z0 z1 z2 z3 z4 z5 z6 z7 z8 zl d1
    generalize w1.heap.size + 1 + 1 = ba at HAD ⊢
    generalize w1.heap.size + 1 = bf at HST HAD ⊢
    generalize w1.heap.size = bo at HST HAD ⊢
    obtain ⟨z0, z1, z2, z3, z4, z5, z6, z7, z8, zl⟩ := HQY.out.facts
    have hwc := wordC_ok.1 HRW.out
    have hcall := srun_any w g G ws wl bo bf w.heap.size ba ([], false) Y HG.out HL.out HW.out (List.length_pos_iff.2 hwc.1) hwc.2.1 HBY0.out HST.out HQY.out HAD.out
    obtain ⟨⟨⟨Ls, fl⟩, fb⟩, hfe⟩ : ∃ r, foldE addF ([], false) (hits G wl 4 [] 1 []) = r := ⟨_, rfl⟩
    have HFE := Lib.hid hfe
    rw [hfe] at hcall
    have HC := Lib.hid hcall
    clear hcall hwc hfe
    go_wp2_with fail
    refine HC.out.mono ?_
    rintro e w9 ⟨rfl, hs9, hg9⟩
    obtain ⟨v, q1, q2, q3, _, _, _⟩ := hs9
    obtain ⟨Av, cv, rfl⟩ := q2.slice
    have HO9 := Lib.hid q2
    have HB9 : Hid (Below w.heap.size w w9) := HBY0.out.trans hg9.b
    have c1 := q1.cell
    have c3 := q3.cell
    clear hg9 q1 q2 q3 HC z0 z1 z2 z3 z4 z5 z6 z7 z8 zl
    simp only at c1 c3 HO9
    cases fl
    · have HAF : Hid (allF G wl = (Ls, 0)) := by rw [Hid, allF, HFE.out]; simp [HRW.out]
      go_wp2_with fail
      go_ret2
      exact ⟨⟨_, _, _, by rw [HAF.out]; rfl, by rw [HAF.out]; exact HO9.out.rd⟩, HB9.out⟩
    · have HAF : Hid (allF G wl = ([], 11)) := by rw [Hid, allF, HFE.out]; simp [HRW.out]
      go_wp2_with fail
      go_ret2
      exact ⟨⟨_, _, _, by rw [HAF.out]; rfl, by rw [HAF.out]; exact rdAs_nil _⟩, HB9.out⟩
  · have d1 : (r != 0) = true := by simp [hr0]
    have HAF : Hid (allF G wl = ([], r)) := by rw [Hid, allF, HR.out, if_pos hr0]
    clear hr0
    go_wp2_with fail
    go_ret2
    exact ⟨⟨_, _, _, by rw [HAF.out]; rfl, by rw [HAF.out]; exact rdAs_nil _⟩, HB1.out⟩
end Go.Proofs.YtiopgbbggeimaaaGreat

/-
  analyze: Of.
-/
namespace Go.Proofs.YtiopgbbggeimaaaGreat
open Go.ChangeShapes Go.WideShapes Go.ChangeAt Go.RowKit
/-- Of -/
def ofF (G : PLang) (s : ByteArray) : List (List PPt) × Int := if (readF G.ort.units s).2.2 ≠ 0 then ([], (readF G.ort.units s).2.2) else allF G (readF G.ort.units s).1
def OfQ (G : PLang) (s : ByteArray) (e : Ending) (w : World) : Prop := ∃ (A : Option Addr) (n c : Nat), e = .returned (.tuple #[.slice A n c, .int .i64 (ofF G s).2]) ∧ RdAs w (.slice A n c) (ofF G s).1
set_option maxHeartbeats 32000000 in
set_option maxRecDepth 100000 in
theorem of_any (g : GV) (G : PLang) (s : ByteArray) (w : World) (hg : DpG w g G) (hl : LightOk G) (hso : SmO G.ort) (hs : s.size ≤ 67108864) :
    Calls Tryz.prog 9 #[.agg #[.slice g.i.A g.i.n g.i.c, .string g.on, .slice g.u.A g.u.n g.u.c, .slice g.l.A g.l.n g.l.c, .slice g.r.A g.r.n g.r.c, .int .i64 g.q, .slice g.s.A g.s.n g.s.c, .slice g.f.A g.f.n g.f.c, .slice g.x.A g.x.n g.x.c], .string s] w fun e w' => OfQ G s e w' ∧ Below w.heap.size w w' := by
  have HG := Lib.hid hg
  have HL := Lib.hid hl
  have HSO := Lib.hid hso
  have HSZ := Lib.hid hs
  obtain ⟨⟨rl, rp, rc⟩, hr⟩ : ∃ r, readF G.ort.units s = r := ⟨_, rfl⟩
  have HR := Lib.hid hr
  clear hg hl hso hs hr
  go_enter Tryz.func9, Tryz.ntmps9
  go_upto_region 1 with (fail)
  generalize hW : World.alloc w _ = W
  have HBW : Hid (Below w.heap.size w W) := by rw [← hW]; exact al_below _ _
  have HQ : Hid (LgBlk W w.heap.size g) := by rw [← hW]; exact heap_alloc_new w _
  clear hW
  obtain ⟨z0, z1, z2, z3, z4, z5, z6, z7, z8, zl⟩ := HQ.out.facts
  go_wp2_with fail
  refine (read_any _ G.ort s W (HG.out.below HBW.out).ort HSO.out HL.out.units.1 HSZ.out).mono ?_
  rintro e w1 ⟨⟨v', he, ho⟩, hb1⟩
  rw [HR.out] at he ho
  subst he
  obtain ⟨_, Av, cv, rfl⟩ := own_slice ho
  have HO := Lib.hid ho
  have HB1 : Hid (Below w.heap.size w w1) := bchain HBW.out hb1
  have HQ1 := Lib.hid (HQ.out.below hb1)
  clear hb1 ho z0 z1 z2 z3 z4 z5 z6 z7 z8 zl
  obtain ⟨z0, z1, z2, z3, z4, z5, z6, z7, z8, zl⟩ := HQ1.out.facts
  dsimp only
  by_cases hr0 : rc = 0
  · have HOF : Hid (ofF G s = allF G rl) := by rw [Hid, ofF, HR.out, if_neg (by simp [hr0])]
    subst hr0
    go_wp2_with fail
    refine (all_any g G ⟨Av, rl.length, cv⟩ rl w1 (HG.out.below HB1.out) HL.out HO.out.rd).mono ?_
    rintro e w2 ⟨⟨A2, n2, c2, rfl, h2⟩, hb2⟩
    have HB2 := Lib.hid (bchain HB1.out hb2)
    have H2 := Lib.hid h2
    clear hb2 h2
    go_wp2_with fail
    go_ret2
    exact ⟨⟨A2, n2, c2, by rw [HOF.out]; rfl, by rw [HOF.out]; exact H2.out⟩, HB2.out⟩
  · have d1 : (rc != 0) = true := by simp [hr0]
    have HOF : Hid (ofF G s = ([], rc)) := by rw [Hid, ofF, HR.out, if_pos hr0]
    clear hr0
    go_wp2_with fail
    go_ret2
    exact ⟨⟨none, 0, 0, by rw [HOF.out]; rfl, by rw [HOF.out]; exact rdAs_nil _⟩, HB1.out⟩
end Go.Proofs.YtiopgbbggeimaaaGreat

/-
  langdoctop: the language of the example.
-/
namespace Go.Proofs.YtiopgbbggeimaaaGreat
open Go.ChangeShapes Go.WideShapes Go.ChangeAt Go.RowKit
def t1 (b : UInt8) : ByteArray := ⟨#[b]⟩
def G9 : PLang where
  inv := [⟨t1 98, 2⟩, ⟨t1 97, 3⟩, ⟨t1 112, 0⟩, ⟨t1 105, 11⟩]
  ort := ⟨⟨#[109, 97, 105, 110]⟩, [⟨t1 98, [1]⟩, ⟨t1 97, [2]⟩, ⟨t1 112, [3]⟩, ⟨t1 105, [4]⟩], []⟩
  rules := [⟨[3], [1], [⟨1, 1⟩], [⟨1, 1⟩], false, false⟩]
  net := ⟨2, [⟨0, 1, 1⟩, ⟨1, 2, 1⟩], [1]⟩
  lex := [⟨1, [1, 2], 1, [], 0, [⟨⟨#[100, 111, 103]⟩, ⟨#[]⟩⟩], [], []⟩, ⟨2, [3, 4], 2, [], 0, [⟨⟨#[80, 76]⟩, ⟨#[]⟩⟩], [], []⟩]
def allocs (w : World) (l : List Obj) : World := l.foldl World.alloc w
theorem allocs_below : ∀ (l : List Obj) (w : World), Below w.heap.size w (allocs w l)
  | [], _ => Below.refl _ _
  | o :: l, w => bchain ((Below.refl _ _).alloc (Nat.le_refl _) o) (allocs_below l (w.alloc o))
theorem allocs_size : ∀ (l : List Obj) (w : World), (allocs w l).heap.size = w.heap.size + l.length
  | [], _ => rfl
  | o :: l, w => by
    have h := allocs_size l (w.alloc o)
    rw [World.size_alloc] at h
    show (allocs (w.alloc o) l).heap.size = _
    rw [h, List.length_cons]; omega
theorem allocs_at : ∀ (l : List Obj) (w : World) (i : Nat) (o : Obj), l[i]? = some o → (allocs w l).heap[w.heap.size + i]? = some o
  | [], _, _, _, h => by simp at h
  | o :: l, w, 0, p, h => by
    simp at h
    subst h
    exact ((allocs_below l (w.alloc o)).block w.heap.size (by simp)).trans (heap_alloc_new w o)
  | o :: l, w, i + 1, p, h => by
    simp at h
    have h2 := allocs_at l (w.alloc o) i p h
    rw [World.size_alloc] at h2
    show (allocs (w.alloc o) l).heap[_]? = _
    rw [← h2]
    congr 1; omega
def L9 (n : Nat) : List Obj := [
  .cells #[.slice (some ⟨n + 1 + 1, 0, none⟩) 4 4, .string ⟨#[109, 97, 105, 110]⟩, .slice (some ⟨n + 1 + 1 + 1 + 1 + 1 + 1 + 1, 0, none⟩) 4 4, .slice none 0 0, .slice (some ⟨n + 1 + 1 + 1 + 1 + 1 + 1 + 1 + 1 + 1 + 1 + 1, 0, none⟩) 1 1, .int .i64 2, .slice (some ⟨n + 1 + 1 + 1 + 1 + 1 + 1 + 1 + 1 + 1 + 1 + 1 + 1, 0, none⟩) 2 2, .slice (some ⟨n + 1 + 1 + 1 + 1 + 1 + 1 + 1 + 1 + 1 + 1 + 1 + 1 + 1, 0, none⟩) 1 1, .slice (some ⟨n + 1 + 1 + 1 + 1 + 1 + 1 + 1 + 1 + 1 + 1 + 1 + 1 + 1 + 1 + 1 + 1 + 1 + 1, 0, none⟩) 2 2] 36,
  .cells #[.slice (some ⟨n + 1 + 1, 0, none⟩) 4 4, .string ⟨#[109, 97, 105, 110]⟩, .slice (some ⟨n + 1 + 1 + 1 + 1 + 1 + 1 + 1, 0, none⟩) 4 4, .slice none 0 0, .slice (some ⟨n + 1 + 1 + 1 + 1 + 1 + 1 + 1 + 1 + 1 + 1 + 1, 0, none⟩) 1 1, .int .i64 2, .slice (some ⟨n + 1 + 1 + 1 + 1 + 1 + 1 + 1 + 1 + 1 + 1 + 1 + 1, 0, none⟩) 2 2, .slice (some ⟨n + 1 + 1 + 1 + 1 + 1 + 1 + 1 + 1 + 1 + 1 + 1 + 1 + 1, 0, none⟩) 1 1, .slice (some ⟨n + 1 + 1 + 1 + 1 + 1 + 1 + 1 + 1 + 1 + 1 + 1 + 1 + 1 + 1 + 1 + 1 + 1 + 1, 0, none⟩) 2 2] 36,
  .cells #[.string ⟨#[98]⟩, .int .i64 2, .string ⟨#[97]⟩, .int .i64 3, .string ⟨#[112]⟩, .int .i64 0, .string ⟨#[105]⟩, .int .i64 11] 91,
  .cells #[.int .i64 1] 3,
  .cells #[.int .i64 2] 3,
  .cells #[.int .i64 3] 3,
  .cells #[.int .i64 4] 3,
  .cells #[.string ⟨#[98]⟩, .slice (some ⟨n + 1 + 1 + 1, 0, none⟩) 1 1, .string ⟨#[97]⟩, .slice (some ⟨n + 1 + 1 + 1 + 1, 0, none⟩) 1 1, .string ⟨#[112]⟩, .slice (some ⟨n + 1 + 1 + 1 + 1 + 1, 0, none⟩) 1 1, .string ⟨#[105]⟩, .slice (some ⟨n + 1 + 1 + 1 + 1 + 1 + 1, 0, none⟩) 1 1] 93,
  .cells #[.int .i64 1, .int .i64 1] 95,
  .cells #[.int .i64 3] 3,
  .cells #[.int .i64 1] 3,
  .cells #[.slice (some ⟨n + 1 + 1 + 1 + 1 + 1 + 1 + 1 + 1 + 1, 0, none⟩) 1 1, .slice (some ⟨n + 1 + 1 + 1 + 1 + 1 + 1 + 1 + 1 + 1 + 1, 0, none⟩) 1 1, .slice (some ⟨n + 1 + 1 + 1 + 1 + 1 + 1 + 1 + 1, 0, none⟩) 1 1, .slice (some ⟨n + 1 + 1 + 1 + 1 + 1 + 1 + 1 + 1, 0, none⟩) 1 1, .bool false, .bool false] 61,
  .cells #[.int .i64 0, .int .i64 1, .int .i64 1, .int .i64 1, .int .i64 2, .int .i64 1] 97,
  .cells #[.int .i64 1] 3,
  .cells #[.int .i64 1, .int .i64 2] 3,
  .cells #[.string ⟨#[100, 111, 103]⟩, .string ⟨#[]⟩] 99,
  .cells #[.int .i64 3, .int .i64 4] 3,
  .cells #[.string ⟨#[80, 76]⟩, .string ⟨#[]⟩] 99,
  .cells #[.int .i64 1, .slice (some ⟨n + 1 + 1 + 1 + 1 + 1 + 1 + 1 + 1 + 1 + 1 + 1 + 1 + 1 + 1, 0, none⟩) 2 2, .int .i64 1, .slice none 0 0, .int .i64 0, .slice (some ⟨n + 1 + 1 + 1 + 1 + 1 + 1 + 1 + 1 + 1 + 1 + 1 + 1 + 1 + 1 + 1, 0, none⟩) 1 1, .slice none 0 0, .slice none 0 0, .int .i64 2, .slice (some ⟨n + 1 + 1 + 1 + 1 + 1 + 1 + 1 + 1 + 1 + 1 + 1 + 1 + 1 + 1 + 1 + 1, 0, none⟩) 2 2, .int .i64 2, .slice none 0 0, .int .i64 0, .slice (some ⟨n + 1 + 1 + 1 + 1 + 1 + 1 + 1 + 1 + 1 + 1 + 1 + 1 + 1 + 1 + 1 + 1 + 1, 0, none⟩) 1 1, .slice none 0 0, .slice none 0 0] 85]
/-- a fresh row -/
theorem rd_row {w : World} {k : Nat} {cs : Array Value} {t : TypeId} (h : w.heap[k]? = some (.cells cs t (0, 0))) (n size : Nat) (hs : cs.size = n * size) (hn : n ≤ 9223372036854775807) : Rd w size (.slice (some ⟨k, 0, none⟩) n n) n cs.toList := by
  refine ⟨_, n, rfl, Nat.le_refl _, hn, by simp [hs], fun _ => ⟨k, 0, rfl, (Array.getElem?_eq_some_iff.1 h).1, fun j u hu => ?_⟩⟩
  have h2 := cell_of_row w k (0 + j) _ _ (0, 0) h
  rw [h2]
  simpa using hu
def g9 (n : Nat) : GV := ⟨⟨some ⟨n + 1 + 1, 0, none⟩, 4, 4⟩, ⟨#[109, 97, 105, 110]⟩, ⟨some ⟨n + 1 + 1 + 1 + 1 + 1 + 1 + 1, 0, none⟩, 4, 4⟩, ⟨none, 0, 0⟩, ⟨some ⟨n + 1 + 1 + 1 + 1 + 1 + 1 + 1 + 1 + 1 + 1 + 1, 0, none⟩, 1, 1⟩, 2, ⟨some ⟨n + 1 + 1 + 1 + 1 + 1 + 1 + 1 + 1 + 1 + 1 + 1 + 1, 0, none⟩, 2, 2⟩, ⟨some ⟨n + 1 + 1 + 1 + 1 + 1 + 1 + 1 + 1 + 1 + 1 + 1 + 1 + 1, 0, none⟩, 1, 1⟩, ⟨some ⟨n + 1 + 1 + 1 + 1 + 1 + 1 + 1 + 1 + 1 + 1 + 1 + 1 + 1 + 1 + 1 + 1 + 1 + 1, 0, none⟩, 2, 2⟩⟩
theorem dpG9 (w : World) : DpG (allocs w (L9 w.heap.size)) (g9 w.heap.size) G9 := by
  have R : ∀ (i : Nat) (cs : Array Value) (t : TypeId) (m size : Nat), (L9 w.heap.size)[i]? = some (.cells cs t (0, 0)) → cs.size = m * size → m ≤ 100 → Rd (allocs w (L9 w.heap.size)) size (.slice (some ⟨w.heap.size + i, 0, none⟩) m m) m cs.toList :=
    fun i cs t m size h hs hm => rd_row (allocs_at _ _ _ _ h) m size hs (by omega)
  have R3 : RdI _ _ [1] := R 3 _ _ 1 1 rfl rfl (by decide)
  have R4 : RdI _ _ [2] := R 4 _ _ 1 1 rfl rfl (by decide)
  have R5 : RdI _ _ [3] := R 5 _ _ 1 1 rfl rfl (by decide)
  have R6 : RdI _ _ [4] := R 6 _ _ 1 1 rfl rfl (by decide)
  have R8 : RdC _ _ [⟨1, 1⟩] := R 8 _ _ 1 2 rfl rfl (by decide)
  have R9 : RdI _ _ [3] := R 9 _ _ 1 1 rfl rfl (by decide)
  have R10 : RdI _ _ [1] := R 10 _ _ 1 1 rfl rfl (by decide)
  have R14 : RdI _ _ [1, 2] := R 14 _ _ 2 1 rfl rfl (by decide)
  have R15 : RdSe _ _ [⟨⟨#[100, 111, 103]⟩, ⟨#[]⟩⟩] := R 15 _ _ 1 2 rfl rfl (by decide)
  have R16 : RdI _ _ [3, 4] := R 16 _ _ 2 1 rfl rfl (by decide)
  have R17 : RdSe _ _ [⟨⟨#[80, 76]⟩, ⟨#[]⟩⟩] := R 17 _ _ 1 2 rfl rfl (by decide)
  refine ⟨rfl, rfl, R 2 _ _ 4 2 rfl rfl (by decide), ?_, ⟨[], rd_nil _ _, rfl, fun i u l h => by simp at h⟩, ?_, R 12 _ _ 2 3 rfl rfl (by decide), R 13 _ _ 1 1 rfl rfl (by decide), ?_⟩
  · refine ⟨[_, _, _, _], rfl, R 7 _ _ 4 2 rfl rfl (by decide), fun i u p hu hp => ?_⟩
    match i, hu, hp with
    | 0, hu, hp => cases hu; cases hp; exact R3
    | 1, hu, hp => cases hu; cases hp; exact R4
    | 2, hu, hp => cases hu; cases hp; exact R5
    | 3, hu, hp => cases hu; cases hp; exact R6
  · refine ⟨_, 1, 1, rfl, Nat.le_refl _, by decide, rfl, fun k hk => ?_⟩
    have hk0 : k = 0 := by omega
    subst hk0
    have hb : (allocs w (L9 w.heap.size)).heap[w.heap.size + 11]? = _ := allocs_at _ _ 11 _ rfl
    have hc := fun o => cell_of_row _ (w.heap.size + 11) o _ _ (0, 0) hb
    exact ⟨w.heap.size + 11, 0, _, _, _, _, ⟨[3], [1], [⟨1, 1⟩], [⟨1, 1⟩], false, false⟩, rfl, (Array.getElem?_eq_some_iff.1 hb).1, rfl, ⟨hc 0, hc 1, hc 2, hc 3, hc 4, hc 5⟩, ⟨_, _, _, _, rfl, R9, R10, R8, R8⟩⟩
  · refine ⟨[⟨1, ⟨some ⟨w.heap.size + 14, 0, none⟩, 2, 2⟩, 1, ⟨none, 0, 0⟩, 0, ⟨some ⟨w.heap.size + 15, 0, none⟩, 1, 1⟩, ⟨none, 0, 0⟩, ⟨none, 0, 0⟩⟩, ⟨2, ⟨some ⟨w.heap.size + 16, 0, none⟩, 2, 2⟩, 2, ⟨none, 0, 0⟩, 0, ⟨some ⟨w.heap.size + 17, 0, none⟩, 1, 1⟩, ⟨none, 0, 0⟩, ⟨none, 0, 0⟩⟩], R 18 _ _ 2 8 rfl rfl (by decide), ?_⟩
    have hn : RdL (allocs w (L9 w.heap.size)) (.slice none 0 0) [] := ⟨[], rd_nil _ _, rfl, fun i u l h => by simp at h⟩
    exact All2.cons ⟨rfl, rfl, rfl, R14, hn, R15, rd_nil _ _, rd_nil _ _⟩ (All2.cons ⟨rfl, rfl, rfl, R16, hn, R17, rd_nil _ _, rd_nil _ _⟩ All2.nil)
set_option maxHeartbeats 16000000 in
set_option maxRecDepth 100000 in
theorem lang09_any (w : World) : Calls Tryz.prog 17 #[] w fun e w' => (∃ g : GV, e = .returned (.agg #[.slice g.i.A g.i.n g.i.c, .string g.on, .slice g.u.A g.u.n g.u.c, .slice g.l.A g.l.n g.l.c, .slice g.r.A g.r.n g.r.c, .int .i64 g.q, .slice g.s.A g.s.n g.s.c, .slice g.f.A g.f.n g.f.c, .slice g.x.A g.x.n g.x.c]) ∧ DpG w' g G9) ∧ Below w.heap.size w w' := by
  go_enter Tryz.func17, Tryz.ntmps17
  go_wp2_with fail
  generalize hX : World.alloc _ _ = X
  have hX2 : X = allocs w (L9 w.heap.size) := by rw [← hX]; rfl
  clear hX
  subst hX2
  have HB := Lib.hid (allocs_below (L9 w.heap.size) w)
  have HD := Lib.hid (dpG9 w)
  have hb0 : (allocs w (L9 w.heap.size)).heap[w.heap.size + 0]? = _ := allocs_at _ _ 0 _ rfl
  have hc := fun o => cell_of_row _ (w.heap.size + 0) o _ _ (0, 0) hb0
  have c0 := hc 0
  have c1 := hc 1
  have c2 := hc 2
  have c3 := hc 3
  have c4 := hc 4
  have c5 := hc 5
  have c6 := hc 6
  have c7 := hc 7
  have c8 := hc 8
  simp only [Nat.add_zero] at c0 c1 c2 c3 c4 c5 c6 c7 c8
  clear hc hb0
  generalize allocs w (L9 w.heap.size) = X at c0 c1 c2 c3 c4 c5 c6 c7 c8 HB HD ⊢
  refine bodyPost_ret (v := .agg #[.slice (g9 w.heap.size).i.A (g9 w.heap.size).i.n (g9 w.heap.size).i.c, .string (g9 w.heap.size).on, .slice (g9 w.heap.size).u.A (g9 w.heap.size).u.n (g9 w.heap.size).u.c, .slice (g9 w.heap.size).l.A (g9 w.heap.size).l.n (g9 w.heap.size).l.c, .slice (g9 w.heap.size).r.A (g9 w.heap.size).r.n (g9 w.heap.size).r.c, .int .i64 (g9 w.heap.size).q, .slice (g9 w.heap.size).s.A (g9 w.heap.size).s.n (g9 w.heap.size).s.c, .slice (g9 w.heap.size).f.A (g9 w.heap.size).f.n (g9 w.heap.size).f.c, .slice (g9 w.heap.size).x.A (g9 w.heap.size).x.n (g9 w.heap.size).x.c]) ?_ rfl ?_
  · simp [results, Tryz.results17, go_sem, c0, c1, c2, c3, c4, c5, c6, c7, c8, g9]
  · exact ⟨⟨g9 w.heap.size, rfl, HD.out⟩, HB.out⟩
end Go.Proofs.YtiopgbbggeimaaaGreat

/-
  langdoctop: the example, in plain words.
-/
namespace Go.Proofs.YtiopgbbggeimaaaGreat
open Go.ChangeShapes Go.WideShapes Go.ChangeAt Go.RowKit
def a9 : List PPt := [⟨1, 0, 0⟩, ⟨2, 0, 0⟩]
set_option maxRecDepth 100000
theorem form9 : formF G9 a9 = ([1, 2, 1, 4], 0) := by decide +kernel
theorem spell9 : spelledF G9 a9 = (⟨#[98, 97, 98, 105]⟩, 0) := by kernel_rfl
theorem read9 : readF G9.ort.units ⟨#[98, 97, 98, 105]⟩ = ([1, 2, 1, 4], 0, 0) := by decide +kernel
theorem readb9 : readF G9.ort.units ⟨#[98, 97, 112, 105]⟩ = ([1, 2, 3, 4], 0, 0) := by decide +kernel
theorem of9 : ofF G9 ⟨#[98, 97, 98, 105]⟩ = ([a9], 0) := by decide +kernel
theorem of9b : ofF G9 ⟨#[98, 97, 112, 105]⟩ = ([], 0) := by decide +kernel
theorem ok9 : LightOk G9 where
  segs := by decide
  units := by
    refine ⟨fun p hp => ?_, fun j k p q hjk hj hk => ?_⟩
    · simp only [G9, List.mem_cons, List.not_mem_nil, or_false] at hp
      rcases hp with rfl | rfl | rfl | rfl <;> exact ⟨by decide, by decide, by decide⟩
    · have h : G9.ort.units.Pairwise (fun p q => (p.g.toList == q.g.toList) = false) := by decide +kernel
      obtain ⟨hj1, rfl⟩ := List.getElem?_eq_some_iff.1 hj
      obtain ⟨hk1, rfl⟩ := List.getElem?_eq_some_iff.1 hk
      exact List.pairwise_iff_getElem.1 h j k hj1 hk1 hjk
  rules := by
    intro R hR
    simp only [G9, List.mem_cons, List.not_mem_nil, or_false] at hR
    subst hR
    exact ⟨by decide, by decide, by decide, by decide, by decide, by decide⟩
  rlen := by decide
  net := ⟨by decide, by decide, by decide, by
    intro s hs
    simp only [G9, List.mem_cons, List.not_mem_nil, or_false] at hs
    rcases hs with rfl | rfl <;> exact ⟨by decide, by decide, by decide, by decide, by decide, by decide⟩, by decide, by decide, by decide⟩
  lex := ⟨by decide, by
    intro p hp
    simp only [G9, List.mem_cons, List.not_mem_nil, or_false] at hp
    rcases hp with rfl | rfl <;> exact ⟨⟨by decide, by decide, by decide, by decide, by decide, by decide⟩, by decide⟩, by
    unfold UpE
    decide⟩
  five := by decide
  alts := by decide
theorem sm9 : SmO G9.ort := ⟨by unfold SmS; decide +kernel, by decide, by unfold SmS; decide +kernel, by decide +kernel, by decide, by unfold SmS; decide +kernel⟩
theorem len9 : (formF G9 a9).1.length ≤ 1000000 := by decide +kernel
end Go.Proofs.YtiopgbbggeimaaaGreat

/-
  langdoctop: alive09.
-/
namespace Go.Proofs.YtiopgbbggeimaaaGreat
open Go.ChangeShapes Go.WideShapes Go.ChangeAt Go.RowKit
theorem LgBlk.value {w : World} {B : Nat} {g : GV} (h : LgBlk w B g) : w.heap[B]? = some (.cells #[.slice g.i.A g.i.n g.i.c, .string g.on, .slice g.u.A g.u.n g.u.c, .slice g.l.A g.l.n g.l.c, .slice g.r.A g.r.n g.r.c, .int .i64 g.q, .slice g.s.A g.s.n g.s.c, .slice g.f.A g.f.n g.f.c, .slice g.x.A g.x.n g.x.c] 36 (0, 0)) := h
set_option maxHeartbeats 16000000 in
set_option maxRecDepth 100000 in
theorem alive09_any (w : World) : Calls Tryz.prog 5 #[] w fun e w' => e = .returned (.bool true) ∧ Below w.heap.size w w' := by
  go_enter Tryz.func5, Tryz.ntmps5
  go_wp2_with fail
  refine (lang09_any w).mono ?_
  rintro e w1 ⟨⟨g, rfl, hg⟩, hb⟩
  have HG := Lib.hid hg
  have HB := Lib.hid hb
  clear hg hb
  go_upto_region 3 with (fail)
  generalize hX : World.alloc (World.alloc (World.alloc w1 _) _) _ = X
  obtain ⟨X1, h1⟩ : ∃ X1, w1.alloc (.cells #[.slice g.i.A g.i.n g.i.c, .string g.on, .slice g.u.A g.u.n g.u.c, .slice g.l.A g.l.n g.l.c, .slice g.r.A g.r.n g.r.c, .int .i64 g.q, .slice g.s.A g.s.n g.s.c, .slice g.f.A g.f.n g.f.c, .slice g.x.A g.x.n g.x.c] 36) = X1 := ⟨_, rfl⟩
  obtain ⟨X2, h2⟩ : ∃ X2, X1.alloc (.cells #[.int .i64 1, .int .i64 0, .int .i64 0, .int .i64 2, .int .i64 0, .int .i64 0] 65) = X2 := ⟨_, rfl⟩
  have hs1 : X1.heap.size = w1.heap.size + 1 := by rw [← h1]; exact World.size_alloc _ _
  have hs2 : X2.heap.size = w1.heap.size + 1 + 1 := by rw [← h2, World.size_alloc, hs1]
  have hb1 : Below w1.heap.size w1 X1 := by rw [← h1]; exact al_below _ _
  have hb2 : Below X1.heap.size X1 X2 := by rw [← h2]; exact al_below _ _
  have hq : LgBlk X1 w1.heap.size g := by rw [← h1]; exact heap_alloc_new w1 _
  have hr : RdPt X2 (.slice (some ⟨w1.heap.size + 1, 0, none⟩) 2 2) a9 := by rw [← h2, ← hs1]; exact rd_row (heap_alloc_new X1 _) 2 3 rfl (by decide)
  rw [h1, h2] at hX
  have hb3 : Below X2.heap.size X2 X := by rw [← hX]; exact al_below _ _
  have HP : Hid (AnBlk X (w1.heap.size + 1 + 1) (.slice (some ⟨w1.heap.size + 1, 0, none⟩) 2 2)) := by rw [← hX, ← hs2]; exact heap_alloc_new X2 _
  have HQ := Lib.hid (hq.below (bchain hb2 hb3))
  have HR := Lib.hid (hr.below hb3)
  have HBX : Hid (Below w.heap.size w X) := bchain HB.out (bchain hb1 (bchain hb2 hb3))
  have HGX := Lib.hid (HG.out.below (bchain hb1 (bchain hb2 hb3)))
  clear hX h1 h2 hs1 hs2 hb1 hb2 hb3 hq hr HB HG
  generalize w1.heap.size + 1 + 1 = ba at HP ⊢
  generalize some (⟨w1.heap.size + 1, 0, none⟩ : Addr) = A9 at HR HP ⊢
  generalize w1.heap.size = bg at HQ ⊢
  obtain ⟨z0, z1, z2, z3, z4, z5, z6, z7, z8, zl⟩ := HQ.out.facts
  have pc := HP.out.cell
  have hs := spelled_any g G9 _ a9 X HGX.out HR.out ok9 sm9 len9
  rw [spell9] at hs
  have HS := Lib.hid hs
  clear hs
  go_wp2_with fail
  refine HS.out.mono ?_
  rintro e w2 ⟨rfl, hb⟩
  have HB2 : Hid (Below w.heap.size w w2) := bchain HBX.out hb
  have HQ2 := Lib.hid (HQ.out.below hb)
  have HP2 := Lib.hid (HP.out.below hb)
  have HR2 := Lib.hid (HR.out.below hb)
  have HG2 := Lib.hid (HGX.out.below hb)
  clear hb z0 z1 z2 z3 z4 z5 z6 z7 z8 zl pc HS HBX HQ HP HR HGX
  obtain ⟨z0, z1, z2, z3, z4, z5, z6, z7, z8, zl⟩ := HQ2.out.facts
  have ho := of_any g G9 ⟨#[98, 97, 98, 105]⟩ w2 HG2.out ok9 sm9 (by decide)
  have HO := Lib.hid ho
  clear ho
  go_wp2_with fail
  refine HO.out.mono ?_
  rintro e w3 ⟨⟨A3, n3, c3, rfl, h3⟩, hb⟩
  rw [of9] at h3 ⊢
  have HL3 := Lib.hid h3
  obtain ⟨_, _, _, he, _, _, HN3, _⟩ := h3.op
  cases he
  have hn3 : n3 = 1 := HN3.out.symm
  subst hn3
  have HB3 : Hid (Below w.heap.size w w3) := bchain HB2.out hb
  have HQ3 := Lib.hid (HQ2.out.below hb)
  have HP3 := Lib.hid (HP2.out.below hb)
  have HR3 := Lib.hid (HR2.out.below hb)
  have HG3 := Lib.hid (HG2.out.below hb)
  clear hb h3 z0 z1 z2 z3 z4 z5 z6 z7 z8 zl HO HB2 HQ2 HP2 HR2 HG2
  obtain ⟨z0, z1, z2, z3, z4, z5, z6, z7, z8, zl⟩ := HQ3.out.facts
  have ho := of_any g G9 ⟨#[98, 97, 112, 105]⟩ w3 HG3.out ok9 sm9 (by decide)
  have HO := Lib.hid ho
  clear ho
  go_wp2_with fail
  refine HO.out.mono ?_
  rintro e w4 ⟨⟨A4, n4, c4, rfl, h4⟩, hb⟩
  rw [of9b] at h4 ⊢
  obtain ⟨_, _, _, he, _, _, HN4, _⟩ := h4.op
  cases he
  have hn4 : n4 = 0 := HN4.out.symm
  subst hn4
  have HB4 : Hid (Below w.heap.size w w4) := bchain HB3.out hb
  have HP4 := Lib.hid (HP3.out.below hb)
  have HR4 := Lib.hid (HR3.out.below hb)
  have HL4 := Lib.hid (HL3.out.below hb)
  clear hb h4 z0 z1 z2 z3 z4 z5 z6 z7 z8 zl HO HB3 HQ3 HP3 HR3 HG3 HL3
  dsimp only
  go_upto_region 6 with (fail)
  obtain ⟨_, _, _, he, _, _, _, HC⟩ := HL4.out.op
  cases he
  obtain ⟨b5, off5, B5, m5, cm5, l5, hA5, hb5, hd5, hc5, hr5⟩ := HC.out 0 (by decide)
  subst hA5
  have hl5 : l5 = a9 := by have := hd5.out; simp at this; exact this.symm
  subst hl5
  have HR5 := Lib.hid hr5.out
  clear hd5 hr5 HC
  refine wp_region_all 32 (fun w' => Below w4.heap.size w4 w') (by kernel_rfl) (by kernel_rfl) ?_
  rintro D hD
  have HSD : Hid (Below w4.heap.size w4 D) := by rw [hD]; exact (Below.refl _ _).drew
  clear hD
  have HS : Hid (∀ w' : World, Below w4.heap.size w4 w' → w'.cell? ⟨ba, 0, none⟩ = some (.slice A9 2 2) ∧ w'.cell? ⟨b5, off5, none⟩ = some (.slice B5 m5 cm5)) :=
    fun w' h => ⟨(HP4.out.below h).cell, (h.cell (p := ⟨b5, off5, none⟩) hb5).trans hc5⟩
  clear hc5 hb5
  (refine wpS_take 0 (v := ?_) (by kernel_rfl) rfl rfl (by exact HSD.out) (fun w' hS => ?_) ?_; rotate_left; (focus ((try obtain ⟨s0, s1⟩ := HS.out _ hS); clear hS; go_simp; try with_reducible rfl; done)); (try simp only [Act.put, List.setIfInBounds_toArray, List.set_cons_zero, List.set_cons_succ]))
  (refine wpS_take 1 (v := ?_) (by kernel_rfl) rfl rfl (by exact HSD.out) (fun w' hS => ?_) ?_; rotate_left; (focus ((try obtain ⟨s0, s1⟩ := HS.out _ hS); clear hS; go_simp; try with_reducible rfl; done)); (try simp only [Act.put, List.setIfInBounds_toArray, List.set_cons_zero, List.set_cons_succ]))
  (refine wpS_take 2 (v := ?_) (by kernel_rfl) rfl rfl (by exact HSD.out) (fun w' hS => ?_) ?_; rotate_left; (focus ((try obtain ⟨s0, s1⟩ := HS.out _ hS); clear hS; go_simp; try with_reducible rfl; done)); (try simp only [Act.put, List.setIfInBounds_toArray, List.set_cons_zero, List.set_cons_succ]))
  (refine wpS_take 3 (v := ?_) (by kernel_rfl) rfl rfl (by exact HSD.out) (fun w' hS => ?_) ?_; rotate_left; (focus ((try obtain ⟨s0, s1⟩ := HS.out _ hS); clear hS; go_simp; try with_reducible rfl; done)); (try simp only [Act.put, List.setIfInBounds_toArray, List.set_cons_zero, List.set_cons_succ]))
  (refine wpS_take 4 (v := ?_) (by kernel_rfl) rfl rfl (by exact HSD.out) (fun w' hS => ?_) ?_; rotate_left; (focus ((try obtain ⟨s0, s1⟩ := HS.out _ hS); clear hS; go_simp; try with_reducible rfl; done)); (try simp only [Act.put, List.setIfInBounds_toArray, List.set_cons_zero, List.set_cons_succ]))
  (refine wpS_take 5 (v := ?_) (by kernel_rfl) rfl rfl (by exact HSD.out) (fun w' hS => ?_) ?_; rotate_left; (focus ((try obtain ⟨s0, s1⟩ := HS.out _ hS); clear hS; go_simp; try with_reducible rfl; done)); (try simp only [Act.put, List.setIfInBounds_toArray, List.set_cons_zero, List.set_cons_succ]))
  (refine wpS_take 6 (v := ?_) (by kernel_rfl) rfl rfl (by exact HSD.out) (fun w' hS => ?_) ?_; rotate_left; (focus ((try obtain ⟨s0, s1⟩ := HS.out _ hS); clear hS; go_simp; try with_reducible rfl; done)); (try simp only [Act.put, List.setIfInBounds_toArray, List.set_cons_zero, List.set_cons_succ]))
  (refine wpS_take 7 (v := ?_) (by kernel_rfl) rfl rfl (by exact HSD.out) (fun w' hS => ?_) ?_; rotate_left; (focus ((try obtain ⟨s0, s1⟩ := HS.out _ hS); clear hS; go_simp; try with_reducible rfl; done)); (try simp only [Act.put, List.setIfInBounds_toArray, List.set_cons_zero, List.set_cons_succ]))
  (refine wpS_take 8 (v := ?_) (by kernel_rfl) rfl rfl (by exact HSD.out) (fun w' hS => ?_) ?_; rotate_left; (focus ((try obtain ⟨s0, s1⟩ := HS.out _ hS); clear hS; go_simp; try with_reducible rfl; done)); (try simp only [Act.put, List.setIfInBounds_toArray, List.set_cons_zero, List.set_cons_succ]))
  (refine wpS_take 9 (v := ?_) (by kernel_rfl) rfl rfl (by exact HSD.out) (fun w' hS => ?_) ?_; rotate_left; (focus ((try obtain ⟨s0, s1⟩ := HS.out _ hS); clear hS; go_simp; try with_reducible rfl; done)); (try simp only [Act.put, List.setIfInBounds_toArray, List.set_cons_zero, List.set_cons_succ]))
  (refine wpS_take 10 (v := ?_) (by kernel_rfl) rfl rfl (by exact HSD.out) (fun w' hS => ?_) ?_; rotate_left; (focus ((try obtain ⟨s0, s1⟩ := HS.out _ hS); clear hS; go_simp; try with_reducible rfl; done)); (try simp only [Act.put, List.setIfInBounds_toArray, List.set_cons_zero, List.set_cons_succ]))
  (refine wpS_take 11 (v := ?_) (by kernel_rfl) rfl rfl (by exact HSD.out) (fun w' hS => ?_) ?_; rotate_left; (focus ((try obtain ⟨s0, s1⟩ := HS.out _ hS); clear hS; go_simp; try with_reducible rfl; done)); (try simp only [Act.put, List.setIfInBounds_toArray, List.set_cons_zero, List.set_cons_succ]))
  (refine wpS_take 12 (v := ?_) (by kernel_rfl) rfl rfl (by exact HSD.out) (fun w' hS => ?_) ?_; rotate_left; (focus ((try obtain ⟨s0, s1⟩ := HS.out _ hS); clear hS; go_simp; try with_reducible rfl; done)); (try simp only [Act.put, List.setIfInBounds_toArray, List.set_cons_zero, List.set_cons_succ]))
  (refine wpS_take 13 (v := ?_) (by kernel_rfl) rfl rfl (by exact HSD.out) (fun w' hS => ?_) ?_; rotate_left; (focus ((try obtain ⟨s0, s1⟩ := HS.out _ hS); clear hS; go_simp; try with_reducible rfl; done)); (try simp only [Act.put, List.setIfInBounds_toArray, List.set_cons_zero, List.set_cons_succ]))
  (refine wpS_take 14 (v := ?_) (by kernel_rfl) rfl rfl (by exact HSD.out) (fun w' hS => ?_) ?_; rotate_left; (focus ((try obtain ⟨s0, s1⟩ := HS.out _ hS); clear hS; go_simp; try with_reducible rfl; done)); (try simp only [Act.put, List.setIfInBounds_toArray, List.set_cons_zero, List.set_cons_succ]))
  (refine wpS_take 15 (v := ?_) (by kernel_rfl) rfl rfl (by exact HSD.out) (fun w' hS => ?_) ?_; rotate_left; (focus ((try obtain ⟨s0, s1⟩ := HS.out _ hS); clear hS; go_simp; try with_reducible rfl; done)); (try simp only [Act.put, List.setIfInBounds_toArray, List.set_cons_zero, List.set_cons_succ]))
  (refine wpS_take 16 (v := ?_) (by kernel_rfl) rfl rfl (by exact HSD.out) (fun w' hS => ?_) ?_; rotate_left; (focus ((try obtain ⟨s0, s1⟩ := HS.out _ hS); clear hS; go_simp; try with_reducible rfl; done)); (try simp only [Act.put, List.setIfInBounds_toArray, List.set_cons_zero, List.set_cons_succ]))
  (refine wpS_take 17 (v := ?_) (by kernel_rfl) rfl rfl (by exact HSD.out) (fun w' hS => ?_) ?_; rotate_left; (focus ((try obtain ⟨s0, s1⟩ := HS.out _ hS); clear hS; go_simp; try with_reducible rfl; done)); (try simp only [Act.put, List.setIfInBounds_toArray, List.set_cons_zero, List.set_cons_succ]))
  (refine wpS_take 18 (v := ?_) (by kernel_rfl) rfl rfl (by exact HSD.out) (fun w' hS => ?_) ?_; rotate_left; (focus ((try obtain ⟨s0, s1⟩ := HS.out _ hS); clear hS; go_simp; try with_reducible rfl; done)); (try simp only [Act.put, List.setIfInBounds_toArray, List.set_cons_zero, List.set_cons_succ]))
  (refine wpS_take 19 (v := ?_) (by kernel_rfl) rfl rfl (by exact HSD.out) (fun w' hS => ?_) ?_; rotate_left; (focus ((try obtain ⟨s0, s1⟩ := HS.out _ hS); clear hS; go_simp; try with_reducible rfl; done)); (try simp only [Act.put, List.setIfInBounds_toArray, List.set_cons_zero, List.set_cons_succ]))
  (refine wpS_br [20] (by kernel_rfl) ?_; refine AllS.cons rfl rfl (fun K hK => ?_) AllS.nil)
  go_simp
  refine (sameP_any _ _ a9 a9 D (HR5.out.below HSD.out) (HR4.out.below HSD.out)).mono ?_
  rintro e w5 ⟨rfl, hb⟩
  have he5 : eqL a9 a9 = true := by decide +kernel
  rw [he5]
  have HS5 := Lib.hid (bchain HSD.out hb)
  refine hK.out _ _ HS5.out ?_
  clear hK K HS hb he5
  (try simp only [Act.put, List.setIfInBounds_toArray, List.set_cons_zero, List.set_cons_succ])
  (refine wpS_take 21 (v := ?_) (by kernel_rfl) rfl rfl (by exact HS5.out) (fun w' hS => ?_) ?_; rotate_left; (focus (clear hS; go_simp; try with_reducible rfl; done)); (try simp only [Act.put, List.setIfInBounds_toArray, List.set_cons_zero, List.set_cons_succ]))
  (refine wpS_take 22 (v := ?_) (by kernel_rfl) rfl rfl (by exact HS5.out) (fun w' hS => ?_) ?_; rotate_left; (focus (clear hS; go_simp; try with_reducible rfl; done)); (try simp only [Act.put, List.setIfInBounds_toArray, List.set_cons_zero, List.set_cons_succ]))
  (refine wpS_take 23 (v := ?_) (by kernel_rfl) rfl rfl (by exact HS5.out) (fun w' hS => ?_) ?_; rotate_left; (focus (clear hS; go_simp; try with_reducible rfl; done)); (try simp only [Act.put, List.setIfInBounds_toArray, List.set_cons_zero, List.set_cons_succ]))
  (refine wpS_take 24 (v := ?_) (by kernel_rfl) rfl rfl (by exact HS5.out) (fun w' hS => ?_) ?_; rotate_left; (focus (clear hS; go_simp; try with_reducible rfl; done)); (try simp only [Act.put, List.setIfInBounds_toArray, List.set_cons_zero, List.set_cons_succ]))
  (refine wpS_take 25 (v := ?_) (by kernel_rfl) rfl rfl (by exact HS5.out) (fun w' hS => ?_) ?_; rotate_left; (focus (clear hS; go_simp; try with_reducible rfl; done)); (try simp only [Act.put, List.setIfInBounds_toArray, List.set_cons_zero, List.set_cons_succ]))
  (refine wpS_take 26 (v := ?_) (by kernel_rfl) rfl rfl (by exact HS5.out) (fun w' hS => ?_) ?_; rotate_left; (focus (clear hS; go_simp; try with_reducible rfl; done)); (try simp only [Act.put, List.setIfInBounds_toArray, List.set_cons_zero, List.set_cons_succ]))
  (refine wpS_take 27 (v := ?_) (by kernel_rfl) rfl rfl (by exact HS5.out) (fun w' hS => ?_) ?_; rotate_left; (focus (clear hS; go_simp; try with_reducible rfl; done)); (try simp only [Act.put, List.setIfInBounds_toArray, List.set_cons_zero, List.set_cons_succ]))
  (refine wpS_take 28 (v := ?_) (by kernel_rfl) rfl rfl (by exact HS5.out) (fun w' hS => ?_) ?_; rotate_left; (focus (clear hS; go_simp; try with_reducible rfl; done)); (try simp only [Act.put, List.setIfInBounds_toArray, List.set_cons_zero, List.set_cons_succ]))
  (refine wpS_take 29 (v := ?_) (by kernel_rfl) rfl rfl (by exact HS5.out) (fun w' hS => ?_) ?_; rotate_left; (focus (clear hS; go_simp; try with_reducible rfl; done)); (try simp only [Act.put, List.setIfInBounds_toArray, List.set_cons_zero, List.set_cons_succ]))
  (refine wpS_take 30 (v := ?_) (by kernel_rfl) rfl rfl (by exact HS5.out) (fun w' hS => ?_) ?_; rotate_left; (focus (clear hS; go_simp; try with_reducible rfl; done)); (try simp only [Act.put, List.setIfInBounds_toArray, List.set_cons_zero, List.set_cons_succ]))
  (refine wpS_take 31 (v := ?_) (by kernel_rfl) rfl rfl (by exact HS5.out) (fun w' hS => ?_) ?_; rotate_left; (focus (clear hS; go_simp; try with_reducible rfl; done)); (try simp only [Act.put, List.setIfInBounds_toArray, List.set_cons_zero]))
  refine wpS_nil (by kernel_rfl) ?_
  refine NoPanic.normal ?_
  have HB5 : Hid (Below w.heap.size w w5) := bchain HB4.out HS5.out
  go_wp2_with fail
  go_ret
  exact ⟨rfl, HB5.out⟩
end Go.Proofs.YtiopgbbggeimaaaGreat
