/-
  analyze: the search in memory, the map of bases that were tried, after, fits.
-/
import Derived.Test.YtiopgbbggeimaaaGreatKA
namespace Go.Proofs.YtiopgbbggeimaaaGreat
open Go.ChangeShapes Go.WideShapes Go.ChangeAt Go.RowKit
open Go.Maps (Keyed)
section
variable {P : Program} {α β : Type} {S : MS P α β} {w w' : World} {b : Nat} {L : List α} {f : α → Option β}
theorem OwnM.look_ok (h : OwnM S w b L f) (c : α) (hc : S.wf c) : (Instr.lookup S.mt (.map (some b)) (S.mkK c) true).run P w = .ok (.tuple #[S.mkV ((f c).getD S.zero), .bool (f c).isSome]) w := by
  obtain ⟨D, h1, h2⟩ := h
  obtain ⟨l, hl⟩ := S.key c hc
  obtain ⟨v, ps, hrun, hv⟩ := h1.look_ok S.K S.ht (S.zrun w) (S.elem _ S.zwf) hl
  rw [hrun, h2.has hc hl]
  have : v = S.mkV ((f c).getD S.zero) := by
    refine S.inv v _ _ hv ?_
    rw [h2.at_ c l hc hl]
    cases f c <;> rfl
  rw [this]
theorem wpList_putM [DecidableEq α] {w : World} {ops : Array Oper} {rest : List Oper} {o : Oper} {a : Act} {Q : Exit → Act → World → Prop} (hg : o.guard = none) (m x v : Operand)
    (hop : o.op = Op.mapUpdate S.mt m x v ∨ o.op = Op.insert S.mt m x v) (b : Nat) (L : List α) (f : α → Option β) (c : α) (y : β) (hm : a.eval m = .map (some b)) (hx : a.eval x = S.mkK c) (hv : a.eval v = S.mkV y)
    (h : OwnM S w b L f) (hc : S.wf c) (hy : S.wfV y) (hL : c ∈ L) (hn : L.length < maxLen) (hK : ∀ w', OwnM S w' b L (Go.Proofs.YtiopgbbggeimaaaGreat.put f c y) → w.grownBy w' (some b) → wpList P ops Q rest (a.put o.dst undef) w') : wpList P ops Q (o :: rest) a w := by
  refine wpList_plain hg fun K' hK' => ?_
  obtain ⟨w', hrun, r1, r2⟩ := h.put c hc y hy hL hn
  unfold Oper.wp
  rcases hop with hop | hop <;> (simp [execOp, hop, hm, hx, hv, hrun, Result.andThen]; exact hK' _ _ (hK w' r1 r2))
theorem OwnM.made (S : MS P α β) (w : World) (L : List α) : OwnM S (w.alloc (.map #[] 0)) w.heap.size L fun _ => none :=
  ⟨.map [], (World.ownsMap_made w P S.kt (plainElem P S.et)).mono (Nat.zero_le _), { at_ := fun _ _ _ _ _ => rfl, dom := fun l h => (by cases h), box := fun _ _ h => (by cases h), vals := fun _ _ h => (by cases h) }⟩
end
set_option maxRecDepth 100000
theorem zeroBo (w : World) : (zeroValue 4).run Tryz.prog w = .ok (.bool false) w := by kernel_rfl
theorem elem_boolInv (v : Value) (x : Bool) (z : DataW Unit × List MemPlace) (h : plainElem (H := Unit) Tryz.prog 4 v = some z) (hz : z.1 = .lit (.bool x)) : v = .bool x := by
  unfold plainElem at h
  rw [Tryz.underlying4] at h
  cases v <;> simp at h
  subst h
  simp at hz
  rw [hz]
def SK : MS Tryz.prog (List UInt8) Bool := { mt := 161, kt := 9, et := 4, ht := Tryz.underlying161, K := Go.Maps.string_keyed Tryz.underlying9, mkK := fun l => .string ⟨l.toArray⟩, wf := fun l => l.length ≤ maxLen, key := fun l h => ⟨_, Go.WideMaps.keyOf_string_mk Tryz.underlying9 (s := ⟨l.toArray⟩) (show l.toArray.size ≤ maxLen by simpa using h)⟩, inj := fun c d h => by (injection h with h; injection h with h; simpa using h), mkV := Value.bool, lit := Lit.bool, wfV := fun _ => True, elem := fun x _ => plainElem_bool Tryz.underlying4 x, inv := elem_boolInv, zero := false, zrun := zeroBo, zwf := trivial }
/-- the key of a base, as bytes -/
def bsL (l : List Int) : List UInt8 := l.map fun x => UInt8.ofNat x.toNat
theorem bs_eq (l : List Int) : (.string (bs l) : Value) = SK.mkK (bsL l) := rfl
theorem bsL_inj {l m : List Int} (hl : ∀ x ∈ l, 0 ≤ x ∧ x < 256) (hm : ∀ x ∈ m, 0 ≤ x ∧ x < 256) (h : bsL l = bsL m) : l = m :=
  bs_inj hl hm (by unfold bs; rw [show (l.map fun x => UInt8.ofNat x.toNat) = bsL l from rfl, h]; rfl)
/-! which bases there are -/
def formsAll (lex : List PE) : List (List Int) := lex.flatMap formsP
def basesL (lex : List PE) : Nat → List (List Int)
  | 0 => [[]]
  | k + 1 => basesL lex k ++ (basesL lex k).flatMap fun b => (formsAll lex).map fun f => b ++ f
theorem basesL_up {lex : List PE} {k : Nat} {b : List Int} (h : b ∈ basesL lex k) : b ∈ basesL lex (k + 1) := by rw [basesL]; exact List.mem_append_left _ h
theorem basesL_app {lex : List PE} {k : Nat} {b f : List Int} (h : b ∈ basesL lex k) {p : PE} (hp : p ∈ lex) (hf : f ∈ formsP p) : b ++ f ∈ basesL lex (k + 1) := by
  rw [basesL]
  exact List.mem_append_right _ (List.mem_flatMap.2 ⟨b, h, List.mem_map.2 ⟨f, List.mem_flatMap.2 ⟨p, hp, hf⟩, rfl⟩⟩)
theorem basesL_le {lex : List PE} {k m : Nat} (hkm : k ≤ m) {b : List Int} (h : b ∈ basesL lex k) : b ∈ basesL lex m := by
  induction m with
  | zero => rwa [Nat.le_zero.1 hkm] at h
  | succ m ih =>
    rcases Nat.eq_or_lt_of_le hkm with he | hl
    · rwa [he] at h
    · exact basesL_up (ih (by omega))
theorem flatMap_len_le {α β : Type} (l : List α) (f : α → List β) (m : Nat) (h : ∀ a ∈ l, (f a).length ≤ m) : (l.flatMap f).length ≤ m * l.length := by
  induction l with
  | nil => simp
  | cons a l ih =>
    rw [List.flatMap_cons, List.length_append, List.length_cons]
    have h1 := h a (by simp)
    have h2 := ih (fun x hx => h x (by simp [hx]))
    rw [Nat.mul_add, Nat.mul_one]
    omega
theorem formsAll_len {G : PLang} (h : LightOk G) : (formsAll G.lex).length ≤ 10 := by
  have h1 := flatMap_len_le G.lex formsP 2 (fun p hp => by have := h.alts p hp; simp [formsP]; omega)
  have h2 := h.five
  unfold formsAll
  omega
theorem basesL_len {G : PLang} (h : LightOk G) : ∀ k, (basesL G.lex k).length ≤ 11 ^ k
  | 0 => by simp [basesL]
  | k + 1 => by
    have h1 := basesL_len h k
    have h2 := flatMap_len_le (basesL G.lex k) (fun b => (formsAll G.lex).map fun f => b ++ f) 10 (fun b _ => by rw [List.length_map]; exact formsAll_len h)
    rw [basesL, List.length_append, Nat.pow_succ]
    omega
def keysL (G : PLang) : List (List UInt8) := (basesL G.lex 4).map bsL
theorem keysL_len {G : PLang} (h : LightOk G) : (keysL G).length < maxLen := by
  have := basesL_len h 4
  rw [keysL, List.length_map]
  refine Nat.lt_of_le_of_lt this ?_
  simp [maxLen]
/-! the search in memory -/
structure Sch where
  g : GV
  ws : Sl
  shr : Bool
  fin : Nat
  bm : Nat
  bg : Nat
  ba : Nat
def SrBlk (w : World) (B : Nat) (s : Sch) : Prop := w.heap[B]? = some (.cells #[.slice s.g.i.A s.g.i.n s.g.i.c, .string s.g.on, .slice s.g.u.A s.g.u.n s.g.u.c, .slice s.g.l.A s.g.l.n s.g.l.c, .slice s.g.r.A s.g.r.n s.g.r.c, .int .i64 s.g.q, .slice s.g.s.A s.g.s.n s.g.s.c, .slice s.g.f.A s.g.f.n s.g.f.c, .slice s.g.x.A s.g.x.n s.g.x.c,
  .slice s.ws.A s.ws.n s.ws.c, .bool s.shr, .int .u32 (s.fin : Int), .map (some s.bm), .func (.func 56) #[] #[.pointer (some ⟨s.bg, 0, none⟩), .pointer (some ⟨s.ba, 0, none⟩)]] 163 (0, 0))
section
variable {w w' : World} {B : Nat} {s : Sch}
theorem SrBlk.lt (h : SrBlk w B s) : B < w.heap.size := (Array.getElem?_eq_some_iff.1 h).1
theorem SrBlk.below (h : SrBlk w B s) (hb : Below w.heap.size w w') : SrBlk w' B s := (hb.block B h.lt).trans h
theorem SrBlk.facts (h : SrBlk w B s) : w.cell? ⟨B, 0, none⟩ = some (.slice s.g.i.A s.g.i.n s.g.i.c) ∧ w.cell? ⟨B, 4, none⟩ = some (.slice s.g.r.A s.g.r.n s.g.r.c) ∧ w.cell? ⟨B, 6, none⟩ = some (.slice s.g.s.A s.g.s.n s.g.s.c) ∧ w.cell? ⟨B, 8, none⟩ = some (.slice s.g.x.A s.g.x.n s.g.x.c) ∧
    w.cell? ⟨B, 9, none⟩ = some (.slice s.ws.A s.ws.n s.ws.c) ∧ w.cell? ⟨B, 10, none⟩ = some (.bool s.shr) ∧ w.cell? ⟨B, 11, none⟩ = some (.int .u32 (s.fin : Int)) ∧ w.cell? ⟨B, 12, none⟩ = some (.map (some s.bm)) ∧
    w.cell? ⟨B, 13, none⟩ = some (.func (.func 56) #[] #[.pointer (some ⟨s.bg, 0, none⟩), .pointer (some ⟨s.ba, 0, none⟩)]) ∧ B < w.heap.size := by
  refine ⟨?_, ?_, ?_, ?_, ?_, ?_, ?_, ?_, ?_, h.lt⟩ <;> rw [cell_of_row w B _ _ _ (0, 0) h] <;> rfl
end
/-- what of the search stays as it is, read in an earlier world -/
structure SE (w0 : World) (s : Sch) (G : PLang) (wl : List Int) : Prop where
  g : DpG w0 s.g G
  ws : RdI w0 (.slice s.ws.A s.ws.n s.ws.c) wl
  shr : s.shr = shrB G.rules
  fin : s.fin = finalF G.net.final
  ok : LightOk G
  bm : w0.heap.size ≤ s.bm
theorem SE.nw {w0 : World} {s : Sch} {G : PLang} {wl : List Int} (h : SE w0 s G wl) : s.ws.n = wl.length := rd_len h.ws
/-- what is remembered is right -/
def TrOk (G : PLang) (wl : List Int) (f : List UInt8 → Option Bool) : Prop := ∀ (b : List Int) (x : Bool), (∀ y ∈ b, isB G.inv y = true) → f (bsL b) = some x → x = fitsF G wl b
def TrM (G : PLang) (wl : List Int) (bm : Nat) (w : World) : Prop := ∃ f, OwnM SK w bm (keysL G) f ∧ TrOk G wl f
theorem TrM.below {G : PLang} {wl : List Int} {bm : Nat} {w w' : World} (h : TrM G wl bm w) (hb : Below w.heap.size w w') : TrM G wl bm w' := by
  obtain ⟨f, h1, h2⟩ := h
  exact ⟨f, h1.below hb, h2⟩
theorem LightOk.byte {G : PLang} (h : LightOk G) {x : Int} (hx : isB G.inv x = true) : 0 ≤ x ∧ x < 256 := by
  simp only [isB, Bool.and_eq_true, decide_eq_true_iff] at hx
  have := h.segs
  omega
theorem TrOk.put {G : PLang} {wl : List Int} {f : List UInt8 → Option Bool} (hl : LightOk G) (h : TrOk G wl f) {b : List Int} (hb : ∀ y ∈ b, isB G.inv y = true) {x : Bool} (hx : x = fitsF G wl b) : TrOk G wl (Go.Proofs.YtiopgbbggeimaaaGreat.put f (bsL b) x) := by
  intro c y hc hy
  unfold Go.Proofs.YtiopgbbggeimaaaGreat.put at hy
  split at hy
  · rename_i e
    cases hy
    rw [bsL_inj (fun z hz => hl.byte (hc z hz)) (fun z hz => hl.byte (hb z hz)) e]
    exact hx
  · exact h c y hc hy
def aft (m : Nat) (c : Int) (o : Nat) (s : PStep) : Nat := if bitI m s.fr then addC c o s else o
theorem afterF_aft (L : List PStep) (m : Nat) (c : Int) : afterF L m c = L.foldl (aft m c) 0 := by
  rw [afterF, fromL, List.foldl_filter]
  rfl
set_option maxHeartbeats 4000000 in
theorem safter_any (w0 : World) (s : Sch) (G : PLang) (wl : List Int) (B S : Nat) (m : Nat) (c : Int) (w : World) (hE : SE w0 s G wl) (hS : G.net.states = (S : Int)) (h0 : Below w0.heap.size w0 w) (hB : SrBlk w B s) (hm : m < 2 ^ S) :
    Calls Tryz.prog 116 #[.pointer (some ⟨B, 0, none⟩), .int .u32 (m : Int), .int .i64 c] w fun e w' => e = .returned (.int .u32 (afterF G.net.steps m c : Int)) ∧ Below w.heap.size w w' := by
  obtain ⟨r, hr⟩ : ∃ r, afterF G.net.steps m c = r := ⟨_, rfl⟩
  rw [hr]
  rw [afterF_aft] at hr
  have HR := Lib.hid hr
  have HE := Lib.hid hE
  have HSS := Lib.hid hS
  have HB := Lib.hid hB
  have HB0 := Lib.hid h0
  have hS24 : S ≤ 24 := by have := hE.ok.net.s2; omega
  have hm32 := lt32 hS24 hm
  obtain ⟨_, n, _, he, _, hc63, HN, HST⟩ := (hE.g.s.below h0).op
  have hsn : s.g.s.n = n := by injection he
  have HSN := Lib.hid hsn
  obtain ⟨z0, z4, z6, z8, z9, z10, z11, z12, z13, zl⟩ := hB.facts
  clear hr hE hS h0 hB hsn hm
  rw [he] at z6
  clear he
  go_enter Tryz.func116, Tryz.ntmps116
  go_wp2_with fail
  clear z0 z4 z6 z8 z9 z10 z11 z12 z13 zl
  go_loopw [7, 17] (fun v7 v17 wr => ∃ k o : Nat, k ≤ n ∧ v17 = .int .i64 k ∧ v7 = .int .u32 (o : Int) ∧ o < 2 ^ S ∧ Hid ((G.net.steps.drop k).foldl (aft m c) o = r) ∧ Hid (Below w.heap.size w wr)) (fun _ v17 _ => n - (intOf v17).toNat)
  case atStart => exact ⟨0, 0, Nat.zero_le _, rfl, rfl, Nat.two_pow_pos S, HR.out, Below.refl _ _⟩
  case round =>
    obtain ⟨k, o, hk, rfl, rfl, ho, HF, HBR⟩ := hrel
    have ho32 := lt32 hS24 ho
    by_cases hlt : k < n
    · obtain ⟨b, off, x0, x1, x2, rfl, hb, hd, c0, c1, c2⟩ := (HST.out k hlt).below HBR.out
      have hk0 : (0 : Int) ≤ (k : Int) := by omega
      have HOK : Hid (StepOk G.net.states ⟨x0, x1, x2⟩) := HE.out.ok.net.step _ (List.mem_of_mem_drop (by rw [hd.out]; exact List.mem_cons_self))
      obtain ⟨q0, rfl⟩ : ∃ q : Nat, x0 = (q : Int) := ⟨x0.toNat, by have := HOK.out.f0; simp only at this; omega⟩
      obtain ⟨q2, rfl⟩ : ∃ q : Nat, x2 = (q : Int) := ⟨x2.toNat, by have := HOK.out.t0; simp only at this; omega⟩
      have hq0 : q0 < 32 := by have := HOK.out.f1; simp only at this; rw [HSS.out] at this; omega
      have hq2 : q2 < S := by have := HOK.out.t1; simp only at this; rw [HSS.out] at this; omega
      have HF2 : Hid ((G.net.steps.drop (k + 1)).foldl (aft m c) (aft m c o ⟨(q0 : Int), x1, (q2 : Int)⟩) = r) := by
        have h := HF.out
        rw [hd.out, List.foldl_cons] at h
        exact h
      clear HF
      obtain ⟨wo, rfl⟩ : ∃ wo : World, wo = wr := ⟨_, rfl⟩
      go_upto_region 5 with (fail)
      generalize hX : World.alloc wo _ = X
      have HXB : Hid (Below w.heap.size w X) := by rw [← hX]; exact bchain HBR.out (al_below _ _)
      have HXS : Hid (SBlk X wo.heap.size ⟨(q0 : Int), x1, (q2 : Int)⟩) := by rw [← hX]; exact heap_alloc_new wo _
      clear hX c0 c1 c2
      generalize wo.heap.size = gx at HXS ⊢
      obtain ⟨t0, t1, t2, t3⟩ := HXS.out.facts
      dsimp only at t0 t1 t2
      have hbit := bit_eq m q0 hm32
      by_cases hx : x1 = c
      · have d1 : (x1 == c) = true := by simp [hx]
        cases hb2 : m.testBit q0
        · have HA : Hid (aft m c o ⟨(q0 : Int), x1, (q2 : Int)⟩ = o) := by simp [Hid, aft, bitI, hb2]
          rw [hb2] at hbit
          clear hx hb2
          go_wp2_with fail
          go_roundw
          case rel => exact ⟨k + 1, o, by omega, by go_num, rfl, ho, by have h := HF2.out; rw [HA.out] at h; exact h, HXB.out⟩
          case measure => simp [intOf]; omega
        · have HA : Hid (aft m c o ⟨(q0 : Int), x1, (q2 : Int)⟩ = (o ||| 1 <<< q2)) := by simp [Hid, aft, bitI, hb2, addC, hx, withB]
          have hor : bits .or .u32 (o : Int) ((2 : Int) ^ q2 % 4294967296) = ((o ||| 1 <<< q2 : Nat) : Int) := by rw [shl_cast q2 (by omega), bits_or _ _ ho32 (by rw [Nat.one_shiftLeft]; exact two_pow_lt (by omega))]
          have hlt2 : (o ||| 1 <<< q2) < 2 ^ S := Nat.or_lt_two_pow ho (by rw [Nat.one_shiftLeft]; exact Nat.pow_lt_pow_right (by decide) hq2)
          have HLT := Lib.hid hlt2
          have hq32 : q2 < 32 := by omega
          rw [hb2] at hbit
          clear hx hb2 hlt2
          go_wp2_with fail
          go_roundw
          case rel => exact ⟨k + 1, _, by omega, by go_num, rfl, HLT.out, by have h := HF2.out; rw [HA.out] at h; exact h, HXB.out⟩
          case measure => simp [intOf]; omega
      · have d1 : (x1 == c) = false := by simp [hx]
        have HA : Hid (aft m c o ⟨(q0 : Int), x1, (q2 : Int)⟩ = o) := by simp [Hid, aft, addC, hx]
        clear hx
        go_wp2_with fail
        go_roundw
        case rel => exact ⟨k + 1, o, by omega, by go_num, rfl, ho, by have h := HF2.out; rw [HA.out] at h; exact h, HXB.out⟩
        case measure => simp [intOf]; omega
    · have HRO : Hid (o = r) := by
        have h := HF.out
        rw [List.drop_of_length_le (by rw [HN.out]; omega)] at h
        exact h
      go_wp2_with fail
      go_ret
      exact ⟨by rw [HRO.out]; rfl, HBR.out⟩
end Go.Proofs.YtiopgbbggeimaaaGreat
