/-
  The reference 20: symbols.
-/
import Derived.Test.YtmejihlplbeekaaH3
import Derived.Test.YtmejihlplbeekaaG7
namespace Go.Proofs.Ytmejihlplbeekaa
open Go.ChangeShapes Go.WideShapes Go.ChangeAt Go.RowKit
/-- the place of c in a list -/
def atS (c : Int) : List Int → Nat
  | [] => 0
  | y :: l => if y < c then atS c l + 1 else 0
theorem atS_le (c : Int) (l : List Int) : atS c l ≤ l.length := by
  induction l with
  | nil => simp [atS]
  | cons y l ih => unfold atS; split <;> simp <;> omega
theorem insS_at (c : Int) (l : List Int) : insS c l = if l[atS c l]? = some c then l else l.take (atS c l) ++ [c] ++ l.drop (atS c l) := by
  induction l with
  | nil => simp [insS, atS]
  | cons y l ih =>
    unfold insS atS
    by_cases h1 : y < c
    · simp only [h1, if_true, List.getElem?_cons_succ, List.take_succ_cons, List.drop_succ_cons, List.cons_append, ih]
      split <;> rfl
    · simp only [h1, if_false]
      by_cases h2 : y = c
      · simp [h2]
      · simp [h2]
theorem atS_stop (c : Int) (l : List Int) (k : Nat) (h : ∀ j, j < k → ∀ y, l[j]? = some y → y < c) (hk : k ≤ l.length) (hs : ∀ y, l[k]? = some y → ¬ y < c) : atS c l = k := by
  induction l generalizing k with
  | nil => simp at hk; simp [atS, hk]
  | cons y l ih =>
    cases k with
    | zero =>
      have := hs y (by simp)
      unfold atS
      rw [if_neg this]
    | succ k =>
      have := h 0 (by omega) y (by simp)
      unfold atS
      rw [if_pos this, ih k (fun j hj z hz => h (j + 1) (by omega) z (by simpa using hz)) (by simpa using hk) (fun z hz => hs z (by simpa using hz))]
theorem insS_len (c : Int) (l : List Int) : (insS c l).length ≤ l.length + 1 := by
  rw [insS_at]
  split
  · omega
  · simp
    omega
theorem symsX_len (L : List PArc) : (symsX L).length ≤ L.length := by
  have h : ∀ (L : List PArc) (s : List Int), (L.foldl (fun s a => if a.out = 0 then s else insS a.out s) s).length ≤ s.length + L.length := by
    intro L
    induction L with
    | nil => intro s; simp
    | cons a L ih =>
      intro s
      refine Nat.le_trans (ih _) ?_
      dsimp only
      split
      · simp
      · have := insS_len a.out s
        simp
        omega
  simpa [symsX] using h L []
set_option maxHeartbeats 4000000 in
set_option maxRecDepth 100000 in
theorem symbols_any (w : World) (v : Value) (F : PFst) (hv : RdF w v F) (hL : F.arcs.length ≤ 262144) :
    Calls Try.prog 43 #[v] w fun e w' => (∃ v', e = .returned v' ∧ OwnI w' w.heap.size v' (symsX F.arcs)) ∧ Below w.heap.size w w' := by
  obtain ⟨va, vf, rfl, ha, hf⟩ := hv
  obtain ⟨A, n, c, rfl, h1, h2, hn, hr⟩ := ha.op
  obtain ⟨A', n', c', rfl, h1', h2', hn', hr'⟩ := hf.op
  rw [hn.out] at hL
  clear hf ha hr'
  go_enter Try.func43, Try.ntmps43
  go_wp2_with fail
  generalize hw1 : World.alloc w _ = W
  obtain ⟨B, hB⟩ : ∃ B, w.heap.size = B := ⟨_, rfl⟩
  have HB0 : Hid (Below w.heap.size w W) := by rw [← hw1]; exact (Below.refl _ _).alloc (Nat.le_refl _) _
  have HP0 : Hid (FBlk W B (.int .i64 F.states) (.slice A n c) (.slice A' n' c')) := by rw [← hw1, ← hB]; exact heap_alloc_new w _
  have HBE := Lib.hid hB
  rw [hB]
  clear hw1 hB
  go_loopg [3, 4] n (fun gk v3 v4 wr => ∃ (j : Nat) (Ao : Option Addr) (no co : Nat), j ≤ n ∧ gk = n - j ∧ v4 = .int .i64 j ∧ v3 = .slice Ao no co ∧ Hid (OwnI wr w.heap.size (.slice Ao no co) (symsX (F.arcs.take j))) ∧ Hid (FBlk wr B (.int .i64 F.states) (.slice A n c) (.slice A' n' c')) ∧ Hid (Below w.heap.size w wr))
  case atStart => exact ⟨0, none, 0, 0, Nat.zero_le _, rfl, rfl, rfl, (show OwnI W w.heap.size (.slice none 0 0) [] from World.ownsRow_nil _ _ _ _), HP0.out, HB0.out⟩
  case round =>
    obtain ⟨j, Ao, no, co, hj, hg, rfl, rfl, HO, HP, HB⟩ := hrel
    have HG := Lib.hid hg
    clear hg
    obtain ⟨p0, c1, p2, _, _, _⟩ := HP.out.facts
    have hpl := HP.out.lt
    by_cases hlt : j < n
    · obtain ⟨bb, off, x0, x1, x2, x3, rfl, hbb, hdr, e0, e1, e2, e3⟩ := (hr.out j hlt).below HB.out
      have HTK : Hid (F.arcs.take (j + 1) = F.arcs.take j ++ [⟨x0, x1, x2, x3⟩]) := take_of_drop hdr.out
      have HNX : Hid (symsX (F.arcs.take (j + 1)) = if x2 = 0 then symsX (F.arcs.take j) else insS x2 (symsX (F.arcs.take j))) := by rw [Hid, HTK.out, symsX_snoc]
      have HLN : Hid ((symsX (F.arcs.take j)).length ≤ 262144) := Nat.le_trans (symsX_len _) (by rw [List.length_take]; omega)
      obtain ⟨L, hL0⟩ : ∃ L, symsX (F.arcs.take j) = L := ⟨_, rfl⟩
      rw [hL0] at HO HNX HLN
      have HSL : Hid (L.Pairwise (· < ·)) := by rw [← hL0]; exact symsX_sorted _
      clear hL0
      obtain ⟨_, _, _, he, hc1, hc2, HLO, HRO⟩ := HO.out.rd.op
      cases he
      have hno : no ≤ 262144 := by rw [← HLO.out]; exact HLN.out
      go_wp2_with fail
      clear p0 p2 e0 e1 e2 e3 c1 hpl
      go_loopw [5] (fun i wx => ∃ k : Nat, k ≤ no ∧ i = .int .i64 k ∧ wr = wx ∧ Hid (∀ m, m < k → ∀ y, L[m]? = some y → y < x2)) (fun i _ => no - (intOf i).toNat)
      case atStart => exact ⟨0, Nat.zero_le _, rfl, rfl, fun m h => absurd h (by omega)⟩
      case round =>
        obtain ⟨k, hk, rfl, rfl, HLS⟩ := hrel
        by_cases hkn : k < no
        · obtain ⟨yb, yo, y, rfl, hyb, hyd, hyc⟩ := HRO.out k hkn
          have HAT : Hid (L[k]? = some y) := at_of_drop hyd.out
          by_cases hyx : y < x2
          · have hd : decide (y < x2) = true := by simpa using hyx
            have HYX := Lib.hid hyx
            clear hyx
            go_wp2_with fail
            go_roundw
            case rel => exact ⟨k + 1, by omega, by go_num, trivial, fun m hm z hz => by
              by_cases e : m = k
              · subst e; rw [HAT.out] at hz; cases hz; exact HYX.out
              · exact HLS.out m (by omega) z hz⟩
            case measure => simp [intOf]; omega
          · have hd : decide (y < x2) = false := by simpa using hyx
            have HATS : Hid (atS x2 L = k) := atS_stop x2 L k HLS.out (by rw [HLO.out]; omega) (fun z hz => by rw [HAT.out] at hz; cases hz; exact hyx)
            clear hyx
            by_cases hx0 : x2 = 0
            · subst hx0
              have HEQ : Hid (symsX (F.arcs.take (j + 1)) = L) := by rw [Hid, HNX.out]; rw [if_pos rfl]
              go_wp2_with fail
              go_roundg (n - (j + 1))
              case measure => rw [HG.out]; omega
              case rel => exact ⟨j + 1, _, _, _, by omega, rfl, by go_num, rfl, by rw [HEQ.out]; exact HO.out, HP.out, HB.out⟩
            have HX0 := Lib.hid hx0
            have hb0 : (x2 == 0) = false := by simpa using hx0
            clear hx0
            by_cases hyx2 : y = x2
            · have hb1 : (y == x2) = true := by simpa using hyx2
              have HYE := Lib.hid hyx2
              clear hyx2
              have HEQ : Hid (symsX (F.arcs.take (j + 1)) = L) := by rw [Hid, HNX.out]; rw [if_neg HX0.out, insS_at, HATS.out, HAT.out, if_pos (by rw [HYE.out])]
              go_wp2_with fail
              go_roundg (n - (j + 1))
              case measure => rw [HG.out]; omega
              case rel => exact ⟨j + 1, _, _, _, by omega, rfl, by go_num, rfl, by rw [HEQ.out]; exact HO.out, HP.out, HB.out⟩
            have hb1 : (y == x2) = false := by simpa using hyx2
            have HNE : Hid (¬ L[k]? = some x2) := by rw [HAT.out]; intro h; cases h; exact hyx2 rfl
            clear hyx2
            have hca : ¬ (co = k) := by omega
            have hdp := RdI.drop HO.out.rd (k := k) (by omega)
            rw [if_neg hca] at hdp
            simp only [Option.map_some, add_none] at hdp
            have HDP := Lib.hid hdp
            clear hdp
            have HEQ : Hid (symsX (F.arcs.take (j + 1)) = L.take k ++ [x2] ++ L.drop k) := by rw [Hid, HNX.out, if_neg HX0.out, insS_at, HATS.out, if_neg HNE.out]
            have HROW : Hid (RdI wr (.slice (some ⟨yb, yo, none⟩) no co) L) := HO.out.rd
            have hkl : k ≤ 262144 := by omega
            have hbs : wr.heap.size ≤ wr.heap.size := Nat.le_refl _
            have hl6 : ([] : List Int).length + (L.take k).length ≤ 300000000 := by simp; omega
            go_wp2_with (at_builtin; refine wpList_app_ints rfl (.tmp 51) (.tmp 54) rfl wr.heap.size (.slice none 0 0) [] rfl (World.ownsRow_nil _ _ _ _) (.slice (some ⟨yb, yo, none⟩) k co) (L.take k) ?_ (RdI.take HROW.out (by omega)) hl6 hbs ?_)
            try (case refine_1 => go_simp)
            intro v6 w6 ho6 hg6 hor6
            have HO6 : Hid (OwnI w6 wr.heap.size v6 (L.take k)) := ho6
            obtain ⟨_, A6, c6, rfl⟩ := own_slice HO6.out
            have HB6 : Hid (Below wr.heap.size wr w6) := (Below.refl _ _).grown hg6 (Nat.le_refl _) (fun j hj => by cases hj)
            have hlt6 : (L.take k).length = k := by rw [List.length_take, HLO.out]; omega
            rw [hlt6] at HO6 ⊢
            clear ho6 hg6 hor6 hl6 hbs
            have hs6 : wr.heap.size ≤ w6.heap.size := HB6.out.size
            have HLT6 := Lib.hid hlt6
            clear hlt6
            have hl8 : (L.take k ++ [x2]).length + (L.drop k).length ≤ 300000000 := by have := HLN.out; simp; omega
            have hk6 : k ≤ 1000000 := by omega
            go_wp2_with (at_builtin; first
              | (refine wpList_app_int rfl (.tmp 56) (.tmp 58) rfl wr.heap.size (.slice A6 k c6) (L.take k) rfl HO6.out x2 k HLT6.out hk6 hs6 rfl ?_; intro g7 c7 w7 ho7 hgg7 hg7; have HO7 := Lib.hid ho7; have HB7 : Hid (Below wr.heap.size wr w7) := HB6.out.grown hg7 hs6 (fun j hj => (World.ownsRow.lt HO6.out j hj).1); clear ho7 hgg7 hg7; have hs7 : wr.heap.size ≤ w7.heap.size := HB7.out.size; have HX7 : Hid (RdI w7 (.slice (some ⟨yb, yo + k, none⟩) (no - k) (co - k)) (L.drop k)) := RdI.below HDP.out HB7.out)
              | (refine wpList_app_ints rfl (.tmp 60) (.tmp 63) rfl wr.heap.size (.slice (some ⟨g7, 0, none⟩) (k + 1) c7) (L.take k ++ [x2]) rfl HO7.out (.slice (some ⟨yb, yo + k, none⟩) (no - k) (co - k)) (L.drop k) ?_ HX7.out hl8 hs7 ?_; (focus (go_simp; done)); intro v8 w8 ho8 hg8 hor8; rw [← HEQ.out] at ho8; have HB8 : Hid (Below wr.heap.size wr w8) := HB7.out.grown hg8 hs7 (fun j hj => (World.ownsRow.lt HO7.out j hj).1); have HO8 : Hid (OwnI w8 w.heap.size v8 (symsX (F.arcs.take (j + 1)))) := own_base ho8 HB.out.size; obtain ⟨_, A8, c8, rfl⟩ := own_slice HO8.out; clear ho8 hg8 hor8 hl8 HO6 HO7)
              | fail)
            go_roundg (n - (j + 1))
            case measure => rw [HG.out]; omega
            case rel => exact ⟨j + 1, _, _, _, by omega, rfl, by go_num, rfl, HO8.out, HP.out.below HB8.out, bchain HB.out HB8.out⟩
        · have hkn2 : k = no := by omega
          subst hkn2
          have HATS : Hid (atS x2 L = k) := atS_stop x2 L k HLS.out (by rw [HLO.out]; omega) (fun z hz => by
            have := (List.getElem?_eq_some_iff.1 hz).1
            rw [HLO.out] at this
            omega)
          have HNO : Hid (L[k]? = none) := by rw [Hid, List.getElem?_eq_none_iff, HLO.out]; exact Nat.le_refl _
          by_cases hx0 : x2 = 0
          · subst hx0
            have HEQ : Hid (symsX (F.arcs.take (j + 1)) = L) := by rw [Hid, HNX.out]; rw [if_pos rfl]
            go_wp2_with fail
            go_roundg (n - (j + 1))
            case measure => rw [HG.out]; omega
            case rel => exact ⟨j + 1, _, _, _, by omega, rfl, by go_num, rfl, by rw [HEQ.out]; exact HO.out, HP.out, HB.out⟩
          have HX0 := Lib.hid hx0
          have hb0 : (x2 == 0) = false := by simpa using hx0
          clear hx0
          have HNE : Hid (¬ L[k]? = some x2) := by rw [HNO.out]; intro h; cases h
          have HLD : Hid (L.drop k = []) := List.drop_of_length_le (by rw [HLO.out]; exact Nat.le_refl _)
          by_cases hca : co = k
          · have HDP : Hid (RdI wr (.slice Ao 0 0) (L.drop k)) := by rw [HLD.out]; exact ⟨Ao, 0, rfl, Nat.le_refl _, by omega, rfl, fun h => absurd h (Nat.lt_irrefl 0)⟩
            have hcb := hca.symm
            subst hcb
            have HEQ : Hid (symsX (F.arcs.take (j + 1)) = L.take k ++ [x2] ++ L.drop k) := by rw [Hid, HNX.out, if_neg HX0.out, insS_at, HATS.out, if_neg HNE.out]
            have HROW : Hid (RdI wr (.slice Ao k k) L) := HO.out.rd
            have hkl : k ≤ 262144 := by omega
            have hbs : wr.heap.size ≤ wr.heap.size := Nat.le_refl _
            have hl6 : ([] : List Int).length + (L.take k).length ≤ 300000000 := by simp; omega
            go_wp2_with (at_builtin; refine wpList_app_ints rfl (.tmp 51) (.tmp 54) rfl wr.heap.size (.slice none 0 0) [] rfl (World.ownsRow_nil _ _ _ _) (.slice Ao k k) (L.take k) ?_ (RdI.take HROW.out (by omega)) hl6 hbs ?_)
            try (case refine_1 => go_simp)
            intro v6 w6 ho6 hg6 hor6
            have HO6 : Hid (OwnI w6 wr.heap.size v6 (L.take k)) := ho6
            obtain ⟨_, A6, c6, rfl⟩ := own_slice HO6.out
            have HB6 : Hid (Below wr.heap.size wr w6) := (Below.refl _ _).grown hg6 (Nat.le_refl _) (fun j hj => by cases hj)
            have hlt6 : (L.take k).length = k := by rw [List.length_take, HLO.out]; omega
            rw [hlt6] at HO6 ⊢
            clear ho6 hg6 hor6 hl6 hbs
            have hs6 : wr.heap.size ≤ w6.heap.size := HB6.out.size
            have HLT6 := Lib.hid hlt6
            clear hlt6
            have hl8 : (L.take k ++ [x2]).length + (L.drop k).length ≤ 300000000 := by have := HLN.out; simp; omega
            have hk6 : k ≤ 1000000 := by omega
            go_wp2_with (at_builtin; first
              | (refine wpList_app_int rfl (.tmp 56) (.tmp 58) rfl wr.heap.size (.slice A6 k c6) (L.take k) rfl HO6.out x2 k HLT6.out hk6 hs6 rfl ?_; intro g7 c7 w7 ho7 hgg7 hg7; have HO7 := Lib.hid ho7; have HB7 : Hid (Below wr.heap.size wr w7) := HB6.out.grown hg7 hs6 (fun j hj => (World.ownsRow.lt HO6.out j hj).1); clear ho7 hgg7 hg7; have hs7 : wr.heap.size ≤ w7.heap.size := HB7.out.size; have HX7 : Hid (RdI w7 (.slice Ao 0 0) (L.drop k)) := RdI.below HDP.out HB7.out)
              | (refine wpList_app_ints rfl (.tmp 60) (.tmp 63) rfl wr.heap.size (.slice (some ⟨g7, 0, none⟩) (k + 1) c7) (L.take k ++ [x2]) rfl HO7.out (.slice Ao 0 0) (L.drop k) ?_ HX7.out hl8 hs7 ?_; (focus (go_simp; done)); intro v8 w8 ho8 hg8 hor8; rw [← HEQ.out] at ho8; have HB8 : Hid (Below wr.heap.size wr w8) := HB7.out.grown hg8 hs7 (fun j hj => (World.ownsRow.lt HO7.out j hj).1); have HO8 : Hid (OwnI w8 w.heap.size v8 (symsX (F.arcs.take (j + 1)))) := own_base ho8 HB.out.size; obtain ⟨_, A8, c8, rfl⟩ := own_slice HO8.out; clear ho8 hg8 hor8 hl8 HO6 HO7)
              | fail)
            go_roundg (n - (j + 1))
            case measure => rw [HG.out]; omega
            case rel => exact ⟨j + 1, _, _, _, by omega, rfl, by go_num, rfl, HO8.out, HP.out.below HB8.out, bchain HB.out HB8.out⟩
          · have HDP : Hid (RdI wr (.slice (Ao.map (·.add k)) 0 (co - k)) (L.drop k)) := by rw [HLD.out]; exact ⟨_, _, rfl, Nat.zero_le _, by omega, rfl, fun h => absurd h (Nat.lt_irrefl 0)⟩
            have HEQ : Hid (symsX (F.arcs.take (j + 1)) = L.take k ++ [x2] ++ L.drop k) := by rw [Hid, HNX.out, if_neg HX0.out, insS_at, HATS.out, if_neg HNE.out]
            have HROW : Hid (RdI wr (.slice Ao k co) L) := HO.out.rd
            have hkl : k ≤ 262144 := by omega
            have hbs : wr.heap.size ≤ wr.heap.size := Nat.le_refl _
            have hl6 : ([] : List Int).length + (L.take k).length ≤ 300000000 := by simp; omega
            go_wp2_with (at_builtin; refine wpList_app_ints rfl (.tmp 51) (.tmp 54) rfl wr.heap.size (.slice none 0 0) [] rfl (World.ownsRow_nil _ _ _ _) (.slice Ao k co) (L.take k) ?_ (RdI.take HROW.out (by omega)) hl6 hbs ?_)
            try (case refine_1 => go_simp)
            intro v6 w6 ho6 hg6 hor6
            have HO6 : Hid (OwnI w6 wr.heap.size v6 (L.take k)) := ho6
            obtain ⟨_, A6, c6, rfl⟩ := own_slice HO6.out
            have HB6 : Hid (Below wr.heap.size wr w6) := (Below.refl _ _).grown hg6 (Nat.le_refl _) (fun j hj => by cases hj)
            have hlt6 : (L.take k).length = k := by rw [List.length_take, HLO.out]; omega
            rw [hlt6] at HO6 ⊢
            clear ho6 hg6 hor6 hl6 hbs
            have hs6 : wr.heap.size ≤ w6.heap.size := HB6.out.size
            have HLT6 := Lib.hid hlt6
            clear hlt6
            have hl8 : (L.take k ++ [x2]).length + (L.drop k).length ≤ 300000000 := by have := HLN.out; simp; omega
            have hk6 : k ≤ 1000000 := by omega
            go_wp2_with (at_builtin; first
              | (refine wpList_app_int rfl (.tmp 56) (.tmp 58) rfl wr.heap.size (.slice A6 k c6) (L.take k) rfl HO6.out x2 k HLT6.out hk6 hs6 rfl ?_; intro g7 c7 w7 ho7 hgg7 hg7; have HO7 := Lib.hid ho7; have HB7 : Hid (Below wr.heap.size wr w7) := HB6.out.grown hg7 hs6 (fun j hj => (World.ownsRow.lt HO6.out j hj).1); clear ho7 hgg7 hg7; have hs7 : wr.heap.size ≤ w7.heap.size := HB7.out.size; have HX7 : Hid (RdI w7 (.slice (Ao.map (·.add k)) 0 (co - k)) (L.drop k)) := RdI.below HDP.out HB7.out)
              | (refine wpList_app_ints rfl (.tmp 60) (.tmp 63) rfl wr.heap.size (.slice (some ⟨g7, 0, none⟩) (k + 1) c7) (L.take k ++ [x2]) rfl HO7.out (.slice (Ao.map (·.add k)) 0 (co - k)) (L.drop k) ?_ HX7.out hl8 hs7 ?_; (focus (go_simp; done)); intro v8 w8 ho8 hg8 hor8; rw [← HEQ.out] at ho8; have HB8 : Hid (Below wr.heap.size wr w8) := HB7.out.grown hg8 hs7 (fun j hj => (World.ownsRow.lt HO7.out j hj).1); have HO8 : Hid (OwnI w8 w.heap.size v8 (symsX (F.arcs.take (j + 1)))) := own_base ho8 HB.out.size; obtain ⟨_, A8, c8, rfl⟩ := own_slice HO8.out; clear ho8 hg8 hor8 hl8 HO6 HO7)
              | fail)
            go_roundg (n - (j + 1))
            case measure => rw [HG.out]; omega
            case rel => exact ⟨j + 1, _, _, _, by omega, rfl, by go_num, rfl, HO8.out, HP.out.below HB8.out, bchain HB.out HB8.out⟩
    · go_wp2_with fail
      go_ret
      have h := HO.out
      rw [List.take_of_length_le (by rw [hn.out]; omega)] at h
      exact ⟨⟨_, rfl, h⟩, HB.out⟩
end Go.Proofs.Ytmejihlplbeekaa
