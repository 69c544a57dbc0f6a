/-
  The contracts, at entries read whole.
-/
import Derived.Test.YtnjniganlielcaaV24
namespace Go.Proofs.Ytnjniganlielcaa
open Go.ChangeShapes Go.WideShapes Go.ChangeAt Go.RowKit
def joinP (P : List PE) (id tt : Int) : List PE := if joinK (pk P) id tt = 0 then setP P id tt else []
def partP (P : List PE) (id : Int) : List PE := if partK (pk P) id = 0 then setP P id 0 else []
theorem join_all {w : World} {L : List EV} {P : List PE} (h : All2 (DpE w) L P) (id tt : Int) : All2 (DpE w) (joinE L id tt) (joinP P id tt) := by
  rw [joinE, joinP, keys_pk h]
  split
  · exact set_all h id tt
  · exact .nil
theorem part_all {w : World} {L : List EV} {P : List PE} (h : All2 (DpE w) L P) (id : Int) : All2 (DpE w) (partE L id) (partP P id) := by
  rw [partE, partP, keys_pk h]
  split
  · exact set_all h id 0
  · exact .nil
section
variable {v : Value} {P : List PE} {w : World}
theorem check_p (hv : RdP w v P) (hl : P.length ≤ 100000) : Calls Try.prog 12 #[v] w fun e w' => e = .returned (.int .i64 (chkK (pk P))) ∧ Below w.heap.size w w' := by
  obtain ⟨L, h1, h2⟩ := hv
  rw [← keys_pk h2]
  exact check_any v L w h1 (by rw [h2.length]; exact hl)
theorem main_p (id : Int) (hv : RdP w v P) (hl : P.length ≤ 100000) : Calls Try.prog 17 #[v, .int .i64 id] w fun e w' => e = .returned (.int .i64 (mainK (pk P) id)) ∧ Below w.heap.size w w' := by
  obtain ⟨L, h1, h2⟩ := hv
  rw [← keys_pk h2]
  exact main_any v L id w h1 (by rw [h2.length]; exact hl)
theorem rmain_p (id : Int) (hv : RdP w v P) (hl : P.length ≤ 100000) : Calls Try.prog 18 #[v, .int .i64 id] w fun e w' => e = .returned (.int .i64 (mainK (pk P) id)) ∧ Below w.heap.size w w' := by
  obtain ⟨L, h1, h2⟩ := hv
  rw [← keys_pk h2]
  exact rmain_any v L id w h1 (by rw [h2.length]; exact hl)
theorem all_p (id : Int) (hv : RdP w v P) (hl : P.length ≤ 100000) (hup : UpK (pk P)) : Calls Try.prog 20 #[v, .int .i64 id] w fun e w' => (∃ v', e = .returned v' ∧ RdI w' v' (allK (pk P) id)) ∧ Below w.heap.size w w' := by
  obtain ⟨L, h1, h2⟩ := hv
  rw [← keys_pk h2] at hup ⊢
  exact all_any v L id w h1 (by rw [h2.length]; exact hl) hup
theorem rall_p (id : Int) (hv : RdP w v P) (hl : P.length ≤ 100000) : Calls Try.prog 21 #[v, .int .i64 id] w fun e w' => (∃ v', e = .returned v' ∧ RdI w' v' (allK (pk P) id)) ∧ Below w.heap.size w w' := by
  obtain ⟨L, h1, h2⟩ := hv
  rw [← keys_pk h2]
  exact rall_any v L id w h1 (by rw [h2.length]; exact hl)
theorem join_p (id tt : Int) (hv : RdP w v P) (hl : P.length ≤ 100000) : Calls Try.prog 24 #[v, .int .i64 id, .int .i64 tt] w fun e w' => (∃ v', e = .returned (.tuple #[v', .int .i64 (joinK (pk P) id tt)]) ∧ RdP w' v' (joinP P id tt)) ∧ Below w.heap.size w w' := by
  obtain ⟨L, h1, h2⟩ := hv
  rw [← keys_pk h2]
  refine (join_any v L id tt w h1 (by rw [h2.length]; exact hl)).mono ?_
  rintro e w' ⟨⟨v', rfl, ho⟩, hb⟩
  exact ⟨⟨v', rfl, _, ho.rd, join_all (h2.mono fun _ _ _ _ k => k.below hb) id tt⟩, hb⟩
theorem rjoin_p (id tt : Int) (hv : RdP w v P) (hl : P.length ≤ 100000) (hup : UpK (pk P)) : Calls Try.prog 25 #[v, .int .i64 id, .int .i64 tt] w fun e w' => (∃ v', e = .returned (.tuple #[v', .int .i64 (joinK (pk P) id tt)]) ∧ RdP w' v' (joinP P id tt)) ∧ Below w.heap.size w w' := by
  obtain ⟨L, h1, h2⟩ := hv
  rw [← keys_pk h2] at hup ⊢
  refine (rjoin_any v L id tt w h1 (by rw [h2.length]; exact hl) hup).mono ?_
  rintro e w' ⟨⟨v', rfl, ho⟩, hb⟩
  exact ⟨⟨v', rfl, _, ho.rd, join_all (h2.mono fun _ _ _ _ k => k.below hb) id tt⟩, hb⟩
theorem part_p (id : Int) (hv : RdP w v P) (hl : P.length ≤ 100000) : Calls Try.prog 26 #[v, .int .i64 id] w fun e w' => (∃ v', e = .returned (.tuple #[v', .int .i64 (partK (pk P) id)]) ∧ RdP w' v' (partP P id)) ∧ Below w.heap.size w w' := by
  obtain ⟨L, h1, h2⟩ := hv
  rw [← keys_pk h2]
  refine (part_any v L id w h1 (by rw [h2.length]; exact hl)).mono ?_
  rintro e w' ⟨⟨v', rfl, ho⟩, hb⟩
  exact ⟨⟨v', rfl, _, ho.rd, part_all (h2.mono fun _ _ _ _ k => k.below hb) id⟩, hb⟩
theorem rpart_p (id : Int) (hv : RdP w v P) (hl : P.length ≤ 100000) (hup : UpK (pk P)) : Calls Try.prog 27 #[v, .int .i64 id] w fun e w' => (∃ v', e = .returned (.tuple #[v', .int .i64 (partK (pk P) id)]) ∧ RdP w' v' (partP P id)) ∧ Below w.heap.size w w' := by
  obtain ⟨L, h1, h2⟩ := hv
  rw [← keys_pk h2] at hup ⊢
  refine (rpart_any v L id w h1 (by rw [h2.length]; exact hl) hup).mono ?_
  rintro e w' ⟨⟨v', rfl, ho⟩, hb⟩
  exact ⟨⟨v', rfl, _, ho.rd, part_all (h2.mono fun _ _ _ _ k => k.below hb) id⟩, hb⟩
end
/-! the sample -/
def bHound : ByteArray := { data := #[104, 111, 117, 110, 100] }
def bDog : ByteArray := { data := #[100, 111, 103] }
def bNo : ByteArray := { data := #[] }
def sampleP : List PE := [⟨3, [], 0, [], 5, [], [], []⟩, ⟨5, [], 0, [], 9, [⟨bHound, bNo⟩], [], []⟩, ⟨9, [], 0, [], 0, [⟨bDog, bNo⟩], [], []⟩]
theorem rd_nil (w : World) (size : Nat) : Rd w size (.slice none 0 0) 0 [] := ⟨none, 0, rfl, Nat.le_refl _, by omega, by simp, fun h => absurd h (Nat.lt_irrefl 0)⟩
theorem rdL_nil (w : World) : RdL w (.slice none 0 0) [] := ⟨[], rd_nil w 1, rfl, fun i u l h => by simp at h⟩
theorem rd_block {w : World} {g n size : Nat} {cs : Array Value} {t : TypeId} {xs : List Value} (h : w.heap[g]? = some (.cells cs t (0, 0))) (hx : cs.toList = xs) (hn : xs.length = n * size) (hs : n ≤ 1000) : Rd w size (.slice (some ⟨g, 0, none⟩) n n) n xs := by
  refine ⟨_, n, rfl, Nat.le_refl _, by omega, hn, fun _ => ⟨g, 0, rfl, (Array.getElem?_eq_some_iff.1 h).1, fun j u hu => ?_⟩⟩
  rw [cell_of_row w g (0 + j) cs t (0, 0) h, Nat.zero_add]
  subst hx
  simpa using hu
set_option maxHeartbeats 1000000 in
theorem sample_any (w : World) : Calls Try.prog 37 #[] w fun e w' => (∃ v', e = .returned v' ∧ RdP w' v' sampleP) ∧ Below w.heap.size w w' := by
  go_enter Try.func37, Try.ntmps37
  go_wp2_with fail
  go_ret
  generalize hW : World.alloc (World.alloc (World.alloc w _) _) _ = W
  have h0 : W.heap[w.heap.size]? = some (.cells #[.string bHound, .string bNo] 41 (0, 0)) := by rw [← hW]; (repeat (first | exact heap_new' _ _ _ (by first | omega | rfl | (simp; done) | (simp; omega)) | refine (Below.heap_alloc _ _ _ (by first | omega | (simp; done) | (simp; omega))).trans ?_))
  have h1 : W.heap[w.heap.size + 1]? = some (.cells #[.string bDog, .string bNo] 41 (0, 0)) := by rw [← hW]; (repeat (first | exact heap_new' _ _ _ (by first | omega | rfl | (simp; done) | (simp; omega)) | refine (Below.heap_alloc _ _ _ (by first | omega | (simp; done) | (simp; omega))).trans ?_))
  have h2 : RdV W (.slice (some ⟨w.heap.size + 1 + 1, 0, none⟩) 3 3) [⟨3, slz, 0, slz, 5, slz, slz, slz⟩, ⟨5, slz, 0, slz, 9, ⟨some ⟨w.heap.size, 0, none⟩, 1, 1⟩, slz, slz⟩, ⟨9, slz, 0, slz, 0, ⟨some ⟨w.heap.size + 1, 0, none⟩, 1, 1⟩, slz, slz⟩] := by
    refine rd_block (t := 34) (cs := #[.int .i64 3, .slice none 0 0, .int .i64 0, .slice none 0 0, .int .i64 5, .slice none 0 0, .slice none 0 0, .slice none 0 0, .int .i64 5, .slice none 0 0, .int .i64 0, .slice none 0 0, .int .i64 9, .slice (some ⟨w.heap.size, 0, none⟩) 1 1, .slice none 0 0, .slice none 0 0, .int .i64 9, .slice none 0 0, .int .i64 0, .slice none 0 0, .int .i64 0, .slice (some ⟨w.heap.size + 1, 0, none⟩) 1 1, .slice none 0 0, .slice none 0 0]) ?_ rfl rfl (by decide)
    rw [← hW]
    (repeat (first | exact heap_new' _ _ _ (by first | omega | rfl | (simp; done) | (simp; omega)) | refine (Below.heap_alloc _ _ _ (by first | omega | (simp; done) | (simp; omega))).trans ?_))
  have hb : Below w.heap.size w W := by rw [← hW]; repeat (first | assumption | exact Below.refl _ _ | refine Below.alloc ?_ (by first | omega | (simp; done) | (simp; omega)) _ | refine Below.drew ?_ | refine below_drewN ?_ _ | refine Below.setCell ?_ (by first | omega | (simp; done) | (simp; omega)) _)
  clear hW
  refine ⟨⟨_, rfl, _, h2, ?_⟩, hb⟩
  refine .cons ⟨rfl, rfl, rfl, rd_nil _ _, rdL_nil _, rd_nil _ _, rd_nil _ _, rd_nil _ _⟩ (.cons ⟨rfl, rfl, rfl, rd_nil _ _, rdL_nil _, ?_, rd_nil _ _, rd_nil _ _⟩ (.cons ⟨rfl, rfl, rfl, rd_nil _ _, rdL_nil _, ?_, rd_nil _ _, rd_nil _ _⟩ .nil))
  · exact rd_block h0 rfl rfl (by show 1 ≤ 1000; omega)
  · exact rd_block h1 rfl rfl (by show 1 ≤ 1000; omega)
theorem one_rd {w : World} {g : Nat} (id m : Int) (h : w.heap[g]? = some (.cells #[.int .i64 id, .slice none 0 0, .int .i64 0, .slice none 0 0, .int .i64 m, .slice none 0 0, .slice none 0 0, .slice none 0 0] 34 (0, 0))) :
    RdP w (.slice (some ⟨g, 0, none⟩) 1 1) [⟨id, [], 0, [], m, [], [], []⟩] :=
  ⟨[⟨id, slz, 0, slz, m, slz, slz, slz⟩], rd_block h rfl rfl (by decide), .cons ⟨rfl, rfl, rfl, rd_nil _ _, rdL_nil _, rd_nil _ _, rd_nil _ _, rd_nil _ _⟩ .nil⟩
end Go.Proofs.Ytnjniganlielcaa
