/-
  awake of the statements.
-/
import Derived.Test.YtokbclpdpegicaaWP5
namespace Go.Proofs.Ytokbclpdpegicaa
open Go.ChangeShapes Go.WideShapes Go.ChangeAt Go.RowKit
def cO : PO := ⟨⟨#[99]⟩, [⟨⟨#[99]⟩, [1]⟩, ⟨⟨#[107]⟩, [1]⟩], []⟩
def tO : PO := ⟨⟨#[116]⟩, [⟨⟨#[116]⟩, [1]⟩, ⟨⟨#[104]⟩, [2]⟩, ⟨⟨#[116, 104]⟩, [3]⟩], []⟩
theorem ev1 : convF cO.units cO.units ⟨#[107]⟩ = (⟨#[99]⟩, 0, 0) := by kernel_rfl
theorem ev2 : convF cO.units tO.units ⟨#[107, 99]⟩ = (⟨#[116, 116]⟩, 0, 0) := by kernel_rfl
theorem ev3 : convF tO.units cO.units ⟨#[116, 116, 104]⟩ = (ByteArray.empty, 1, 20) := by kernel_rfl
theorem ev4 : sameF cO.units tO.units ⟨#[107]⟩ ⟨#[116]⟩ = true := by kernel_rfl
theorem ev5 : sameF cO.units tO.units ⟨#[107]⟩ ⟨#[104]⟩ = false := by kernel_rfl
theorem ev6 : faithF cO.units ⟨#[99]⟩ = true := by kernel_rfl
theorem ev7 : faithF cO.units ⟨#[107]⟩ = false := by kernel_rfl
theorem ev8 : (capT cO.units [1] 1).getD 0 0 = 2 := by kernel_rfl
theorem ev9 : (capT tO.units [1, 2] 2).getD 0 0 = 1 := by kernel_rfl
theorem ev10 : (capT tO.units [2, 1] 2).getD 0 0 = 1 := by kernel_rfl
theorem ev11 : (etab cO.units [1] (fun _ => true) 1).getD 0 [] = [⟨#[99]⟩, ⟨#[107]⟩] := by kernel_rfl
theorem ev12 : (etab tO.units [1, 2] (fun _ => true) 2).getD 0 [] = [] := by kernel_rfl
theorem ev13 : (etab tO.units [2, 1] (fun _ => true) 2).getD 0 [] = [⟨#[104, 116]⟩] := by kernel_rfl
theorem own_of {us : List PU} (h : us.Pairwise (fun p q => (p.g.toList == q.g.toList) = false)) : ∀ (j k : Nat) (p q : PU), j < k → us[j]? = some p → us[k]? = some q → (p.g.toList == q.g.toList) = false := by
  intro j k p q hjk hj hk
  obtain ⟨h1, rfl⟩ := List.getElem?_eq_some_iff.1 hj
  obtain ⟨h2, rfl⟩ := List.getElem?_eq_some_iff.1 hk
  exact List.pairwise_iff_getElem.1 h j k h1 h2 hjk
theorem heap_new' (w : World) (o : Obj) (k : Nat) (h : k = w.heap.size) : (w.alloc o).heap[k]? = some o := by rw [h]; exact heap_alloc_new w o
theorem le_of_dec {a b : Nat} (h : decide (a ≤ b) = true) : a ≤ b := of_decide_eq_true h
theorem cGood : ∀ p ∈ cO.units, GoodU p := by intro p hp; simp only [cO, List.mem_cons, List.not_mem_nil, or_false] at hp; rcases hp with rfl | rfl <;> exact ⟨le_of_dec (by kernel_rfl), le_of_dec (by kernel_rfl), le_of_dec (by kernel_rfl)⟩
theorem tGood : ∀ p ∈ tO.units, GoodU p := by intro p hp; simp only [tO, List.mem_cons, List.not_mem_nil, or_false] at hp; rcases hp with rfl | rfl | rfl <;> exact ⟨le_of_dec (by kernel_rfl), le_of_dec (by kernel_rfl), le_of_dec (by kernel_rfl)⟩
theorem cOwn : ∀ (j k : Nat) (p q : PU), j < k → cO.units[j]? = some p → cO.units[k]? = some q → (p.g.toList == q.g.toList) = false := own_of (by
  simp only [cO, List.pairwise_cons, List.mem_cons, List.not_mem_nil, or_false, forall_eq, List.Pairwise.nil, and_true, false_implies, implies_true]
  kernel_rfl)
theorem tOwn : ∀ (j k : Nat) (p q : PU), j < k → tO.units[j]? = some p → tO.units[k]? = some q → (p.g.toList == q.g.toList) = false := own_of (by
  simp only [tO, List.pairwise_cons, List.mem_cons, List.not_mem_nil, or_false, forall_eq_or_imp, forall_eq, List.Pairwise.nil, and_true, false_implies, implies_true]
  exact ⟨⟨by kernel_rfl, by kernel_rfl⟩, by kernel_rfl⟩)
theorem cSm : SmO cO := ⟨le_of_dec (by kernel_rfl), le_of_dec (by kernel_rfl), by intro p hp; simp only [cO, List.mem_cons, List.not_mem_nil, or_false] at hp; rcases hp with rfl | rfl <;> exact le_of_dec (by kernel_rfl), by intro p hp; simp only [cO, List.mem_cons, List.not_mem_nil, or_false] at hp; rcases hp with rfl | rfl <;> exact le_of_dec (by kernel_rfl), le_of_dec (by kernel_rfl), by intro l hl; cases hl⟩
theorem tSm : SmO tO := ⟨le_of_dec (by kernel_rfl), le_of_dec (by kernel_rfl), by intro p hp; simp only [tO, List.mem_cons, List.not_mem_nil, or_false] at hp; rcases hp with rfl | rfl | rfl <;> exact le_of_dec (by kernel_rfl), by intro p hp; simp only [tO, List.mem_cons, List.not_mem_nil, or_false] at hp; rcases hp with rfl | rfl | rfl <;> exact le_of_dec (by kernel_rfl), le_of_dec (by kernel_rfl), by intro l hl; cases hl⟩
theorem rdI_new1 (w : World) (x : Int) : RdI (w.alloc (.cells #[.int .i64 x] 3)) (.slice (some ⟨w.heap.size, 0, none⟩) 1 1) [x] :=
  ⟨_, 1, rfl, Nat.le_refl _, by decide, rfl, fun _ => ⟨w.heap.size, 0, rfl, by simp, fun j u hu => by
    rw [cell_of_row _ w.heap.size (0 + j) _ _ (0, 0) (heap_alloc_new w _)]
    match j, hu with
    | 0, hu => simpa using hu⟩⟩
theorem rdI_new2 (w : World) (x y : Int) : RdI (w.alloc (.cells #[.int .i64 x, .int .i64 y] 3)) (.slice (some ⟨w.heap.size, 0, none⟩) 2 2) [x, y] :=
  ⟨_, 2, rfl, Nat.le_refl _, by decide, rfl, fun _ => ⟨w.heap.size, 0, rfl, by simp, fun j u hu => by
    rw [cell_of_row _ w.heap.size (0 + j) _ _ (0, 0) (heap_alloc_new w _)]
    match j, hu with
    | 0, hu => simpa using hu
    | 1, hu => simpa using hu⟩⟩
theorem rdS_new1 (w : World) (x : ByteArray) : RdS (w.alloc (.cells #[.string x] 9)) (.slice (some ⟨w.heap.size, 0, none⟩) 1 1) [x] :=
  ⟨_, 1, rfl, Nat.le_refl _, by decide, rfl, fun _ => ⟨w.heap.size, 0, rfl, by simp, fun j u hu => by
    rw [cell_of_row _ w.heap.size (0 + j) _ _ (0, 0) (heap_alloc_new w _)]
    match j, hu with
    | 0, hu => simpa using hu⟩⟩
theorem rdS_new2 (w : World) (x y : ByteArray) : RdS (w.alloc (.cells #[.string x, .string y] 9)) (.slice (some ⟨w.heap.size, 0, none⟩) 2 2) [x, y] :=
  ⟨_, 2, rfl, Nat.le_refl _, by decide, rfl, fun _ => ⟨w.heap.size, 0, rfl, by simp, fun j u hu => by
    rw [cell_of_row _ w.heap.size (0 + j) _ _ (0, 0) (heap_alloc_new w _)]
    match j, hu with
    | 0, hu => simpa using hu
    | 1, hu => simpa using hu⟩⟩
theorem rdSS_nil (w : World) : RdSS w (.slice none 0 0) [] := ⟨[], ⟨none, 0, rfl, Nat.le_refl _, by decide, rfl, fun h => absurd h (by decide)⟩, rfl, fun i u l h => by simp at h⟩
theorem rdI_at (w : World) (b : Nat) (x : Int) (h : w.heap[b]? = some (.cells #[.int .i64 x] 3 (0, 0))) : RdI w (.slice (some ⟨b, 0, none⟩) 1 1) [x] :=
  ⟨_, 1, rfl, Nat.le_refl _, by decide, rfl, fun _ => ⟨b, 0, rfl, (Array.getElem?_eq_some_iff.1 h).1, fun j u hu => by
    rw [cell_of_row _ b (0 + j) _ _ (0, 0) h]
    match j, hu with
    | 0, hu => simpa using hu⟩⟩
theorem rdU_c (w : World) (b b1 b2 : Nat) (h : w.heap[b]? = some (.cells #[.string ⟨#[99]⟩, .slice (some ⟨b1, 0, none⟩) 1 1, .string ⟨#[107]⟩, .slice (some ⟨b2, 0, none⟩) 1 1] 49 (0, 0)))
    (h1 : w.heap[b1]? = some (.cells #[.int .i64 1] 3 (0, 0))) (h2 : w.heap[b2]? = some (.cells #[.int .i64 1] 3 (0, 0))) : RdO w (.agg #[.string ⟨#[99]⟩, .slice (some ⟨b, 0, none⟩) 2 2, .slice none 0 0]) cO := by
  refine ⟨_, _, rfl, ⟨[.slice (some ⟨b1, 0, none⟩) 1 1, .slice (some ⟨b2, 0, none⟩) 1 1], rfl, ⟨_, 2, rfl, Nat.le_refl _, by decide, rfl, fun _ => ⟨b, 0, rfl, (Array.getElem?_eq_some_iff.1 h).1, fun j u hu => ?_⟩⟩, fun i u p hu hp => ?_⟩, rdSS_nil w⟩
  · rw [cell_of_row _ b (0 + j) _ _ (0, 0) h]
    match j, hu with
    | 0, hu => simpa [cO, uCells] using hu
    | 1, hu => simpa [cO, uCells] using hu
    | 2, hu => simpa [cO, uCells] using hu
    | 3, hu => simpa [cO, uCells] using hu
  · match i, hu, hp with
    | 0, hu, hp => simp [cO] at hu hp; subst hu; subst hp; exact rdI_at w b1 1 h1
    | 1, hu, hp => simp [cO] at hu hp; subst hu; subst hp; exact rdI_at w b2 1 h2
theorem rdU_t (w : World) (b b1 b2 b3 : Nat) (h : w.heap[b]? = some (.cells #[.string ⟨#[116]⟩, .slice (some ⟨b1, 0, none⟩) 1 1, .string ⟨#[104]⟩, .slice (some ⟨b2, 0, none⟩) 1 1, .string ⟨#[116, 104]⟩, .slice (some ⟨b3, 0, none⟩) 1 1] 49 (0, 0)))
    (h1 : w.heap[b1]? = some (.cells #[.int .i64 1] 3 (0, 0))) (h2 : w.heap[b2]? = some (.cells #[.int .i64 2] 3 (0, 0))) (h3 : w.heap[b3]? = some (.cells #[.int .i64 3] 3 (0, 0))) : RdO w (.agg #[.string ⟨#[116]⟩, .slice (some ⟨b, 0, none⟩) 3 3, .slice none 0 0]) tO := by
  refine ⟨_, _, rfl, ⟨[.slice (some ⟨b1, 0, none⟩) 1 1, .slice (some ⟨b2, 0, none⟩) 1 1, .slice (some ⟨b3, 0, none⟩) 1 1], rfl, ⟨_, 3, rfl, Nat.le_refl _, by decide, rfl, fun _ => ⟨b, 0, rfl, (Array.getElem?_eq_some_iff.1 h).1, fun j u hu => ?_⟩⟩, fun i u p hu hp => ?_⟩, rdSS_nil w⟩
  · rw [cell_of_row _ b (0 + j) _ _ (0, 0) h]
    match j, hu with
    | 0, hu => simpa [tO, uCells] using hu
    | 1, hu => simpa [tO, uCells] using hu
    | 2, hu => simpa [tO, uCells] using hu
    | 3, hu => simpa [tO, uCells] using hu
    | 4, hu => simpa [tO, uCells] using hu
    | 5, hu => simpa [tO, uCells] using hu
  · match i, hu, hp with
    | 0, hu, hp => simp [tO] at hu hp; subst hu; subst hp; exact rdI_at w b1 1 h1
    | 1, hu, hp => simp [tO] at hu hp; subst hu; subst hp; exact rdI_at w b2 2 h2
    | 2, hu, hp => simp [tO] at hu hp; subst hu; subst hp; exact rdI_at w b3 3 h3
theorem resC (M : List Bool) (h : GoodR cO.units [1] M) : (sortT ((etab cO.units [1] (fun i => M.getD i false) ([1] : List Int).length).getD 0 [])).take 9 = [⟨#[99]⟩, ⟨#[107]⟩] := by
  rw [etab_congr cO.units [1] _ (fun _ => true) (fun i hi => by
    obtain rfl : i = 0 := by simp at hi; omega
    exact h.zero) _ (Nat.le_refl _)]
  rw [show (etab cO.units [1] (fun _ => true) ([1] : List Int).length).getD 0 [] = _ from ev11, sortT_id]
  · rfl
  · simp only [List.map_cons, List.map_nil, List.pairwise_cons, List.mem_singleton, forall_eq, List.not_mem_nil, false_implies, implies_true, List.Pairwise.nil, and_true]
    decide
theorem resT (M : List Bool) (w1 w2 : Int) (u : PU) (hu : u ∈ tO.units) (hl : u.s.length = 1) (hp : preR [w1, w2] u.s = true) (h : GoodR tO.units [w1, w2] M) : etab tO.units [w1, w2] (fun i => M.getD i false) 2 = etab tO.units [w1, w2] (fun _ => true) 2 := by
  refine etab_congr tO.units [w1, w2] _ (fun _ => true) (fun i hi => ?_) 2 (Nat.le_refl _)
  match i, hi with
  | 0, _ => exact h.zero
  | 1, _ =>
    have := h.hands 0 u (by simp) hu h.zero hp
    rw [hl] at this
    exact this
theorem resT12 (M : List Bool) (h : GoodR tO.units [1, 2] M) : (sortT ((etab tO.units [1, 2] (fun i => M.getD i false) [(1 : Int), 2].length).getD 0 [])).take 9 = [] := by
  rw [show etab tO.units [1, 2] (fun i => M.getD i false) [(1 : Int), 2].length = _ from resT M 1 2 ⟨⟨#[116]⟩, [1]⟩ (by simp [tO]) rfl (by kernel_rfl) h, ev12]
  simp [sortT]
theorem resT21 (M : List Bool) (h : GoodR tO.units [2, 1] M) : (sortT ((etab tO.units [2, 1] (fun i => M.getD i false) [(2 : Int), 1].length).getD 0 [])).take 9 = [⟨#[104, 116]⟩] := by
  rw [show etab tO.units [2, 1] (fun i => M.getD i false) [(2 : Int), 1].length = _ from resT M 2 1 ⟨⟨#[104]⟩, [2]⟩ (by simp [tO]) rfl (by kernel_rfl) h, ev13, sortT_id]
  · rfl
  · simp
set_option maxHeartbeats 8000000 in
set_option maxRecDepth 100000 in
theorem awake_any (w : World) : Calls Try.prog 10 #[] w fun e w' => e = .returned (.bool true) ∧ Below w.heap.size w w' := by
  go_enter Try.func10, Try.ntmps10
  go_upto_region 3 with (fail)
  generalize hW : World.alloc (World.alloc (World.alloc (World.alloc (World.alloc (World.alloc (World.alloc (World.alloc (World.alloc w _) _) _) _) _) _) _) _) _ = W
  have HBW : Hid (Below w.heap.size w W) := by rw [← hW]; repeat (first | assumption | exact Below.refl _ _ | refine Below.alloc ?_ (by first | omega | (simp; done) | (simp; omega)) _ | refine Below.drew ?_ | refine below_drewN ?_ _ | refine Below.setCell ?_ (by first | omega | (simp; done) | (simp; omega)) _)
  obtain ⟨h0, hh0⟩ : ∃ h0, w.heap.size = h0 := ⟨_, rfl⟩
  rw [hh0] at hW HBW ⊢
  have k0 : W.heap[h0]? = some (.cells #[.int .i64 1] 3 (0, 0)) := by rw [← hW]; (repeat (first | exact heap_new' _ _ _ (by first | omega | rfl | (simp; done) | (simp; omega)) | refine (Below.heap_alloc _ _ _ (by first | omega | (simp; done) | (simp; omega))).trans ?_))
  have k1 : W.heap[h0 + 1]? = some (.cells #[.int .i64 1] 3 (0, 0)) := by rw [← hW]; (repeat (first | exact heap_new' _ _ _ (by first | omega | rfl | (simp; done) | (simp; omega)) | refine (Below.heap_alloc _ _ _ (by first | omega | (simp; done) | (simp; omega))).trans ?_))
  have k2 : W.heap[h0 + 1 + 1]? = some (.cells #[.string ⟨#[99]⟩, .slice (some ⟨h0, 0, none⟩) 1 1, .string ⟨#[107]⟩, .slice (some ⟨h0 + 1, 0, none⟩) 1 1] 49 (0, 0)) := by rw [← hW]; (repeat (first | exact heap_new' _ _ _ (by first | omega | rfl | (simp; done) | (simp; omega)) | refine (Below.heap_alloc _ _ _ (by first | omega | (simp; done) | (simp; omega))).trans ?_))
  have k3 : W.heap[h0 + 1 + 1 + 1]? = some (.cells #[.string ⟨#[99]⟩, .slice (some ⟨h0 + 1 + 1, 0, none⟩) 2 2, .slice none 0 0] 28 (0, 0)) := by rw [← hW]; (repeat (first | exact heap_new' _ _ _ (by first | omega | rfl | (simp; done) | (simp; omega)) | refine (Below.heap_alloc _ _ _ (by first | omega | (simp; done) | (simp; omega))).trans ?_))
  have k4 : W.heap[h0 + 1 + 1 + 1 + 1]? = some (.cells #[.int .i64 1] 3 (0, 0)) := by rw [← hW]; (repeat (first | exact heap_new' _ _ _ (by first | omega | rfl | (simp; done) | (simp; omega)) | refine (Below.heap_alloc _ _ _ (by first | omega | (simp; done) | (simp; omega))).trans ?_))
  have k5 : W.heap[h0 + 1 + 1 + 1 + 1 + 1]? = some (.cells #[.int .i64 2] 3 (0, 0)) := by rw [← hW]; (repeat (first | exact heap_new' _ _ _ (by first | omega | rfl | (simp; done) | (simp; omega)) | refine (Below.heap_alloc _ _ _ (by first | omega | (simp; done) | (simp; omega))).trans ?_))
  have k6 : W.heap[h0 + 1 + 1 + 1 + 1 + 1 + 1]? = some (.cells #[.int .i64 3] 3 (0, 0)) := by rw [← hW]; (repeat (first | exact heap_new' _ _ _ (by first | omega | rfl | (simp; done) | (simp; omega)) | refine (Below.heap_alloc _ _ _ (by first | omega | (simp; done) | (simp; omega))).trans ?_))
  have k7 : W.heap[h0 + 1 + 1 + 1 + 1 + 1 + 1 + 1]? = some (.cells #[.string ⟨#[116]⟩, .slice (some ⟨h0 + 1 + 1 + 1 + 1, 0, none⟩) 1 1, .string ⟨#[104]⟩, .slice (some ⟨h0 + 1 + 1 + 1 + 1 + 1, 0, none⟩) 1 1, .string ⟨#[116, 104]⟩, .slice (some ⟨h0 + 1 + 1 + 1 + 1 + 1 + 1, 0, none⟩) 1 1] 49 (0, 0)) := by rw [← hW]; (repeat (first | exact heap_new' _ _ _ (by first | omega | rfl | (simp; done) | (simp; omega)) | refine (Below.heap_alloc _ _ _ (by first | omega | (simp; done) | (simp; omega))).trans ?_))
  have k8 : W.heap[h0 + 1 + 1 + 1 + 1 + 1 + 1 + 1 + 1]? = some (.cells #[.string ⟨#[116]⟩, .slice (some ⟨h0 + 1 + 1 + 1 + 1 + 1 + 1 + 1, 0, none⟩) 3 3, .slice none 0 0] 28 (0, 0)) := by rw [← hW]; (repeat (first | exact heap_new' _ _ _ (by first | omega | rfl | (simp; done) | (simp; omega)) | refine (Below.heap_alloc _ _ _ (by first | omega | (simp; done) | (simp; omega))).trans ?_))
  have HVC : Hid (∀ W', Below W.heap.size W W' → RdO W' _ cO) := fun W' h => (rdU_c W _ _ _ k2 k0 k1).below h
  have HVT : Hid (∀ W', Below W.heap.size W W' → RdO W' _ tO) := fun W' h => (rdU_t W _ _ _ _ k7 k4 k5 k6).below h
  have hl3 := (Array.getElem?_eq_some_iff.1 k3).1
  have hl8 := (Array.getElem?_eq_some_iff.1 k8).1
  have x0 : W.cell? ⟨h0 + 1 + 1 + 1, 0, none⟩ = some (.string ⟨#[99]⟩) := cell_of_row W _ 0 _ _ (0, 0) k3
  have x1 : W.cell? ⟨h0 + 1 + 1 + 1, 1, none⟩ = some (.slice (some ⟨h0 + 1 + 1, 0, none⟩) 2 2) := cell_of_row W _ 1 _ _ (0, 0) k3
  have x2 : W.cell? ⟨h0 + 1 + 1 + 1, 2, none⟩ = some (.slice none 0 0) := cell_of_row W _ 2 _ _ (0, 0) k3
  have y0 : W.cell? ⟨h0 + 1 + 1 + 1 + 1 + 1 + 1 + 1 + 1, 0, none⟩ = some (.string ⟨#[116]⟩) := cell_of_row W _ 0 _ _ (0, 0) k8
  have y1 : W.cell? ⟨h0 + 1 + 1 + 1 + 1 + 1 + 1 + 1 + 1, 1, none⟩ = some (.slice (some ⟨h0 + 1 + 1 + 1 + 1 + 1 + 1 + 1, 0, none⟩) 3 3) := cell_of_row W _ 1 _ _ (0, 0) k8
  have y2 : W.cell? ⟨h0 + 1 + 1 + 1 + 1 + 1 + 1 + 1 + 1, 2, none⟩ = some (.slice none 0 0) := cell_of_row W _ 2 _ _ (0, 0) k8
  have HZ : Hid (∀ W' : World, Below W.heap.size W W' → (W'.cell? ⟨h0 + 1 + 1 + 1, 0, none⟩ = some (.string ⟨#[99]⟩) ∧ W'.cell? ⟨h0 + 1 + 1 + 1, 1, none⟩ = some (.slice (some ⟨h0 + 1 + 1, 0, none⟩) 2 2) ∧ W'.cell? ⟨h0 + 1 + 1 + 1, 2, none⟩ = some (.slice none 0 0)) ∧ W'.cell? ⟨h0 + 1 + 1 + 1 + 1 + 1 + 1 + 1 + 1, 0, none⟩ = some (.string ⟨#[116]⟩) ∧ W'.cell? ⟨h0 + 1 + 1 + 1 + 1 + 1 + 1 + 1 + 1, 1, none⟩ = some (.slice (some ⟨h0 + 1 + 1 + 1 + 1 + 1 + 1 + 1, 0, none⟩) 3 3) ∧ W'.cell? ⟨h0 + 1 + 1 + 1 + 1 + 1 + 1 + 1 + 1, 2, none⟩ = some (.slice none 0 0)) := fun W' h => ⟨⟨cell_keep hl3 x0 h, cell_keep hl3 x1 h, cell_keep hl3 x2 h⟩, cell_keep hl8 y0 h, cell_keep hl8 y1 h, cell_keep hl8 y2 h⟩
  clear hW k0 k1 k2 k3 k4 k5 k6 k7 k8 hl3 hl8
  go_wp2_with fail
  refine (normal_any _ cO ⟨#[107]⟩ _ (HVC.out _ (Below.refl _ _)) cSm cGood (le_of_dec (by kernel_rfl))).mono ?_
  rintro e w1 ⟨he, hb⟩
  rw [ev1] at he
  have he : e = .returned (.tuple #[.string ⟨#[99]⟩, .int .i64 0, .int .i64 0]) := he
  subst he
  have HB1 := Lib.hid hb
  clear hb x0 x1 x2 y0 y1 y2
  obtain ⟨⟨x0, x1, x2⟩, y0, y1, y2⟩ := HZ.out w1 HB1.out
  go_wp2_with fail
  refine (convert_any _ _ cO tO ⟨#[107, 99]⟩ _ (HVC.out _ HB1.out) (HVT.out _ HB1.out) cSm tSm cGood tGood (le_of_dec (by kernel_rfl))).mono ?_
  rintro e w2 ⟨he, hb⟩
  rw [ev2] at he
  have he : e = .returned (.tuple #[.string ⟨#[116, 116]⟩, .int .i64 0, .int .i64 0]) := he
  subst he
  have HB2 := Lib.hid (bchain HB1.out hb)
  clear hb x0 x1 x2 y0 y1 y2
  obtain ⟨⟨x0, x1, x2⟩, y0, y1, y2⟩ := HZ.out w2 HB2.out
  go_wp2_with fail
  refine (convert_any _ _ tO cO ⟨#[116, 116, 104]⟩ _ (HVT.out _ HB2.out) (HVC.out _ HB2.out) tSm cSm tGood cGood (le_of_dec (by kernel_rfl))).mono ?_
  rintro e w3 ⟨he, hb⟩
  rw [ev3] at he
  have he : e = .returned (.tuple #[.string ByteArray.empty, .int .i64 1, .int .i64 20]) := he
  subst he
  have HB3 := Lib.hid (bchain HB2.out hb)
  clear hb x0 x1 x2 y0 y1 y2
  obtain ⟨⟨x0, x1, x2⟩, y0, y1, y2⟩ := HZ.out w3 HB3.out
  go_wp2_with fail
  refine (same_any _ _ cO tO ⟨#[107]⟩ ⟨#[116]⟩ _ (HVC.out _ HB3.out) (HVT.out _ HB3.out) cSm tSm cGood tGood (le_of_dec (by kernel_rfl)) (le_of_dec (by kernel_rfl))).mono ?_
  rw [ev4]
  rintro e w4 ⟨rfl, hb⟩
  have HB4 := Lib.hid (bchain HB3.out hb)
  clear hb x0 x1 x2 y0 y1 y2
  obtain ⟨⟨x0, x1, x2⟩, y0, y1, y2⟩ := HZ.out w4 HB4.out
  go_wp2_with fail
  refine (same_any _ _ cO tO ⟨#[107]⟩ ⟨#[104]⟩ _ (HVC.out _ HB4.out) (HVT.out _ HB4.out) cSm tSm cGood tGood (le_of_dec (by kernel_rfl)) (le_of_dec (by kernel_rfl))).mono ?_
  rw [ev5]
  rintro e w5 ⟨rfl, hb⟩
  have HB5 := Lib.hid (bchain HB4.out hb)
  clear hb x0 x1 x2 y0 y1 y2
  obtain ⟨⟨x0, x1, x2⟩, y0, y1, y2⟩ := HZ.out w5 HB5.out
  go_wp2_with fail
  have HAa : Hid (Below w5.heap.size w5 (w5.alloc (.cells #[.int .i64 1] 3))) := (Below.refl _ _).alloc (Nat.le_refl _) _
  have HBAa : Hid (Below W.heap.size W (w5.alloc (.cells #[.int .i64 1] 3))) := bchain HB5.out HAa.out
  refine (spellings_any _ _ cO [1] 9 _ (HVC.out _ HBAa.out) cSm cGood (rdI_new1 _ _) (by decide) (by decide) (by decide) (by decide) (fine_of cGood cOwn (by show (capT cO.units [1] 1).getD 0 0 ≤ 500; rw [ev8]; decide))).mono ?_
  rintro e w6 ⟨⟨v6, M, rfl, hgr, hrd⟩, hb⟩
  rw [resC M hgr] at hrd
  obtain ⟨A6, n6, c6, rfl, _, _, HN6, _⟩ := hrd.op
  have HRD6 := Lib.hid hrd
  have HB6 := Lib.hid (bchain HBAa.out hb)
  clear hb hrd hgr x0 x1 x2 y0 y1 y2
  obtain ⟨⟨x0, x1, x2⟩, y0, y1, y2⟩ := HZ.out w6 HB6.out
  go_wp2_with fail
  have HS7 : Hid (Below w6.heap.size w6 (w6.alloc (.cells #[.string ⟨#[99]⟩, .string ⟨#[107]⟩] 9))) := (Below.refl _ _).alloc (Nat.le_refl _) _
  refine (tsame_any _ _ [⟨#[99]⟩, ⟨#[107]⟩] [⟨#[99]⟩, ⟨#[107]⟩] _ (HRD6.out.below HS7.out) (rdS_new2 _ _ _)).mono ?_
  rw [(sameT_iff [⟨#[99]⟩, ⟨#[107]⟩] [⟨#[99]⟩, ⟨#[107]⟩]).2 rfl]
  rintro e wz ⟨rfl, nq, rfl⟩
  have HB7' : Hid (Below W.heap.size W ((w6.alloc (.cells #[.string ⟨#[99]⟩, .string ⟨#[107]⟩] 9)).drewN nq)) := below_drewN (bchain HB6.out HS7.out) _
  generalize World.drewN _ nq = w7 at HB7' ⊢
  have HB7 := HB7'
  clear x0 x1 x2 y0 y1 y2
  obtain ⟨⟨x0, x1, x2⟩, y0, y1, y2⟩ := HZ.out w7 HB7.out
  go_wp2_with fail
  have HAb : Hid (Below w7.heap.size w7 (w7.alloc (.cells #[.int .i64 1, .int .i64 2] 3))) := (Below.refl _ _).alloc (Nat.le_refl _) _
  have HBAb : Hid (Below W.heap.size W (w7.alloc (.cells #[.int .i64 1, .int .i64 2] 3))) := bchain HB7.out HAb.out
  refine (spellings_any _ _ tO [1, 2] 9 _ (HVT.out _ HBAb.out) tSm tGood (rdI_new2 _ _ _) (by decide) (by decide) (by decide) (by decide) (fine_of tGood tOwn (by show (capT tO.units [1, 2] 2).getD 0 0 ≤ 500; rw [ev9]; decide))).mono ?_
  rintro e w8 ⟨⟨v8, M, rfl, hgr, hrd⟩, hb⟩
  rw [resT12 M hgr] at hrd
  obtain ⟨A8, n8, c8, rfl, _, _, HN8, _⟩ := hrd.op
  have HRD8 := Lib.hid hrd
  have HB8 := Lib.hid (bchain HBAb.out hb)
  clear hb hrd hgr x0 x1 x2 y0 y1 y2
  obtain ⟨⟨x0, x1, x2⟩, y0, y1, y2⟩ := HZ.out w8 HB8.out
  obtain rfl : n8 = 0 := HN8.out.symm
  go_wp2_with fail
  have HAc : Hid (Below w8.heap.size w8 (w8.alloc (.cells #[.int .i64 2, .int .i64 1] 3))) := (Below.refl _ _).alloc (Nat.le_refl _) _
  have HBAc : Hid (Below W.heap.size W (w8.alloc (.cells #[.int .i64 2, .int .i64 1] 3))) := bchain HB8.out HAc.out
  refine (spellings_any _ _ tO [2, 1] 9 _ (HVT.out _ HBAc.out) tSm tGood (rdI_new2 _ _ _) (by decide) (by decide) (by decide) (by decide) (fine_of tGood tOwn (by show (capT tO.units [2, 1] 2).getD 0 0 ≤ 500; rw [ev10]; decide))).mono ?_
  rintro e w9 ⟨⟨v9, M, rfl, hgr, hrd⟩, hb⟩
  rw [resT21 M hgr] at hrd
  obtain ⟨A9, n9, c9, rfl, _, _, HN9, _⟩ := hrd.op
  have HRD9 := Lib.hid hrd
  have HB9 := Lib.hid (bchain HBAc.out hb)
  clear hb hrd hgr x0 x1 x2 y0 y1 y2
  obtain ⟨⟨x0, x1, x2⟩, y0, y1, y2⟩ := HZ.out w9 HB9.out
  go_wp2_with fail
  have HS10 : Hid (Below w9.heap.size w9 (w9.alloc (.cells #[.string ⟨#[104, 116]⟩] 9))) := (Below.refl _ _).alloc (Nat.le_refl _) _
  refine (tsame_any _ _ [⟨#[104, 116]⟩] [⟨#[104, 116]⟩] _ (HRD9.out.below HS10.out) (rdS_new1 _ _)).mono ?_
  rw [(sameT_iff [⟨#[104, 116]⟩] [⟨#[104, 116]⟩]).2 rfl]
  rintro e wz ⟨rfl, nq, rfl⟩
  have HB10' : Hid (Below W.heap.size W ((w9.alloc (.cells #[.string ⟨#[104, 116]⟩] 9)).drewN nq)) := below_drewN (bchain HB9.out HS10.out) _
  generalize World.drewN _ nq = w10 at HB10' ⊢
  have HB10 := HB10'
  clear x0 x1 x2 y0 y1 y2
  obtain ⟨⟨x0, x1, x2⟩, y0, y1, y2⟩ := HZ.out w10 HB10.out
  go_wp2_with fail
  refine (faithful_any _ cO ⟨#[99]⟩ _ (HVC.out _ HB10.out) cSm cGood (le_of_dec (by kernel_rfl))).mono ?_
  rw [ev6]
  rintro e w11 ⟨rfl, hb⟩
  have HB11 := Lib.hid (bchain HB10.out hb)
  clear hb x0 x1 x2 y0 y1 y2
  obtain ⟨⟨x0, x1, x2⟩, y0, y1, y2⟩ := HZ.out w11 HB11.out
  go_wp2_with fail
  refine (faithful_any _ cO ⟨#[107]⟩ _ (HVC.out _ HB11.out) cSm cGood (le_of_dec (by kernel_rfl))).mono ?_
  rw [ev7]
  rintro e w12 ⟨rfl, hb⟩
  have HB12 := Lib.hid (bchain HB11.out hb)
  clear hb x0 x1 x2 y0 y1 y2
  go_wp2_with fail
  go_ret
  exact ⟨rfl, by rw [hh0]; exact HBW.out.trans (HB12.out.mono (by have := HBW.out.size; rw [hh0] at this; exact this))⟩
end Go.Proofs.Ytokbclpdpegicaa
