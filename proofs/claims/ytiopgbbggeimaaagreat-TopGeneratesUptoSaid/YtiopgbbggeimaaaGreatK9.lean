/-
  The reference of relations: Inverse, find, has, in, Reach, Check; each returns.
-/
import Derived.Test.YtiopgbbggeimaaaGreatK8
namespace Go.Proofs.YtiopgbbggeimaaaGreat
open Go.ChangeShapes Go.WideShapes Go.ChangeAt Go.RowKit
def IntQ (e : Ending) : Prop := ∃ x : Int, e = .returned (.int .i64 x)
theorem inv_any (k : Int) (w : World) : Calls Tryz.prog 71 #[.int .i64 k] w fun e w' => IntQ e ∧ w = w' := by
  go_enter Tryz.func71, Tryz.ntmps71
  cases h0 : (k == 0)
  rotate_left
  · go_wp2_with fail
    go_ret
    exact ⟨⟨_, rfl⟩, rfl⟩
  cases h1 : (k == 1)
  rotate_left
  · go_wp2_with fail
    go_ret
    exact ⟨⟨_, rfl⟩, rfl⟩
  cases h2 : (k == 2)
  rotate_left
  · go_wp2_with fail
    go_ret
    exact ⟨⟨_, rfl⟩, rfl⟩
  cases h3 : (k == 3)
  rotate_left
  · go_wp2_with fail
    go_ret
    exact ⟨⟨_, rfl⟩, rfl⟩
  cases h4 : (k == 4)
  rotate_left
  · go_wp2_with fail
    go_ret
    exact ⟨⟨_, rfl⟩, rfl⟩
  cases h5 : (k == 5)
  rotate_left
  · go_wp2_with fail
    go_ret
    exact ⟨⟨_, rfl⟩, rfl⟩
  go_wp2_with fail
  go_ret
  exact ⟨⟨_, rfl⟩, rfl⟩
set_option maxHeartbeats 1000000 in
theorem find26_any (v : Value) (L : List EV) (id : Int) (w : World) (hv : RdV w v L) :
    Calls Tryz.prog 72 #[v, .int .i64 id] w fun e' w' => e' = .returned (.int .i64 (idxI L id)) ∧ w = w' := by
  obtain ⟨A, n, c, rfl, h1, h2, HN, HR⟩ := hv.op
  clear hv
  go_enter Tryz.func72, Tryz.ntmps72
  go_wp2_with fail
  go_loop [5] (fun i => ∃ k : Nat, k ≤ n ∧ i = .int .i64 k ∧ Hid (idxE id 0 L = idxE id k (L.drop k))) (fun i => n - (intOf i).toNat)
  case atStart => exact ⟨0, Nat.zero_le _, rfl, rfl⟩
  case round =>
    obtain ⟨k, hk, rfl, HP⟩ := hrel
    by_cases hlt : k < n
    · obtain ⟨b, off, e, rfl, hb, hd, c0, c1, c2, c3, c4, c5, c6, c7⟩ := HR.out k hlt
      have HP2 : Hid (idxE id 0 L = if e.id = id then some k else idxE id (k + 1) (L.drop (k + 1))) := by rw [Hid, HP.out, hd.out]; rfl
      cases hid : (e.id == id)
      · have HP3 : Hid (idxE id 0 L = idxE id (k + 1) (L.drop (k + 1))) := by rw [Hid, HP2.out, if_neg (by simpa using hid)]
        go_wp2_with fail
        go_round
        case rel => exact ⟨k + 1, by omega, by go_num, HP3.out⟩
        case measure => simp [intOf]; omega
      · have HP3 : Hid (idxE id 0 L = some k) := by rw [Hid, HP2.out, if_pos (by simpa using hid)]
        go_wp2_with fail
        go_ret
        exact ⟨by rw [idxI, HP3.out]; rfl, rfl⟩
    · have HP3 : Hid (idxE id 0 L = none) := by rw [Hid, HP.out, List.drop_of_length_le (by rw [HN.out]; omega)]; rfl
      go_wp2_with fail
      go_ret
      exact ⟨by rw [idxI, HP3.out]; rfl, rfl⟩
set_option maxHeartbeats 1000000 in
theorem in26_any (v : Value) (l : List Int) (x : Int) (w : World) (hv : RdI w v l) :
    Calls Tryz.prog 74 #[v, .int .i64 x] w fun e' w' => RetB AnyB e' ∧ Below w.heap.size w w' := by
  obtain ⟨A, n, c, rfl, h1, h2, HN, HR⟩ := hv.op
  clear hv
  go_enter Tryz.func74, Tryz.ntmps74
  go_wp2_with fail
  go_loop [5] (fun i => ∃ k : Nat, k ≤ n ∧ i = .int .i64 k) (fun i => n - (intOf i).toNat)
  case atStart => exact ⟨0, Nat.zero_le _, rfl⟩
  case round =>
    obtain ⟨k, hk, rfl⟩ := hrel
    by_cases hlt : k < n
    · obtain ⟨b, off, y, rfl, hb, hd, c0⟩ := HR.out k hlt
      cases hid : (y == x)
      · go_wp2_with fail
        go_round
        case rel => exact ⟨k + 1, by omega, by go_num⟩
        case measure => simp [intOf]; omega
      · go_wp2_with fail
        go_ret
        exact ⟨RetB.mk trivial, Below.refl _ _⟩
    · go_wp2_with fail
      go_ret
      exact ⟨RetB.mk trivial, Below.refl _ _⟩
theorem fieldsLk : Tryz.prog.underlying 134 = some (.struct (Tryz.prog.fieldsOf 134)) := by kernel_rfl
set_option maxRecDepth 10000 in
theorem eqLk (w : World) (a b c d : Int) : (binOp .eql 134 (.agg #[.int .i64 a, .int .i64 b]) (.agg #[.int .i64 c, .int .i64 d])).run Tryz.prog w = .ok (.bool (a == c && b == d)) w := by
  rw [run_eql_struct, run_equalIn_agg w 9999 _ _ _ fieldsLk (by kernel_rfl)]
  have hf : (Tryz.prog.fieldsOf 134).toList = (match Tryz.prog.underlying 134 with | some (.struct fs) => fs | _ => #[]).toList := rfl
  rw [hf, Tryz.underlying134]
  simp only [Op.eqFields]
  by_cases h0 : a = c <;> by_cases h1 : b = d <;> simp_all [go_sem, Tryz.underlying3]
set_option maxHeartbeats 4000000 in
set_option maxRecDepth 100000 in
theorem has26_any (e : EV) (p : PE) (x y : Int) (w : World) (he : DpE w e p) :
    Calls Tryz.prog 73 #[.agg #[.int .i64 e.id, .slice e.f.A e.f.n e.f.c, .int .i64 e.cls, .slice e.a.A e.a.n e.a.c, .int .i64 e.main, .slice e.s.A e.s.n e.s.c, .slice e.l.A e.l.n e.l.c, .slice e.r.A e.r.n e.r.c], .agg #[.int .i64 x, .int .i64 y]] w fun e' w' => RetB AnyB e' ∧ Below w.heap.size w w' := by
  have HE := Lib.hid he
  clear he
  go_enter Tryz.func73, Tryz.ntmps73
  go_upto_region 1 with (fail)
  generalize hW : World.alloc (World.alloc w _) _ = W
  have HBW : Hid (Below w.heap.size w W) := by rw [← hW]; exact bchain (al_below _ _) (al_below _ _)
  have HQ : Hid (EBlk W w.heap.size e) := by rw [← hW]; exact EBlk.below (heap_alloc_new w _) (al_below _ _)
  have HP : Hid (LkBlk W (w.heap.size + 1) 134 x y) := by
    have h := heap_alloc_new (w.alloc (.cells #[.int .i64 e.id, .slice e.f.A e.f.n e.f.c, .int .i64 e.cls, .slice e.a.A e.a.n e.a.c, .int .i64 e.main, .slice e.s.A e.s.n e.s.c, .slice e.l.A e.l.n e.l.c, .slice e.r.A e.r.n e.r.c] 85)) (.cells #[.int .i64 x, .int .i64 y] 134)
    rw [World.size_alloc] at h
    rw [← hW]; exact h
  clear hW
  obtain ⟨_, _, _, h0, _, hcm, HN, HR⟩ := (HE.out.l.below HBW.out).op
  cases h0
  go_wp2_with fail
  go_loopw [5] (fun vi wr => ∃ k : Nat, k ≤ e.l.n ∧ vi = .int .i64 k ∧ Hid (Below W.heap.size W wr)) (fun vi _ => e.l.n - (intOf vi).toNat)
  case atStart => exact ⟨0, Nat.zero_le _, rfl, Below.refl _ _⟩
  case round =>
    obtain ⟨k, hk, rfl, HBR⟩ := hrel
    obtain ⟨z0, z1, z2, z3, z4, z5, z6, z7, zl⟩ := (HQ.out.below HBR.out).facts
    obtain ⟨t0, t1, tl⟩ := (HP.out.below HBR.out).facts
    by_cases hlt : k < e.l.n
    · obtain ⟨b, off, q, hA, hbl, hdl, c0, c1⟩ := (HR.out k hlt).below HBR.out
      have hk0 : (0 : Int) ≤ (k : Int) := by omega
      have HZA := Lib.hid hA
      rw [hA] at z6
      clear hA
      have heq := fun W => eqLk W q.x q.y x y
      have hgd := fun (W : World) x y xs ys => run_eqGuard_agg (P := Tryz.prog) W .eql 134 x y xs ys (by kernel_rfl)
      generalize (q.x == x && q.y == y) = bb at heq
      cases bb
      · go_wp2_with fail
        go_quiet (fail)
        clear heq hgd
        go_wp2_with fail
        go_roundw
        case rel => exact ⟨k + 1, by omega, by go_num, by rw [Hid]; have := HBR.out; repeat (first | assumption | exact Below.refl _ _ | refine Below.alloc ?_ (by first | omega | (simp; done) | (simp; omega)) _ | refine Below.drew ?_ | refine below_drewN ?_ _ | refine Below.setCell ?_ (by first | omega | (simp; done) | (simp; omega)) _)⟩
        case measure => simp [intOf]; omega
      · go_wp2_with fail
        go_quiet (fail)
        clear heq hgd
        go_wp2_with fail
        go_ret
        exact ⟨RetB.mk trivial, by have := bchain HBW.out HBR.out; repeat (first | assumption | exact Below.refl _ _ | refine Below.alloc ?_ (by first | omega | (simp; done) | (simp; omega)) _ | refine Below.drew ?_ | refine below_drewN ?_ _ | refine Below.setCell ?_ (by first | omega | (simp; done) | (simp; omega)) _)⟩
    · go_wp2_with fail
      go_ret
      exact ⟨RetB.mk trivial, bchain HBW.out HBR.out⟩
end Go.Proofs.YtiopgbbggeimaaaGreat
