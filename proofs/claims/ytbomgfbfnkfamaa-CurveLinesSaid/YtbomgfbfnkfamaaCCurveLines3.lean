/- What the functions of the claim compute, and that it is as the claim says: part 4 of 6. -/
import Derived.Test.YtbomgfbfnkfamaaCCurveLines2
section
namespace Go.Proofs.Ytbomgfbfnkfamaa.PAll
open Go.RowKit Go.Proofs.YtbomgfbfnkfamaaW.PrintWords Go.Proofs.YtbomgfbfnkfamaaW.PrintLast Go.Proofs.YtbomgfbfnkfamaaW.PrintMore
attribute [local go_sem] max2_int min2_int max_two min_two max_three min_three max_four min_four   -- for this text's walks alone
set_option linter.unusedVariables false
set_option linter.unusedSimpArgs false

/-! ### thermionkit_WithinLaw: function 28 -/
/-- A range within another one, of the next numbers. -/
def withinR (s lo hi : Int) (ex : Bool) : Option (Int × Int × Int) :=
  (thermionkit_Dice_Between.f s lo (mx lo hi)).bind fun a => (thermionkit_Dice_Between.f a.2 lo (mx lo hi)).bind fun b => some (if ex = true then (a.1, a.1, b.2) else (mn a.1 b.1, mx a.1 b.1, b.2))
def thermionkit_WithinLaw.f (s0_0 : Int) (a1_0 : Int) (a1_1 : Int) (a1_2 : Int) (a1_3 : Int) (a1_4 : Int) (a1_5 : Int) (a1_6 : Int) (a1_7 : Int) (a1_8 : Int) (a1_9 : Int) (a2 : Bool) : Option (Int × Int × Int × Int × Int × Int × Int × Int × Int × Int × Int) :=
  (withinR s0_0 a1_0 a1_1 a2).bind fun p => (withinR p.2.2 a1_2 a1_3 a2).bind fun g => (withinR g.2.2 a1_4 a1_5 a2).bind fun s => (withinR s.2.2 a1_6 a1_7 a2).bind fun f => (withinR f.2.2 a1_8 a1_9 a2).bind fun q => some (p.1, p.2.1, g.1, g.2.1, s.1, s.2.1, f.1, f.2.1, q.1, q.2.1, q.2.2)
theorem dice_In_calls (g : Nat) (s lo hi v s2 : Int) (w0 w : World) (hI : IsS83 w0 w g s) (hB : Below w0.heap.size w0 w) (h : thermionkit_Dice_Between.f s lo (mx lo hi) = some (v, s2)) :
    Calls Try.prog 82 #[.pointer (some ⟨g, 0, none⟩), .agg #[.int .i64 lo, .int .i64 hi]] w fun e w' => e = .returned (.int .i64 v) ∧ IsS83 w0 w' g s2 ∧ Below w0.heap.size w0 w' ∧ KeepBut w w' g none := by
  have HI := Aside0.mk hI
  have HB := Aside0.mk hB
  obtain ⟨m, hm⟩ : ∃ m, mx lo hi = m := ⟨_, rfl⟩
  rw [hm] at h
  have hm' : (if lo < hi then hi else lo) = m := hm
  have HX := Aside0.mk h
  clear hI hB h hm
  go_enter Try.func82, Try.ntmps82
  go_wp2_with (go_at_call 20; go_loud (refine (thermionkit_Dice_Between.calls g s lo m v s2 w0 (w.alloc (Obj.cells #[Value.int IntKind.i64 lo, Value.int IntKind.i64 hi] 35)) (IsS83.alloc HI.out _) (below_alloc HB.out _) HX.out).mono ?_); rintro e w3 ⟨rfl, hI3, hB3, hK3⟩)
  go_ret
  exact ⟨rfl, hI3, hB3, (keep_alloc (KeepBut.refl w g none) _).trans hK3 (.inl rfl)⟩
set_option maxHeartbeats 8000000 in
set_option maxRecDepth 100000 in
theorem withinR_calls (g gd ge : Nat) (s lo hi : Int) (ex : Bool) (r1 r2 s2 : Int) (w0 w : World) (hI : IsS83 w0 w g s) (hB : Below w0.heap.size w0 w)
    (hd : w.cell? ⟨gd, 0, none⟩ = some (.pointer (some ⟨g, 0, none⟩))) (he : w.cell? ⟨ge, 0, none⟩ = some (.bool ex)) (hgd : gd ≠ g) (hge : ge ≠ g) (h : withinR s lo hi ex = some (r1, r2, s2)) :
    Calls Try.prog 81 #[.agg #[.int .i64 lo, .int .i64 hi], .pointer (some ⟨gd, 0, none⟩), .pointer (some ⟨ge, 0, none⟩)] w fun e w' => e = .returned (.agg #[.int .i64 r1, .int .i64 r2]) ∧ IsS83 w0 w' g s2 ∧ Below w0.heap.size w0 w' ∧ KeepBut w w' g none := by
  unfold withinR at h
  replace h := Option.bind_eq_some_iff.mp h
  obtain ⟨⟨a, s1⟩, e1, h⟩ := h
  replace h := Option.bind_eq_some_iff.mp h
  obtain ⟨⟨b, s3⟩, e2, h⟩ := h
  have E1 := Aside0.mk e1
  have E2 := Aside0.mk e2
  have HX := Aside0.mk h
  have hlt := hI.lt
  clear e1 e2 h
  have HI := Aside0.mk hI
  have HB := Aside0.mk hB
  clear hI hB
  go_enter Try.func81, Try.ntmps81
  go_wp2_with fail
  have hn0 : w.heap.size ≠ g := by omega
  have hn1 : w.heap.size + 1 ≠ g := by omega
  have hld : gd < w.heap.size := World.block_lt_of_cell? w _ hd
  have hle : ge < w.heap.size := World.block_lt_of_cell? w _ he
  generalize hW : ((w.alloc (Obj.cells #[Value.int IntKind.i64 lo, Value.int IntKind.i64 hi] 35)).alloc (Obj.cells #[Value.int IntKind.i64 0, Value.int IntKind.i64 0] 35)) = W
  have c0 : W.cell? ⟨w.heap.size, 0, none⟩ = some (.int .i64 lo) := by subst hW; simp
  have c1 : W.cell? ⟨w.heap.size, 1, none⟩ = some (.int .i64 hi) := by subst hW; simp
  have c4 : W.cell? ⟨gd, 0, none⟩ = some (.pointer (some ⟨g, 0, none⟩)) := by subst hW; exact pw_cell_below (below_alloc (below_alloc (Below.refl _ _) _) _) hd
  have c5 : W.cell? ⟨ge, 0, none⟩ = some (.bool ex) := by subst hW; exact pw_cell_below (below_alloc (below_alloc (Below.refl _ _) _) _) he
  have b3 : W.heap[w.heap.size + 1]? = some (.cells #[.int .i64 0, .int .i64 0] 35 (0, 0)) := by subst hW; have hq := blk_new (w.alloc (Obj.cells #[Value.int IntKind.i64 lo, Value.int IntKind.i64 hi] 35)) (Obj.cells #[Value.int IntKind.i64 0, Value.int IntKind.i64 0] 35); rw [show (w.alloc (Obj.cells #[Value.int IntKind.i64 lo, Value.int IntKind.i64 hi] 35)).heap.size = w.heap.size + 1 by simp] at hq; exact hq
  have HI1 : Aside0 (IsS83 w0 W g s) := ⟨by subst hW; exact IsS83.alloc (IsS83.alloc HI.out _) _⟩
  have HB1 : Aside0 (Below w0.heap.size w0 W) := ⟨by subst hW; exact below_alloc (below_alloc HB.out _) _⟩
  have HK1 : Aside0 (KeepBut w W g none) := ⟨by subst hW; exact keep_alloc (keep_alloc (KeepBut.refl w g none) _) _⟩
  clear hW hd he HI
  go_region_held3 (fun w' => w'.cell? ⟨w.heap.size, 0, none⟩ = some (.int .i64 lo) ∧ w'.cell? ⟨w.heap.size, 1, none⟩ = some (.int .i64 hi) ∧ w'.cell? ⟨gd, 0, none⟩ = some (.pointer (some ⟨g, 0, none⟩)) ∧ w'.cell? ⟨ge, 0, none⟩ = some (.bool ex) ∧ w'.heap[w.heap.size + 1]? = some (.cells #[.int .i64 0, .int .i64 0] 35 (0, 0))) (refine ⟨?_, ?_, ?_, ?_, ?_⟩ <;> first | assumption | (go_keep; done) | (refine keep_cell hk_ ?_ ?_ <;> first | assumption | exact hn0 | exact hgd | exact hge) | (refine KeepBut.blk hk_ ?_ hn1 (by simp); assumption)) (first | (go_at_call 82; go_split_ands; (refine (dice_In_calls g s1 lo hi b s3 w0 _ hI3 hB3 E2.out).mono ?_); have hK3 := hk_; clear hk_; rintro e w4 ⟨rfl, hI4, hB4, hk_⟩) | (go_at_call 82; go_split_ands; (refine (dice_In_calls g s lo hi a s1 w0 W.drew (IsS83.drew HI1.out) (below_drew HB1.out) E1.out).mono ?_); rintro e w3 ⟨rfl, hI3, hB3, hk_⟩))
  go_split_ands
  have hKK : KeepBut w w4 g none := ((keep_drew HK1.out).trans hK3 (.inl rfl)).trans hk_ (.inl rfl)
  have hb4 : w4.heap[w.heap.size + 1]? = some (.cells #[.int .i64 0, .int .i64 0] 35 (0, 0)) := by assumption
  have he4 : w4.cell? ⟨ge, 0, none⟩ = some (.bool ex) := by assumption
  have hz0 : w4.cell? ⟨w.heap.size + 1, 0, none⟩ = some (.int .i64 0) := (blk_cell hb4 0).trans rfl
  have hz1 : w4.cell? ⟨w.heap.size + 1, 1, none⟩ = some (.int .i64 0) := (blk_cell hb4 1).trans rfl
  have hf0 : w4.frozen? ⟨w.heap.size + 1, 0, none⟩ = false := blk_frozen hb4 0
  have hf1 : w4.frozen? ⟨w.heap.size + 1, 1, none⟩ = false := blk_frozen hb4 1
  have HY := HX.out
  clear HX
  have HI4 := Aside0.mk hI4
  have HB4 := Aside0.mk hB4
  have HK4 := Aside0.mk hKK
  have HB5 := Aside0.mk hb4
  have hge1 : Aside0 (w0.heap.size ≤ w.heap.size + 1) := ⟨by have := HB.out.size; omega⟩
  have hgg : Aside0 (g ≠ w.heap.size + 1) := ⟨by omega⟩
  clear hI4 hB4 hKK hb4 hk_ hK3 hI3 hB3
  cases ex with
  | true =>
    rw [if_pos rfl] at HY
    simp only [Option.some.injEq, Prod.mk.injEq] at HY
    obtain ⟨rfl, rfl, rfl⟩ := HY
    go_wp2_with fail
    refine bodyPost_ret (results_cell_row rfl _ _ (w.heap.size + 1) 35 #[.int .i64 a, .int .i64 a] (0, 0) _ rfl (by refine blk_put (cs := #[.int .i64 a, .int .i64 0]) ?_ 1 _ rfl; refine blk_put (cs := #[.int .i64 0, .int .i64 0]) ?_ 0 _ rfl; exact HB5.out) Try.underlying35 rfl (by kernel_rfl)) rfl ?_
    exact ⟨rfl, (HI4.out.far hgg.out _).far hgg.out _, below_set (below_set HB4.out hge1.out) hge1.out, keep_far (keep_far HK4.out (by simp) _) (by simp) _⟩
  | false =>
    rw [if_neg (by simp)] at HY
    simp only [Option.some.injEq, Prod.mk.injEq] at HY
    obtain ⟨h1, h2, rfl⟩ := HY
    have h1' : (if b < a then b else a) = r1 := h1
    have h2' : (if a < b then b else a) = r2 := h2
    clear h1 h2
    go_wp2_with fail
    refine bodyPost_ret (results_cell_row rfl _ _ (w.heap.size + 1) 35 #[.int .i64 r1, .int .i64 r2] (0, 0) _ rfl (by refine blk_put (cs := #[.int .i64 r1, .int .i64 0]) ?_ 1 _ rfl; refine blk_put (cs := #[.int .i64 0, .int .i64 0]) ?_ 0 _ rfl; exact HB5.out) Try.underlying35 rfl (by kernel_rfl)) rfl ?_
    exact ⟨rfl, (HI4.out.far hgg.out _).far hgg.out _, below_set (below_set HB4.out hge1.out) hge1.out, keep_far (keep_far HK4.out (by simp) _) (by simp) _⟩
set_option maxHeartbeats 8000000 in
set_option maxRecDepth 100000 in
theorem thermionkit_WithinLaw.calls (g : Nat) (s0_0 : Int) (a1_0 : Int) (a1_1 : Int) (a1_2 : Int) (a1_3 : Int) (a1_4 : Int) (a1_5 : Int) (a1_6 : Int) (a1_7 : Int) (a1_8 : Int) (a1_9 : Int) (a2 : Bool) (r1 : Int) (r2 : Int) (r3 : Int) (r4 : Int) (r5 : Int) (r6 : Int) (r7 : Int) (r8 : Int) (r9 : Int) (r10 : Int) (r11 : Int) (w0 w : World) (hI : IsS83 w0 w g s0_0) (hB : Below w0.heap.size w0 w) (h : thermionkit_WithinLaw.f s0_0 a1_0 a1_1 a1_2 a1_3 a1_4 a1_5 a1_6 a1_7 a1_8 a1_9 a2 = some (r1, r2, r3, r4, r5, r6, r7, r8, r9, r10, r11)) :
    Calls Try.prog 28 #[.pointer (some ⟨g, 0, none⟩), .agg #[.int .i64 a1_0, .int .i64 a1_1, .int .i64 a1_2, .int .i64 a1_3, .int .i64 a1_4, .int .i64 a1_5, .int .i64 a1_6, .int .i64 a1_7, .int .i64 a1_8, .int .i64 a1_9], .bool a2] w fun e w' => e = .returned (.agg #[.int .i64 r1, .int .i64 r2, .int .i64 r3, .int .i64 r4, .int .i64 r5, .int .i64 r6, .int .i64 r7, .int .i64 r8, .int .i64 r9, .int .i64 r10]) ∧ IsS83 w0 w' g r11 ∧ Below w0.heap.size w0 w' ∧ KeepBut w w' g none := by
  unfold thermionkit_WithinLaw.f at h
  replace h := Option.bind_eq_some_iff.mp h
  obtain ⟨⟨x0, y0, t0⟩, e0, h⟩ := h
  have E0 := Aside0.mk e0
  replace h := Option.bind_eq_some_iff.mp h
  obtain ⟨⟨x1, y1, t1⟩, e1, h⟩ := h
  have E1 := Aside0.mk e1
  replace h := Option.bind_eq_some_iff.mp h
  obtain ⟨⟨x2, y2, t2⟩, e2, h⟩ := h
  have E2 := Aside0.mk e2
  replace h := Option.bind_eq_some_iff.mp h
  obtain ⟨⟨x3, y3, t3⟩, e3, h⟩ := h
  have E3 := Aside0.mk e3
  replace h := Option.bind_eq_some_iff.mp h
  obtain ⟨⟨x4, y4, t4⟩, e4, h⟩ := h
  have E4 := Aside0.mk e4
  simp only [Option.some.injEq, Prod.mk.injEq] at h
  obtain ⟨rfl, rfl, rfl, rfl, rfl, rfl, rfl, rfl, rfl, rfl, rfl⟩ := h
  clear e0 e1 e2 e3 e4
  have hlt := hI.lt
  have HI := Aside0.mk hI
  have HB := Aside0.mk hB
  clear hI hB
  go_enter Try.func28, Try.ntmps28
  go_wp2_with fail
  have hn0 : w.heap.size ≠ g := by omega
  have hn1 : w.heap.size + 1 ≠ g := by omega
  have hn2 : w.heap.size + 1 + 1 ≠ g := by omega
  have hn3 : w.heap.size + 1 + 1 + 1 ≠ g := by omega
  obtain ⟨o1, ho1⟩ : ∃ o, o = (Obj.cells #[Value.pointer (some ⟨g, 0, none⟩)] 28) := ⟨_, rfl⟩
  obtain ⟨o2, ho2⟩ : ∃ o, o = (Obj.cells #[Value.int IntKind.i64 a1_0, Value.int IntKind.i64 a1_1, Value.int IntKind.i64 a1_2, Value.int IntKind.i64 a1_3, Value.int IntKind.i64 a1_4, Value.int IntKind.i64 a1_5, Value.int IntKind.i64 a1_6, Value.int IntKind.i64 a1_7, Value.int IntKind.i64 a1_8, Value.int IntKind.i64 a1_9] 42) := ⟨_, rfl⟩
  obtain ⟨o3, ho3⟩ : ∃ o, o = (Obj.cells #[Value.bool a2] 4) := ⟨_, rfl⟩
  obtain ⟨o4, ho4⟩ : ∃ o, o = (Obj.cells #[Value.int IntKind.i64 0, Value.int IntKind.i64 0, Value.int IntKind.i64 0, Value.int IntKind.i64 0, Value.int IntKind.i64 0, Value.int IntKind.i64 0, Value.int IntKind.i64 0, Value.int IntKind.i64 0, Value.int IntKind.i64 0, Value.int IntKind.i64 0] 42) := ⟨_, rfl⟩
  have q1 : (w.alloc o1).heap.size = w.heap.size + 1 := by simp
  have q2 : ((w.alloc o1).alloc o2).heap.size = w.heap.size + 1 + 1 := by simp
  have q3 : (((w.alloc o1).alloc o2).alloc o3).heap.size = w.heap.size + 1 + 1 + 1 := by simp
  generalize hW : ((((w.alloc (Obj.cells #[Value.pointer (some ⟨g, 0, none⟩)] 28)).alloc (Obj.cells #[Value.int IntKind.i64 a1_0, Value.int IntKind.i64 a1_1, Value.int IntKind.i64 a1_2, Value.int IntKind.i64 a1_3, Value.int IntKind.i64 a1_4, Value.int IntKind.i64 a1_5, Value.int IntKind.i64 a1_6, Value.int IntKind.i64 a1_7, Value.int IntKind.i64 a1_8, Value.int IntKind.i64 a1_9] 42)).alloc (Obj.cells #[Value.bool a2] 4)).alloc (Obj.cells #[Value.int IntKind.i64 0, Value.int IntKind.i64 0, Value.int IntKind.i64 0, Value.int IntKind.i64 0, Value.int IntKind.i64 0, Value.int IntKind.i64 0, Value.int IntKind.i64 0, Value.int IntKind.i64 0, Value.int IntKind.i64 0, Value.int IntKind.i64 0] 42)) = W
  have hW2 : (((w.alloc o1).alloc o2).alloc o3).alloc o4 = W := by subst ho1 ho2 ho3 ho4; exact hW
  clear hW
  have B0 : W.heap[w.heap.size]? = some o1 := by subst hW2; exact blk_alloc (blk_alloc (blk_alloc (blk_new w _) _) _) _
  have B1 : W.heap[w.heap.size + 1]? = some o2 := by subst hW2; have hq := blk_new (w.alloc o1) o2; rw [q1] at hq; exact blk_alloc (blk_alloc hq _) _
  have B2 : W.heap[w.heap.size + 1 + 1]? = some o3 := by subst hW2; have hq := blk_new ((w.alloc o1).alloc o2) o3; rw [q2] at hq; exact blk_alloc hq _
  have b3 : W.heap[w.heap.size + 1 + 1 + 1]? = some o4 := by subst hW2; have hq := blk_new (((w.alloc o1).alloc o2).alloc o3) o4; rw [q3] at hq; exact hq
  have HI1 : Aside0 (IsS83 w0 W g s0_0) := ⟨by subst hW2; exact ((((IsS83.alloc HI.out _).alloc _).alloc _).alloc _)⟩
  have HB1 : Aside0 (Below w0.heap.size w0 W) := ⟨by subst hW2; exact below_alloc (below_alloc (below_alloc (below_alloc HB.out _) _) _) _⟩
  have HK0 : Aside0 (KeepBut w W.drew g none) := ⟨by subst hW2; exact keep_drew (keep_alloc (keep_alloc (keep_alloc (keep_alloc (KeepBut.refl w g none) _) _) _) _)⟩
  clear hW2 q1 q2 q3
  subst ho1 ho2 ho3 ho4
  have c0 : W.cell? ⟨w.heap.size, 0, none⟩ = some (.pointer (some ⟨g, 0, none⟩)) := (blk_cell B0 0).trans rfl
  have c1 : W.cell? ⟨w.heap.size + 1 + 1, 0, none⟩ = some (.bool a2) := (blk_cell B2 0).trans rfl
  have l0 : W.cell? ⟨w.heap.size + 1, 0, none⟩ = some (.int .i64 a1_0) := (blk_cell B1 0).trans rfl
  have l1 : W.cell? ⟨w.heap.size + 1, 1, none⟩ = some (.int .i64 a1_1) := (blk_cell B1 1).trans rfl
  have l2 : W.cell? ⟨w.heap.size + 1, 2, none⟩ = some (.int .i64 a1_2) := (blk_cell B1 2).trans rfl
  have l3 : W.cell? ⟨w.heap.size + 1, 3, none⟩ = some (.int .i64 a1_3) := (blk_cell B1 3).trans rfl
  have l4 : W.cell? ⟨w.heap.size + 1, 4, none⟩ = some (.int .i64 a1_4) := (blk_cell B1 4).trans rfl
  have l5 : W.cell? ⟨w.heap.size + 1, 5, none⟩ = some (.int .i64 a1_5) := (blk_cell B1 5).trans rfl
  have l6 : W.cell? ⟨w.heap.size + 1, 6, none⟩ = some (.int .i64 a1_6) := (blk_cell B1 6).trans rfl
  have l7 : W.cell? ⟨w.heap.size + 1, 7, none⟩ = some (.int .i64 a1_7) := (blk_cell B1 7).trans rfl
  have l8 : W.cell? ⟨w.heap.size + 1, 8, none⟩ = some (.int .i64 a1_8) := (blk_cell B1 8).trans rfl
  have l9 : W.cell? ⟨w.heap.size + 1, 9, none⟩ = some (.int .i64 a1_9) := (blk_cell B1 9).trans rfl
  clear B0 B1 B2
  have hI_ : IsS83 w0 W.drew g s0_0 := IsS83.drew HI1.out
  have hB_ : Below w0.heap.size w0 W.drew := below_drew HB1.out
  have hb_ : W.drew.heap[w.heap.size + 1 + 1 + 1]? = some _ := blk_drew b3
  clear HI HI1 HB1 b3
  have hr0 : w.heap.size + 1 + 1 + 1 ≠ w.heap.size := by omega
  have hr1 : w.heap.size + 1 + 1 + 1 ≠ w.heap.size + 1 := by omega
  have hr2 : w.heap.size + 1 + 1 + 1 ≠ w.heap.size + 1 + 1 := by omega
  have hwe : Aside0 (w.heap.size ≤ w.heap.size + 1 + 1 + 1) := ⟨by omega⟩
  have hge : Aside0 (w0.heap.size ≤ w.heap.size + 1 + 1 + 1) := ⟨by have := HB.out.size; omega⟩
  generalize w.heap.size + 1 + 1 + 1 = gr at hb_ hn3 hr0 hr1 hr2 hwe hge ⊢
  generalize w.heap.size + 1 + 1 = gx at c1 hn2 hr2 ⊢
  generalize w.heap.size + 1 = gl at l0 l1 l2 l3 l4 l5 l6 l7 l8 l9 hn1 hr1 ⊢
  go_region_held3 (fun w' => w'.cell? ⟨w.heap.size, 0, none⟩ = some (.pointer (some ⟨g, 0, none⟩)) ∧ w'.cell? ⟨gx, 0, none⟩ = some (.bool a2) ∧ w'.cell? ⟨gl, 0, none⟩ = some (.int .i64 a1_0) ∧ w'.cell? ⟨gl, 1, none⟩ = some (.int .i64 a1_1) ∧ w'.cell? ⟨gl, 2, none⟩ = some (.int .i64 a1_2) ∧ w'.cell? ⟨gl, 3, none⟩ = some (.int .i64 a1_3) ∧ w'.cell? ⟨gl, 4, none⟩ = some (.int .i64 a1_4) ∧ w'.cell? ⟨gl, 5, none⟩ = some (.int .i64 a1_5) ∧ w'.cell? ⟨gl, 6, none⟩ = some (.int .i64 a1_6) ∧ w'.cell? ⟨gl, 7, none⟩ = some (.int .i64 a1_7) ∧ w'.cell? ⟨gl, 8, none⟩ = some (.int .i64 a1_8) ∧ w'.cell? ⟨gl, 9, none⟩ = some (.int .i64 a1_9)) (refine ⟨?_, ?_, ?_, ?_, ?_, ?_, ?_, ?_, ?_, ?_, ?_, ?_⟩ <;> first | (with_reducible assumption) | ((repeat (refine (World.cell?_setCell_far _ _ _ _ (by show gr ≠ _; first | exact hr0 | exact hr1 | exact hr2)).trans ?_)); with_reducible assumption) | (go_keep; done)) (first | (go_at_call 81; go_split_ands; rename_i q0 q1 q2 q3 q4 q5 q6 q7 q8 q9 q10 q11; (have hX := withinR_calls g w.heap.size gx t3 a1_8 a1_9 a2 x4 y4 t4 w0 _ hI_ hB_ q0 q1 hn0 hn2 E4.out); (refine hX.mono ?_); clear hX hI_ hB_; rintro e w7 ⟨rfl, hI_, hB_, hk_⟩; (have HK5 := Aside0.mk (HK4.out.trans hk_ (.inl rfl))); (have hc_ := KeepBut.blk hk_ hb_ hn3 (by simp)); clear hb_; (have hb_ := hc_); clear hc_; (have s0 := keep_cell hk_ q0 hn0); (have s1 := keep_cell hk_ q1 hn2); (have s2 := keep_cell hk_ q2 hn1); (have s3 := keep_cell hk_ q3 hn1); (have s4 := keep_cell hk_ q4 hn1); (have s5 := keep_cell hk_ q5 hn1); (have s6 := keep_cell hk_ q6 hn1); (have s7 := keep_cell hk_ q7 hn1); (have s8 := keep_cell hk_ q8 hn1); (have s9 := keep_cell hk_ q9 hn1); (have s10 := keep_cell hk_ q10 hn1); (have s11 := keep_cell hk_ q11 hn1); clear q0 q1 q2 q3 q4 q5 q6 q7 q8 q9 q10 q11 hk_ HK4; (have z0 : w7.cell? ⟨gr, 0, none⟩ = some (.int .i64 0) := (blk_cell hb_ 0).trans rfl); (have z1 : w7.cell? ⟨gr, 1, none⟩ = some (.int .i64 0) := (blk_cell hb_ 1).trans rfl); (have z2 : w7.cell? ⟨gr, 2, none⟩ = some (.int .i64 0) := (blk_cell hb_ 2).trans rfl); (have z3 : w7.cell? ⟨gr, 3, none⟩ = some (.int .i64 0) := (blk_cell hb_ 3).trans rfl); (have z4 : w7.cell? ⟨gr, 4, none⟩ = some (.int .i64 0) := (blk_cell hb_ 4).trans rfl); (have z5 : w7.cell? ⟨gr, 5, none⟩ = some (.int .i64 0) := (blk_cell hb_ 5).trans rfl); (have z6 : w7.cell? ⟨gr, 6, none⟩ = some (.int .i64 0) := (blk_cell hb_ 6).trans rfl); (have z7 : w7.cell? ⟨gr, 7, none⟩ = some (.int .i64 0) := (blk_cell hb_ 7).trans rfl); (have z8 : w7.cell? ⟨gr, 8, none⟩ = some (.int .i64 0) := (blk_cell hb_ 8).trans rfl); (have z9 : w7.cell? ⟨gr, 9, none⟩ = some (.int .i64 0) := (blk_cell hb_ 9).trans rfl); (have f0 : w7.frozen? ⟨gr, 0, none⟩ = false := blk_frozen hb_ 0); (have f1 : w7.frozen? ⟨gr, 1, none⟩ = false := blk_frozen hb_ 1); (have f2 : w7.frozen? ⟨gr, 2, none⟩ = false := blk_frozen hb_ 2); (have f3 : w7.frozen? ⟨gr, 3, none⟩ = false := blk_frozen hb_ 3); (have f4 : w7.frozen? ⟨gr, 4, none⟩ = false := blk_frozen hb_ 4); (have f5 : w7.frozen? ⟨gr, 5, none⟩ = false := blk_frozen hb_ 5); (have f6 : w7.frozen? ⟨gr, 6, none⟩ = false := blk_frozen hb_ 6); (have f7 : w7.frozen? ⟨gr, 7, none⟩ = false := blk_frozen hb_ 7); (have f8 : w7.frozen? ⟨gr, 8, none⟩ = false := blk_frozen hb_ 8); (have f9 : w7.frozen? ⟨gr, 9, none⟩ = false := blk_frozen hb_ 9); (have hb_ := Aside0.mk hb_); (have hI_ := Aside0.mk hI_); (have hB_ := Aside0.mk hB_)) | (go_at_call 81; go_split_ands; rename_i q0 q1 q2 q3 q4 q5 q6 q7 q8 q9 q10 q11; (have hX := withinR_calls g w.heap.size gx t2 a1_6 a1_7 a2 x3 y3 t3 w0 _ hI_ hB_ q0 q1 hn0 hn2 E3.out); (refine hX.mono ?_); clear hX hI_ hB_; rintro e w6 ⟨rfl, hI_, hB_, hk_⟩; (have HK4 := Aside0.mk (HK3.out.trans hk_ (.inl rfl))); (have hc_ := KeepBut.blk hk_ hb_ hn3 (by simp)); clear hb_; (have hb_ := hc_); clear hc_; (have s0 := keep_cell hk_ q0 hn0); (have s1 := keep_cell hk_ q1 hn2); (have s2 := keep_cell hk_ q2 hn1); (have s3 := keep_cell hk_ q3 hn1); (have s4 := keep_cell hk_ q4 hn1); (have s5 := keep_cell hk_ q5 hn1); (have s6 := keep_cell hk_ q6 hn1); (have s7 := keep_cell hk_ q7 hn1); (have s8 := keep_cell hk_ q8 hn1); (have s9 := keep_cell hk_ q9 hn1); (have s10 := keep_cell hk_ q10 hn1); (have s11 := keep_cell hk_ q11 hn1); clear q0 q1 q2 q3 q4 q5 q6 q7 q8 q9 q10 q11 hk_ HK3) | (go_at_call 81; go_split_ands; rename_i q0 q1 q2 q3 q4 q5 q6 q7 q8 q9 q10 q11; (have hX := withinR_calls g w.heap.size gx t1 a1_4 a1_5 a2 x2 y2 t2 w0 _ hI_ hB_ q0 q1 hn0 hn2 E2.out); (refine hX.mono ?_); clear hX hI_ hB_; rintro e w5 ⟨rfl, hI_, hB_, hk_⟩; (have HK3 := Aside0.mk (HK2.out.trans hk_ (.inl rfl))); (have hc_ := KeepBut.blk hk_ hb_ hn3 (by simp)); clear hb_; (have hb_ := hc_); clear hc_; (have s0 := keep_cell hk_ q0 hn0); (have s1 := keep_cell hk_ q1 hn2); (have s2 := keep_cell hk_ q2 hn1); (have s3 := keep_cell hk_ q3 hn1); (have s4 := keep_cell hk_ q4 hn1); (have s5 := keep_cell hk_ q5 hn1); (have s6 := keep_cell hk_ q6 hn1); (have s7 := keep_cell hk_ q7 hn1); (have s8 := keep_cell hk_ q8 hn1); (have s9 := keep_cell hk_ q9 hn1); (have s10 := keep_cell hk_ q10 hn1); (have s11 := keep_cell hk_ q11 hn1); clear q0 q1 q2 q3 q4 q5 q6 q7 q8 q9 q10 q11 hk_ HK2) | (go_at_call 81; go_split_ands; rename_i q0 q1 q2 q3 q4 q5 q6 q7 q8 q9 q10 q11; (have hX := withinR_calls g w.heap.size gx t0 a1_2 a1_3 a2 x1 y1 t1 w0 _ hI_ hB_ q0 q1 hn0 hn2 E1.out); (refine hX.mono ?_); clear hX hI_ hB_; rintro e w4 ⟨rfl, hI_, hB_, hk_⟩; (have HK2 := Aside0.mk (HK1.out.trans hk_ (.inl rfl))); (have hc_ := KeepBut.blk hk_ hb_ hn3 (by simp)); clear hb_; (have hb_ := hc_); clear hc_; (have s0 := keep_cell hk_ q0 hn0); (have s1 := keep_cell hk_ q1 hn2); (have s2 := keep_cell hk_ q2 hn1); (have s3 := keep_cell hk_ q3 hn1); (have s4 := keep_cell hk_ q4 hn1); (have s5 := keep_cell hk_ q5 hn1); (have s6 := keep_cell hk_ q6 hn1); (have s7 := keep_cell hk_ q7 hn1); (have s8 := keep_cell hk_ q8 hn1); (have s9 := keep_cell hk_ q9 hn1); (have s10 := keep_cell hk_ q10 hn1); (have s11 := keep_cell hk_ q11 hn1); clear q0 q1 q2 q3 q4 q5 q6 q7 q8 q9 q10 q11 hk_ HK1) | (go_at_call 81; go_split_ands; rename_i q0 q1 q2 q3 q4 q5 q6 q7 q8 q9 q10 q11; (have hX := withinR_calls g w.heap.size gx s0_0 a1_0 a1_1 a2 x0 y0 t0 w0 _ hI_ hB_ q0 q1 hn0 hn2 E0.out); (refine hX.mono ?_); clear hX hI_ hB_; rintro e w3 ⟨rfl, hI_, hB_, hk_⟩; (have HK1 := Aside0.mk (HK0.out.trans hk_ (.inl rfl))); (have hc_ := KeepBut.blk hk_ hb_ hn3 (by simp)); clear hb_; (have hb_ := hc_); clear hc_; (have s0 := keep_cell hk_ q0 hn0); (have s1 := keep_cell hk_ q1 hn2); (have s2 := keep_cell hk_ q2 hn1); (have s3 := keep_cell hk_ q3 hn1); (have s4 := keep_cell hk_ q4 hn1); (have s5 := keep_cell hk_ q5 hn1); (have s6 := keep_cell hk_ q6 hn1); (have s7 := keep_cell hk_ q7 hn1); (have s8 := keep_cell hk_ q8 hn1); (have s9 := keep_cell hk_ q9 hn1); (have s10 := keep_cell hk_ q10 hn1); (have s11 := keep_cell hk_ q11 hn1); clear q0 q1 q2 q3 q4 q5 q6 q7 q8 q9 q10 q11 hk_ HK0))
  have hgg : g ≠ gr := fun h => hn3 h.symm
  go_wp2_with fail
  refine bodyPost_ret (results_cell_row rfl _ _ (gr) 42 #[.int .i64 x0, .int .i64 y0, .int .i64 x1, .int .i64 y1, .int .i64 x2, .int .i64 y2, .int .i64 x3, .int .i64 y3, .int .i64 x4, .int .i64 y4] (0, 0) _ rfl (by refine blk_put (cs := #[.int .i64 x0, .int .i64 y0, .int .i64 x1, .int .i64 y1, .int .i64 x2, .int .i64 y2, .int .i64 x3, .int .i64 y3, .int .i64 x4, .int .i64 0]) ?_ 9 _ rfl; refine blk_put (cs := #[.int .i64 x0, .int .i64 y0, .int .i64 x1, .int .i64 y1, .int .i64 x2, .int .i64 y2, .int .i64 x3, .int .i64 y3, .int .i64 0, .int .i64 0]) ?_ 8 _ rfl; refine blk_put (cs := #[.int .i64 x0, .int .i64 y0, .int .i64 x1, .int .i64 y1, .int .i64 x2, .int .i64 y2, .int .i64 x3, .int .i64 0, .int .i64 0, .int .i64 0]) ?_ 7 _ rfl; refine blk_put (cs := #[.int .i64 x0, .int .i64 y0, .int .i64 x1, .int .i64 y1, .int .i64 x2, .int .i64 y2, .int .i64 0, .int .i64 0, .int .i64 0, .int .i64 0]) ?_ 6 _ rfl; refine blk_put (cs := #[.int .i64 x0, .int .i64 y0, .int .i64 x1, .int .i64 y1, .int .i64 x2, .int .i64 0, .int .i64 0, .int .i64 0, .int .i64 0, .int .i64 0]) ?_ 5 _ rfl; refine blk_put (cs := #[.int .i64 x0, .int .i64 y0, .int .i64 x1, .int .i64 y1, .int .i64 0, .int .i64 0, .int .i64 0, .int .i64 0, .int .i64 0, .int .i64 0]) ?_ 4 _ rfl; refine blk_put (cs := #[.int .i64 x0, .int .i64 y0, .int .i64 x1, .int .i64 0, .int .i64 0, .int .i64 0, .int .i64 0, .int .i64 0, .int .i64 0, .int .i64 0]) ?_ 3 _ rfl; refine blk_put (cs := #[.int .i64 x0, .int .i64 y0, .int .i64 0, .int .i64 0, .int .i64 0, .int .i64 0, .int .i64 0, .int .i64 0, .int .i64 0, .int .i64 0]) ?_ 2 _ rfl; refine blk_put (cs := #[.int .i64 x0, .int .i64 0, .int .i64 0, .int .i64 0, .int .i64 0, .int .i64 0, .int .i64 0, .int .i64 0, .int .i64 0, .int .i64 0]) ?_ 1 _ rfl; refine blk_put (cs := #[.int .i64 0, .int .i64 0, .int .i64 0, .int .i64 0, .int .i64 0, .int .i64 0, .int .i64 0, .int .i64 0, .int .i64 0, .int .i64 0]) ?_ 0 _ rfl; exact hb_.out) Try.underlying42 rfl (by kernel_rfl)) rfl ?_
  exact ⟨rfl, (IsS83.far (IsS83.far (IsS83.far (IsS83.far (IsS83.far (IsS83.far (IsS83.far (IsS83.far (IsS83.far (IsS83.far hI_.out hgg _) hgg _) hgg _) hgg _) hgg _) hgg _) hgg _) hgg _) hgg _) hgg _), (below_set (below_set (below_set (below_set (below_set (below_set (below_set (below_set (below_set (below_set hB_.out hge.out) hge.out) hge.out) hge.out) hge.out) hge.out) hge.out) hge.out) hge.out) hge.out), (keep_far (keep_far (keep_far (keep_far (keep_far (keep_far (keep_far (keep_far (keep_far (keep_far HK5.out hwe.out _) hwe.out _) hwe.out _) hwe.out _) hwe.out _) hwe.out _) hwe.out _) hwe.out _) hwe.out _) hwe.out _)⟩

end Go.Proofs.Ytbomgfbfnkfamaa.PAll
end
section
namespace Go.Proofs.Ytbomgfbfnkfamaa.PAll
open Go.RowKit Go.Proofs.YtbomgfbfnkfamaaW.PrintWords Go.Proofs.YtbomgfbfnkfamaaW.PrintLast Go.Proofs.YtbomgfbfnkfamaaW.PrintMore
attribute [local go_sem] max2_int min2_int max_two min_two max_three min_three max_four min_four   -- for this text's walks alone
set_option linter.unusedVariables false
set_option linter.unusedSimpArgs false

/-! ### curve_Of: function 52 -/
def ofRow (k : Nat) (p0 p1 g0 g1 s0 s1 f0 f1 q0 q1 g : Int) : List Int → Option (List Int × List Int)
  | [] => some ([], [])
  | p :: t => (curve_current.f k p0 p1 g0 g1 s0 s1 f0 f1 q0 q1 g p).bind fun c => (ofRow k p0 p1 g0 g1 s0 s1 f0 f1 q0 q1 g t).bind fun r => some (c.1 :: r.1, c.2 :: r.2)
def ofTab (k : Nat) (p0 p1 g0 g1 s0 s1 f0 f1 q0 q1 : Int) (plate : List Int) : List Int → Option (List (List Int) × List (List Int))
  | [] => some ([], [])
  | g :: t => (ofRow k p0 p1 g0 g1 s0 s1 f0 f1 q0 q1 g plate).bind fun c => (ofTab k p0 p1 g0 g1 s0 s1 f0 f1 q0 q1 plate t).bind fun r => some (c.1 :: r.1, c.2 :: r.2)
def curve_Of.f (k : Nat) (a0_0 : Int) (a0_1 : Int) (a0_2 : Int) (a0_3 : Int) (a0_4 : Int) (a0_5 : Int) (a0_6 : Int) (a0_7 : Int) (a0_8 : Int) (a0_9 : Int) (l1 : List Int) (l2 : List Int) : Option ((List Int) × (List Int) × (List (List Int)) × (List (List Int)) × Int) :=
  (curve_CheckLaw.f a0_0 a0_1 a0_2 a0_3 a0_4 a0_5 a0_6 a0_7 a0_8 a0_9).bind fun e => if e = 0 then (curve_lines.f l1 l2).bind fun e' => if e' = 0 then (ofTab k a0_0 a0_1 a0_2 a0_3 a0_4 a0_5 a0_6 a0_7 a0_8 a0_9 l2 l1).bind fun t => some (l1, l2, t.1, t.2, 0) else some ([], [], [], [], e') else some ([], [], [], [], e)
theorem ofRow_mono (k : Nat) (p0 p1 g0 g1 s0 s1 f0 f1 q0 q1 g : Int) : ∀ l, LeO (ofRow k p0 p1 g0 g1 s0 s1 f0 f1 q0 q1 g l) (ofRow (k + 1) p0 p1 g0 g1 s0 s1 f0 f1 q0 q1 g l)
  | [] => LeO.refl _
  | p :: t => LeO.bind (curve_current.mono _ _ _ _ _ _ _ _ _ _ _ _ k) fun _ => LeO.bind (ofRow_mono k p0 p1 g0 g1 s0 s1 f0 f1 q0 q1 g t) fun _ => LeO.refl _
theorem ofTab_mono (k : Nat) (p0 p1 g0 g1 s0 s1 f0 f1 q0 q1 : Int) (plate : List Int) : ∀ l, LeO (ofTab k p0 p1 g0 g1 s0 s1 f0 f1 q0 q1 plate l) (ofTab (k + 1) p0 p1 g0 g1 s0 s1 f0 f1 q0 q1 plate l)
  | [] => LeO.refl _
  | g :: t => LeO.bind (ofRow_mono k p0 p1 g0 g1 s0 s1 f0 f1 q0 q1 g plate) fun _ => LeO.bind (ofTab_mono k p0 p1 g0 g1 s0 s1 f0 f1 q0 q1 plate t) fun _ => LeO.refl _
theorem curve_Of.mono : ∀ a0 a1 a2 a3 a4 a5 a6 a7 a8 a9 a10 a11 k, LeO (curve_Of.f k a0 a1 a2 a3 a4 a5 a6 a7 a8 a9 a10 a11) (curve_Of.f (k + 1) a0 a1 a2 a3 a4 a5 a6 a7 a8 a9 a10 a11) := by
  intro a0 a1 a2 a3 a4 a5 a6 a7 a8 a9 a10 a11 k
  unfold curve_Of.f
  exact LeO.bind (LeO.refl _) fun _ => LeO.ite (LeO.bind (LeO.refl _) fun _ => LeO.ite (LeO.bind (ofTab_mono k _ _ _ _ _ _ _ _ _ _ _ _) fun _ => LeO.refl _) (LeO.refl _)) (LeO.refl _)
theorem ofRow_at (k : Nat) (p0 p1 g0 g1 s0 s1 f0 f1 q0 q1 g : Int) : ∀ (plate lo hi : List Int), ofRow k p0 p1 g0 g1 s0 s1 f0 f1 q0 q1 g plate = some (lo, hi) →
    lo.length = plate.length ∧ hi.length = plate.length ∧ ∀ j, j < plate.length → curve_current.f k p0 p1 g0 g1 s0 s1 f0 f1 q0 q1 g (plate.getD j 0) = some (lo.getD j 0, hi.getD j 0) := by
  intro plate
  induction plate with
  | nil =>
    intro lo hi h
    obtain ⟨rfl, rfl⟩ : [] = lo ∧ [] = hi := by simpa [ofRow] using h
    exact ⟨rfl, rfl, fun j hj => by simp at hj⟩
  | cons p t ih =>
    intro lo hi h
    rw [ofRow] at h
    obtain ⟨c, hc, h⟩ := Option.bind_eq_some_iff.mp h
    obtain ⟨r, hr, h⟩ := Option.bind_eq_some_iff.mp h
    obtain ⟨rfl, rfl⟩ : c.1 :: r.1 = lo ∧ c.2 :: r.2 = hi := by simpa using h
    obtain ⟨h1, h2, h3⟩ := ih r.1 r.2 hr
    refine ⟨by simp [h1], by simp [h2], fun j hj => ?_⟩
    cases j with
    | zero => exact hc
    | succ j => exact h3 j (by simpa using hj)
theorem ofTab_at (k : Nat) (p0 p1 g0 g1 s0 s1 f0 f1 q0 q1 : Int) (plate : List Int) : ∀ (grid : List Int) (lo hi : List (List Int)), ofTab k p0 p1 g0 g1 s0 s1 f0 f1 q0 q1 plate grid = some (lo, hi) →
    lo.length = grid.length ∧ hi.length = grid.length ∧ ∀ i, i < grid.length → ofRow k p0 p1 g0 g1 s0 s1 f0 f1 q0 q1 (grid.getD i 0) plate = some (lo.getD i [], hi.getD i []) := by
  intro grid
  induction grid with
  | nil =>
    intro lo hi h
    obtain ⟨rfl, rfl⟩ : [] = lo ∧ [] = hi := by simpa [ofTab] using h
    exact ⟨rfl, rfl, fun j hj => by simp at hj⟩
  | cons p t ih =>
    intro lo hi h
    rw [ofTab] at h
    obtain ⟨c, hc, h⟩ := Option.bind_eq_some_iff.mp h
    obtain ⟨r, hr, h⟩ := Option.bind_eq_some_iff.mp h
    obtain ⟨rfl, rfl⟩ : c.1 :: r.1 = lo ∧ c.2 :: r.2 = hi := by simpa using h
    obtain ⟨h1, h2, h3⟩ := ih r.1 r.2 hr
    refine ⟨by simp [h1], by simp [h2], fun j hj => ?_⟩
    cases j with
    | zero => exact hc
    | succ j => exact h3 j (by simpa using hj)
theorem ofLines {l1 l2 : List Int} (h : curve_lines.f l1 l2 = some 0) : 0 < l1.length ∧ l1.length ≤ 40 ∧ 0 < l2.length ∧ l2.length ≤ 40 := by
  unfold curve_lines.f at h
  split at h
  · simp at h
  · split at h
    · simp at h
    · omega
/-- A row that is filled, j numbers of it. -/
def ofFill (l : List Int) (m j : Nat) : List Int := l.take j ++ List.replicate (m - j) 0
theorem ofFill_set {l : List Int} {m j : Nat} (hl : l.length = m) (hj : j < m) : (ofFill l m j).set j (l.getD j 0) = ofFill l m (j + 1) := by
  unfold ofFill
  apply List.ext_getElem
  · simp; omega
  · intro i h1 h2
    rw [List.getElem_set]
    simp only [List.length_set, List.length_append, List.length_take, List.length_replicate] at h1
    split
    · rename_i hji
      subst hji
      rw [List.getElem_append_left (by simp; omega)]
      simp [List.getD_eq_getElem?_getD, hl, hj]
    · rcases Nat.lt_or_ge i j with c | c
      · rw [List.getElem_append_left (by simp; omega), List.getElem_append_left (by simp; omega)]
        simp
      · rw [List.getElem_append_right (by simp; omega), List.getElem_append_right (by simp; omega)]
        simp
theorem ofFill_len {l : List Int} {m j : Nat} (hl : l.length = m) (hj : j ≤ m) : (ofFill l m j).length = m := by unfold ofFill; simp; omega
theorem ofFill_all {l : List Int} {m : Nat} (hl : l.length = m) : ofFill l m m = l := by unfold ofFill; subst hl; simp
theorem ofTake (l : List (List Int)) (k : Nat) (h : k < l.length) : l.take k ++ [l.getD k []] = l.take (k + 1) := by
  rw [List.take_add_one, List.getD_eq_getElem?_getD, List.getElem?_eq_getElem h]; rfl
/-- A slice's box with one row in it. -/
theorem of_box {W : World} {g : Nat} {vx : Value} {r : List Int} {okx : Nat → Prop} {t : TypeId} (hg : W.heap[g]? = some (.cells #[vx] t (0, 0))) (HF : Kd.FK (Kd.slice 3 (Kd.int .i64)) W okx r [vx]) : Kd.F (Kd.slice 3 (Kd.int .i64)) W (fun k => k = g ∨ okx k) (some ⟨g, 0, none⟩) 1 [r] := by
  intro W' hW
  have h1 : W'.heap[g]? = some (.cells #[vx] t (0, 0)) := (hW g (.inl rfl) (blk_lt hg)).trans hg
  have h2 := HF W' (fun k hk hlt => hW k (.inr hk) hlt)
  refine ⟨rfl, by omega, fun _ => ⟨_, rfl, fun j p hj => ?_⟩⟩
  match j, hj with
  | 0, hj =>
    obtain rfl : r = p := Option.some.inj hj
    refine ⟨[vx], rfl, h2, fun i u hu => ?_⟩
    match i, hu with
    | 0, hu => obtain rfl := Option.some.inj hu; exact (blk_cell h1 0).trans rfl
    | i + 1, hu => cases hu
  | j + 1, hj => cases hj
/-- append(v, x) of rows: what is ok of the new row is new, or was ok of one of both. -/
theorem of_app {ops : Array Oper} {o : Oper} {a : Act} {Q : Exit → Act → World → Prop} {Kc : Act → World → Prop} {W n7 : World} {B g : Nat} (hw : Region.wanted o (yielded ops a.tmps) = true) (s x : Operand)
    (ho : o.op = .call { callee := .builtin .append, args := #[s, x], argTypes := #[23, 23] })
    {ok okx : Nat → Prop} {v vx : Value} {rows : List (List Int)} {r : List Int} (hs : a.eval s = v) (hx : a.eval x = .slice (some ⟨g, 0, none⟩) 1 1)
    (hB : Below B n7 W) (hb : B ≤ W.heap.size) (HN : Kd.N (Kd.slice 3 (Kd.int .i64)) 22 W B ok v rows) (HF : Kd.FK (Kd.slice 3 (Kd.int .i64)) W okx r [vx])
    (hg : W.heap[g]? = some (.cells #[vx] 22 (0, 0))) (hgx : ∀ k, ok k → k ≠ g ∧ ¬ okx k) {n : Nat} (hln : rows.length = n) (hl : n < 1000)
    (h : ∀ (A : Option Addr) (c : Nat) w1 (ok1 : Nat → Prop), Kd.N (Kd.slice 3 (Kd.int .i64)) 22 w1 B ok1 (.slice A (n + 1) c) (rows ++ [r]) → (∀ k, ok1 k → (ok k ∨ okx k ∨ k = g ∨ W.heap.size ≤ k) ∧ k < w1.heap.size) → Below B n7 w1 → W.grownBy w1 v.ownBlock → Kc (a.put o.dst (.slice A (n + 1) c)) w1) :
    if Region.wanted o (yielded ops a.tmps) = true then Oper.wp Try.prog o a W Kc Q else Kc (a.put o.dst undef) W := by
  refine Kd.N_append_rows_step (Kd.slice 3 (Kd.int .i64)) (w0 := n7) B hw s x 23 22 (.slice none 0 0) 24 ho Try.underlying23 info22 rfl (by decide) (by omega) v rows [r] (some ⟨g, 0, none⟩) 1 1 (fun k => ok k ∨ okx k ∨ k = g ∨ W.heap.size ≤ k) (fun k => k = g ∨ okx k) hs hx (Kd.N_mono HN (fun _ hk => .inl hk)) (of_box hg HF) ?_ (fun k hk => .inr (.inr (.inr hk))) hB hb ?_ ?_
  · rintro k (rfl | hk)
    · exact ⟨.inr (.inr (.inl rfl)), fun e => (hgx _ (HN.1 _ e.symm)).1 rfl⟩
    · exact ⟨.inr (.inl hk), fun e => (hgx _ (HN.1 _ e.symm)).2 hk⟩
  · omega
  · intro v1 w1 hn hb1 hg1 _
    obtain ⟨A, c, rfl⟩ := Kd.N_slice hn
    rw [List.length_append, List.length_singleton, hln] at hn ⊢
    exact h A c w1 _ (Kd.N_bound hn) (fun _ hk => hk) hb1 hg1
theorem ofAdd (g j : Nat) : (⟨g, 0, none⟩ : Addr).add j = ⟨g, j, none⟩ := by
  unfold Addr.add
  split <;> simp_all
theorem ofFill_zero (l : List Int) (m : Nat) : ofFill l m 0 = List.replicate m 0 := by simp [ofFill]
/-- make([]int, m). -/
theorem of_make {ops : Array Oper} {o : Oper} {a : Act} {Q : Exit → Act → World → Prop} {Kc : Act → World → Prop} {W : World} (B : Nat) (hw : Region.wanted o (yielded ops a.tmps) = true) {N : Tmp} (hd : o.dst = some N) (x y : Operand) (ho : o.op = .makeSlice 22 x y)
    {m : Nat} (hx : a.eval x = .int .i64 (m : Int)) (hy : a.eval y = .int .i64 (m : Int)) (hm : 0 < m) (hm1 : m ≤ 1000) (hB : B ≤ W.heap.size)
    (h : ∀ g c w1, Kd.R (Kd.int .i64) 3 w1 B (fun k => k = g) (.slice (some ⟨g, 0, none⟩) m c) (List.replicate m 0) → W.heap.size ≤ g → g < w1.heap.size → Below W.heap.size W w1 → Kc (a.put o.dst (.slice (some ⟨g, 0, none⟩) m c)) w1) :
    if Region.wanted o (yielded ops a.tmps) = true then Oper.wp Try.prog o a W Kc Q else Kc (a.put o.dst undef) W := by
  refine Kd.R_make_step (Kd.int .i64) (w0 := W) W.heap.size 3 hw hd 22 x y ho (m : Int) hx hy Try.underlying22 (.int .i64 0) 8 info3 rfl (by decide) (by omega) 0 (ok := fun k => W.heap.size ≤ k) (okp := fun _ => False) rfl (fun _ h => h.elim) (Nat.le_refl _) (by omega) (by simp only [Int.toNat_natCast]; omega) (Below.refl _ _) (Nat.le_refl _) ?_
  intro v1 w1 hr hb _ _
  rw [Int.toNat_natCast] at hr
  obtain ⟨g, c, he, hg0, hg1, _⟩ := Kd.R_form hr (by simpa using hm)
  rw [List.length_replicate] at he
  subst he
  exact h g c w1 (Kd.R_lower ⟨fun k hk => by simpa [Value.ownBlock] using hk.symm, hr.2.imp_ (fun _ _ hp => hp)⟩ hB) hg0 hg1 hb
/-- A slice's literal with one row. -/
theorem of_lit {ops : Array Oper} {o : Oper} {a : Act} {Q : Exit → Act → World → Prop} {Kc : Act → World → Prop} {W : World} (hw : Region.wanted o (yielded ops a.tmps) = true) {N : Tmp} (_hd : o.dst = some N) {vx : Value}
    (hrun : (execOp a.eval o).run Try.prog W = .ok (.value (.slice (some ⟨W.heap.size, 0, none⟩) 1 1)) (W.alloc (.cells #[vx] 22 (0, 0))))
    (h : ∀ g w1, g = W.heap.size → w1.heap[g]? = some (.cells #[vx] 22 (0, 0)) → Below W.heap.size W w1 → Kc (a.put o.dst (.slice (some ⟨g, 0, none⟩) 1 1)) w1) :
    if Region.wanted o (yielded ops a.tmps) = true then Oper.wp Try.prog o a W Kc Q else Kc (a.put o.dst undef) W :=
  event_step hw hrun (h _ _ rfl (blk_new W _) (below_alloc (Below.refl _ _) _))
/-- What holds while rows are put into a family's box. -/
def OfC (B : Nat) (w7 : World) (box : Array Value) (ok3 okh : Nat → Prop) (v3 vh : Value) (r3 : List (List Int)) (hi : List Int) (n : Nat) (W : World) : Prop :=
  Below B w7 W ∧ W.heap[B]? = some (.cells box 25 (0, 0)) ∧ Kd.N (Kd.slice 3 (Kd.int .i64)) 22 W B ok3 v3 r3 ∧ Kd.FK (Kd.slice 3 (Kd.int .i64)) W okh hi [vh] ∧ n ≤ W.heap.size
theorem OfC.later {B : Nat} {w7 : World} {box : Array Value} {ok3 okh : Nat → Prop} {v3 vh : Value} {r3 : List (List Int)} {hi : List Int} {n : Nat} {W W1 : World} (h : OfC B w7 box ok3 okh v3 vh r3 hi n W) (hn : B < n) (hb : Below W.heap.size W W1) : OfC B w7 box ok3 okh v3 vh r3 hi n W1 :=
  ⟨h.1.trans (hb.mono (by have := h.2.2.2.2; omega)), blk_below h.2.1 hb, Kd.N_below h.2.2.1 hb, Kd.FK_below h.2.2.2.1 hb, Nat.le_trans h.2.2.2.2 hb.size⟩
theorem OfC.grown {B : Nat} {w7 : World} {box : Array Value} {ok3 okh : Nat → Prop} {v3 vh : Value} {r3 : List (List Int)} {hi : List Int} {n : Nat} {W W1 : World} (h : OfC B w7 box ok3 okh v3 vh r3 hi n W) {row : Option Nat} (hg : W.grownBy W1 row) (hr : ∀ k, row = some k → k ≠ B ∧ ¬ ok3 k ∧ ¬ okh k) (hb : Below B w7 W1) : OfC B w7 box ok3 okh v3 vh r3 hi n W1 :=
  ⟨hb, blk_grown h.2.1 hg (fun e => (hr _ e.symm).1 rfl), Kd.N_grown h.2.2.1 hg (fun _ hk e => (hr _ e.symm).2.1 hk), Kd.FK_grown h.2.2.2.1 hg (fun _ hk e => (hr _ e.symm).2.2 hk), Nat.le_trans h.2.2.2.2 hg.size⟩
def curve_Of.T11 : Bool × List (List Nat × List Nat) := (true, [([], []), ([0], [0]), ([1, 1], [1]), ([], []), ([3], [3]), ([4, 4], [4]), ([2, 0, 1, 2], [2]), ([5, 6, 0, 1, 2, 3, 4, 5, 6], [5])])
def curve_Of.B11 : List Nat := [0, 1, 3, 0, 8, 24, 7, 127]
theorem curve_Of.tab11 : rtab .any (opsOf Try.f52 11) = curve_Of.T11 := by kernel_rfl
theorem curve_Of.bits11 : waitsOk curve_Of.T11.2 curve_Of.B11 = true := by kernel_rfl
def curve_Of.T16 : Bool × List (List Nat × List Nat) := (true, [([], []), ([], []), ([], []), ([], []), ([], []), ([4], [4]), ([], []), ([6], [6]), ([0, 1, 0, 1, 4, 5], [0, 1]), ([8, 5, 0, 1, 4, 5], [5, 8]), ([2, 3, 0, 1, 2, 3, 4, 5, 6, 7, 8, 9], [2, 3]), ([10, 7, 9, 0, 1, 2, 3, 4, 5, 6, 7, 8, 9], [7, 10])])
def curve_Of.B16 : List Nat := [0, 0, 0, 0, 0, 16, 0, 64, 51, 307, 1023, 2047]
theorem curve_Of.tab16 : rtab .any (opsOf Try.f52 16) = curve_Of.T16 := by kernel_rfl
theorem curve_Of.bits16 : waitsOk curve_Of.T16.2 curve_Of.B16 = true := by kernel_rfl
def curve_Of.T18 : Bool × List (List Nat × List Nat) := (true, [([], []), ([0], [0]), ([], []), ([2], [2]), ([1, 3], [1, 3]), ([], []), ([5], [5]), ([], []), ([7], [7]), ([6, 8, 4], [6, 8]), ([0, 1, 2, 3, 4, 5, 6], []), ([10, 4, 9, 0, 1, 2, 3, 4, 5, 6], [4, 10]), ([0, 1, 2, 3, 4, 5, 6, 7, 8, 9, 10, 11], []), ([12, 9, 11, 0, 1, 2, 3, 4, 5, 6, 7, 8, 9, 10, 11], [9, 12])])
def curve_Of.B18 : List Nat := [0, 1, 0, 4, 15, 0, 32, 0, 128, 511, 127, 2047, 4095, 8191]
theorem curve_Of.tab18 : rtab .any (opsOf Try.f52 18) = curve_Of.T18 := by kernel_rfl
theorem curve_Of.bits18 : waitsOk curve_Of.T18.2 curve_Of.B18 = true := by kernel_rfl
set_option maxHeartbeats 8000000 in
set_option maxRecDepth 100000 in
theorem curve_Of.calls (k : Nat) (a0_0 : Int) (a0_1 : Int) (a0_2 : Int) (a0_3 : Int) (a0_4 : Int) (a0_5 : Int) (a0_6 : Int) (a0_7 : Int) (a0_8 : Int) (a0_9 : Int) (A1 : Option Addr) (c1 : Nat) (l1 : List Int) (A2 : Option Addr) (c2 : Nat) (l2 : List Int) (r1 : List Int) (r2 : List Int) (r3 : List (List Int)) (r4 : List (List Int)) (r5 : Int) (w : World) (hr1 : Kd.C (Kd.int .i64) w A1 l1.length l1) (hc1 : l1.length ≤ c1) (hr2 : Kd.C (Kd.int .i64) w A2 l2.length l2) (hc2 : l2.length ≤ c2) (h : curve_Of.f k a0_0 a0_1 a0_2 a0_3 a0_4 a0_5 a0_6 a0_7 a0_8 a0_9 l1 l2 = some (r1, r2, r3, r4, r5)) :
    Calls Try.prog 52 #[.agg #[.int .i64 a0_0, .int .i64 a0_1, .int .i64 a0_2, .int .i64 a0_3, .int .i64 a0_4, .int .i64 a0_5, .int .i64 a0_6, .int .i64 a0_7, .int .i64 a0_8, .int .i64 a0_9], .slice A1 l1.length c1, .slice A2 l2.length c2] w fun e w' => ∃ v0_ v1_ v2_ v3_ : Value, e = .returned (.tuple #[.agg #[v0_, v1_, v2_, v3_], .int .i64 r5]) ∧ Kd.R (Kd.int .i64) 3 w' w.heap.size (fun k_ => (w.heap.size ≤ k_) ∧ some k_ ≠ (v1_ : Value).ownBlock) v0_ r1 ∧ Kd.R (Kd.int .i64) 3 w' w.heap.size (fun k_ => (w.heap.size ≤ k_) ∧ some k_ ≠ (v0_ : Value).ownBlock) v1_ r2 ∧ Kd.N (Kd.slice 3 (Kd.int .i64)) 22 w' w.heap.size (fun k_ => (w.heap.size ≤ k_) ∧ some k_ ≠ (v0_ : Value).ownBlock ∧ some k_ ≠ (v1_ : Value).ownBlock ∧ some k_ ≠ (v3_ : Value).ownBlock) v2_ r3 ∧ Kd.N (Kd.slice 3 (Kd.int .i64)) 22 w' w.heap.size (fun k_ => (w.heap.size ≤ k_) ∧ some k_ ≠ (v0_ : Value).ownBlock ∧ some k_ ≠ (v1_ : Value).ownBlock ∧ some k_ ≠ (v2_ : Value).ownBlock) v3_ r4 ∧ Below w.heap.size w w' := by
  unfold curve_Of.f at h
  have n1 : l1.length ≤ 9223372036854775807 := hr1.2.1
  have n2 : l2.length ≤ 9223372036854775807 := hr2.2.1
  obtain ⟨e1, he1, h⟩ := Option.bind_eq_some_iff.mp h
  have HCL := Aside0.mk (fun W => curve_CheckLaw.calls a0_0 a0_1 a0_2 a0_3 a0_4 a0_5 a0_6 a0_7 a0_8 a0_9 e1 W he1)
  have HCu := Aside0.mk (fun W g p x y hh => curve_current.calls k a0_0 a0_1 a0_2 a0_3 a0_4 a0_5 a0_6 a0_7 a0_8 a0_9 g p x y W hh)
  by_cases z1 : e1 = 0
  · subst z1
    rw [if_pos rfl] at h
    obtain ⟨e2, he2, h⟩ := Option.bind_eq_some_iff.mp h
    have HLn := Aside0.mk (fun W (hb : Below w.heap.size w W) => curve_lines.calls A1 c1 l1 A2 c2 l2 e2 W (Kd.C_below hr1 hb) hc1 (Kd.C_below hr2 hb) hc2 he2)
    have HR1 := Aside0.mk hr1
    have HR2 := Aside0.mk hr2
    clear hr1 hr2
    by_cases z2 : e2 = 0
    · subst z2
      rw [if_pos rfl] at h
      obtain ⟨b1, b2, b3, b4⟩ := ofLines he2
      obtain ⟨⟨tl, th⟩, ht, h⟩ := Option.bind_eq_some_iff.mp h
      simp only [Option.some.injEq, Prod.mk.injEq] at h
      obtain ⟨rfl, rfl, rfl, rfl, rfl⟩ := h
      obtain ⟨tn1, tn2, tat⟩ := ofTab_at _ _ _ _ _ _ _ _ _ _ _ _ _ _ _ ht
      have TA := Aside0.mk tat
      clear ht he1 he2 tat
      go_enter Try.func52, Try.ntmps52
      go_upto_region 1 with (fail)
      generalize hW : ((w.alloc (Obj.cells #[Value.int IntKind.i64 a0_0, Value.int IntKind.i64 a0_1, Value.int IntKind.i64 a0_2, Value.int IntKind.i64 a0_3, Value.int IntKind.i64 a0_4, Value.int IntKind.i64 a0_5, Value.int IntKind.i64 a0_6, Value.int IntKind.i64 a0_7, Value.int IntKind.i64 a0_8, Value.int IntKind.i64 a0_9] 42)).alloc (Obj.cells #[Value.slice none 0 0, Value.slice none 0 0, Value.slice none 0 0, Value.slice none 0 0] 25)) = W2
      have hs2 : w.heap.size ≤ W2.heap.size := by subst hW; simp; omega
      have hs3 : w.heap.size + 1 < W2.heap.size := by subst hW; simp
      have HB2 : Aside0 (Below w.heap.size w W2) := ⟨by subst hW; exact below_alloc (below_alloc (Below.refl _ _) _) _⟩
      have BL : Aside0 (W2.heap[w.heap.size]? = some (.cells #[Value.int IntKind.i64 a0_0, Value.int IntKind.i64 a0_1, Value.int IntKind.i64 a0_2, Value.int IntKind.i64 a0_3, Value.int IntKind.i64 a0_4, Value.int IntKind.i64 a0_5, Value.int IntKind.i64 a0_6, Value.int IntKind.i64 a0_7, Value.int IntKind.i64 a0_8, Value.int IntKind.i64 a0_9] 42 (0, 0))) := ⟨by subst hW; exact blk_alloc (blk_new w _) _⟩
      have BF : Aside0 (W2.heap[w.heap.size + 1]? = some (.cells #[Value.slice none 0 0, Value.slice none 0 0, Value.slice none 0 0, Value.slice none 0 0] 25 (0, 0))) := ⟨by subst hW; have hq := blk_new (w.alloc (Obj.cells #[Value.int IntKind.i64 a0_0, Value.int IntKind.i64 a0_1, Value.int IntKind.i64 a0_2, Value.int IntKind.i64 a0_3, Value.int IntKind.i64 a0_4, Value.int IntKind.i64 a0_5, Value.int IntKind.i64 a0_6, Value.int IntKind.i64 a0_7, Value.int IntKind.i64 a0_8, Value.int IntKind.i64 a0_9] 42)) (Obj.cells #[Value.slice none 0 0, Value.slice none 0 0, Value.slice none 0 0, Value.slice none 0 0] 25); rw [World.size_alloc] at hq; exact hq⟩
      have x0 : W2.cell? ⟨w.heap.size, 0, none⟩ = some (.int .i64 a0_0) := (blk_cell BL.out 0).trans rfl
      have x1 : W2.cell? ⟨w.heap.size, 1, none⟩ = some (.int .i64 a0_1) := (blk_cell BL.out 1).trans rfl
      have x2 : W2.cell? ⟨w.heap.size, 2, none⟩ = some (.int .i64 a0_2) := (blk_cell BL.out 2).trans rfl
      have x3 : W2.cell? ⟨w.heap.size, 3, none⟩ = some (.int .i64 a0_3) := (blk_cell BL.out 3).trans rfl
      have x4 : W2.cell? ⟨w.heap.size, 4, none⟩ = some (.int .i64 a0_4) := (blk_cell BL.out 4).trans rfl
      have x5 : W2.cell? ⟨w.heap.size, 5, none⟩ = some (.int .i64 a0_5) := (blk_cell BL.out 5).trans rfl
      have x6 : W2.cell? ⟨w.heap.size, 6, none⟩ = some (.int .i64 a0_6) := (blk_cell BL.out 6).trans rfl
      have x7 : W2.cell? ⟨w.heap.size, 7, none⟩ = some (.int .i64 a0_7) := (blk_cell BL.out 7).trans rfl
      have x8 : W2.cell? ⟨w.heap.size, 8, none⟩ = some (.int .i64 a0_8) := (blk_cell BL.out 8).trans rfl
      have x9 : W2.cell? ⟨w.heap.size, 9, none⟩ = some (.int .i64 a0_9) := (blk_cell BL.out 9).trans rfl
      clear hW
      go_wp2_with (first | ((with_reducible refine gate_builtin (b := .append) (xs := #[.const (.slice none 0 0), .tmp 33]) rfl ?_); at_builtin; refine Kd.R_append_rows (Kd.int .i64) (w0 := W2) W2.heap.size rfl (.const (.slice none 0 0)) (.tmp 33) 22 3 (.int .i64 0) 8 rfl Try.underlying22 info3 rfl (by decide) (by omega) (.slice none 0 0) [] l2 _ _ _ (fun k => w5.heap.size ≤ k) (fun _ => False) rfl rfl ?aO ?aR (fun _ _ h => h) (fun _ h => h.elim) ?aF ?aB ?aS ?aL ?_; (case aR => exact Kd.C_below HR2.out (HB2.out.trans (HB5.out.mono hs2))); (case aB => exact HB5.out); (case aF => exact (fun _ h => h)); (case aO => exact Kd.R_nil _ _ _ _ _); (case aS => exact HB5.out.size); (case aL => simp only [List.length_nil]; omega); intro v6 w6 ho6 hb6 hg6 hat6; (obtain ⟨A6, c6, hv6⟩ := Kd.R_slice ho6); subst hv6; (have HO6 := Aside0.mk ho6); (have HB6 := Aside0.mk hb6); (have HO5 := Aside0.mk (Kd.R_grown HO5.out hg6 (fun k _ => by simp [Value.ownBlock]))); (have hs56 := hg6.size); clear ho6 hb6 hg6 hat6) | ((with_reducible refine gate_builtin (b := .append) (xs := #[.const (.slice none 0 0), .tmp 31]) rfl ?_); at_builtin; refine Kd.R_append_rows (Kd.int .i64) (w0 := W2) W2.heap.size rfl (.const (.slice none 0 0)) (.tmp 31) 22 3 (.int .i64 0) 8 rfl Try.underlying22 info3 rfl (by decide) (by omega) (.slice none 0 0) [] l1 _ _ _ (fun _ => True) (fun _ => False) rfl rfl ?aO ?aR (fun _ _ h => h) (fun _ h => h.elim) ?aF ?aB ?aS ?aL ?_; (case aR => exact Kd.C_below HR1.out (HB2.out.trans (HB4.out.mono hs2))); (case aB => exact HB4.out); (case aF => exact (fun _ _ => trivial)); (case aO => exact Kd.R_nil _ _ _ _ _); (case aS => exact HB4.out.size); (case aL => simp only [List.length_nil]; omega); intro v5 w5 ho5 hb5 hg5 hat5; (obtain ⟨A5, c5, hv5⟩ := Kd.R_slice ho5); subst hv5; (have HO5 := Aside0.mk (Kd.R_bound ho5)); (have HB5 := Aside0.mk hb5); clear ho5 hb5 hg5 hat5) | (go_at_call 92; (refine (HLn.out _ (below_then HB2.out hs2 HB3.out)).mono ?_); rintro e w4 ⟨rfl, ⟨nq, rfl⟩⟩; (have HB4 := Aside0.mk (pw_below_drewN HB3.out nq))) | (go_at_call 33; (refine (HCL.out W2).mono ?_); rintro e w3 ⟨rfl, hb3⟩; (have HB3 := Aside0.mk hb3); clear hb3) | fail)
      generalize hW7 : w6.alloc (Obj.cells #[Value.slice A5 l1.length c5, Value.slice A6 l2.length c6, Value.slice none 0 0, Value.slice none 0 0] 25) = w7
      obtain ⟨B, hB⟩ : ∃ B, B = w6.heap.size := ⟨_, rfl⟩
      rw [← hB]
      have hs7 : w7.heap.size = B + 1 := by subst hW7; rw [hB]; simp
      have h67 : Below w6.heap.size w6 w7 := by subst hW7; exact below_alloc (Below.refl _ _) _
      have BX7 : Aside0 (w7.heap[B]? = some (.cells #[.slice A5 l1.length c5, .slice A6 l2.length c6, .slice none 0 0, .slice none 0 0] 25 (0, 0))) := ⟨by subst hW7; rw [hB]; exact blk_new w6 _⟩
      have HL7 : Aside0 (Below W2.heap.size W2 w7) := ⟨HB6.out.trans (h67.mono HB6.out.size)⟩
      have hsB : W2.heap.size ≤ B := by rw [hB]; exact HB6.out.size
      have HV0 : Aside0 (Kd.R (Kd.int .i64) 3 w7 w.heap.size (fun k => (w.heap.size ≤ k ∧ some k ≠ (Value.slice A6 l2.length c6).ownBlock) ∧ k < B ∧ w.heap.size + 1 < k) (.slice A5 l1.length c5) l1) := ⟨by
        refine Kd.R_lower (Kd.R_below (Kd.R_mono (Kd.R_bound HO5.out) (fun k hk => ?_)) h67) hs2
        have h1 := hk.1.2.1
        have h2 := hk.1.2.2.1
        refine ⟨⟨by omega, fun e => ?_⟩, by omega, by omega⟩
        have := HO6.out.1 k e.symm
        omega⟩
      have HV1 : Aside0 (Kd.R (Kd.int .i64) 3 w7 w.heap.size (fun k => (w.heap.size ≤ k ∧ some k ≠ (Value.slice A5 l1.length c5).ownBlock) ∧ k < B ∧ w.heap.size + 1 < k) (.slice A6 l2.length c6) l2) := ⟨by
        refine Kd.R_lower (Kd.R_below (Kd.R_mono (Kd.R_bound HO6.out) (fun k hk => ?_)) h67) hs2
        have h1 := hk.1
        have h2 := hk.2.2.1
        have h3 := HB5.out.size
        refine ⟨⟨by omega, fun e => ?_⟩, by omega, by omega⟩
        have := (HO5.out.1 k e.symm).2.2.1
        omega⟩
      have HBw7 : Aside0 (Below w.heap.size w w7) := ⟨HB2.out.trans (HL7.out.mono hs2)⟩
      have BL7 : Aside0 (w7.heap[w.heap.size]? = some (.cells #[.int .i64 a0_0, .int .i64 a0_1, .int .i64 a0_2, .int .i64 a0_3, .int .i64 a0_4, .int .i64 a0_5, .int .i64 a0_6, .int .i64 a0_7, .int .i64 a0_8, .int .i64 a0_9] 42 (0, 0))) := ⟨blk_below BL.out HL7.out⟩
      have BF7 : Aside0 (w7.heap[w.heap.size + 1]? = some (.cells #[.slice none 0 0, .slice none 0 0, .slice none 0 0, .slice none 0 0] 25 (0, 0))) := ⟨blk_below BF.out HL7.out⟩
      clear hW7 hB h67 HL7 HO5 HO6 HB5 HB6 HB4 HB3 HB2 BL BF HCL HLn x0 x1 x2 x3 x4 x5 x6 x7 x8 x9
      go_loopw [38] (fun ix wr => ∃ (i : Nat) (A2' A3' : Option Addr) (c2' c3' : Nat) (ok2 ok3 : Nat → Prop), i ≤ l1.length ∧ ix = .int .i64 i ∧ Aside0 (wr.heap[B]? = some (.cells #[.slice A5 l1.length c5, .slice A6 l2.length c6, .slice A2' i c2', .slice A3' i c3'] 25 (0, 0))) ∧ Aside0 (Kd.N (Kd.slice 3 (Kd.int .i64)) 22 wr B ok2 (.slice A2' i c2') (tl.take i)) ∧ Aside0 (Kd.N (Kd.slice 3 (Kd.int .i64)) 22 wr B ok3 (.slice A3' i c3') (th.take i)) ∧ Aside0 ((∀ k, ok2 k → B < k ∧ ¬ ok3 k) ∧ ∀ k, ok3 k → B < k) ∧ Aside0 (Below B w7 wr)) (fun ix _ => l1.length - (intOf ix).toNat)
      case atStart => exact ⟨0, none, none, 0, 0, (fun _ => False), (fun _ => False), Nat.zero_le _, rfl, ⟨BX7.out⟩, ⟨Kd.N_nil _ _ _ _ _⟩, ⟨Kd.N_nil _ _ _ _ _⟩, ⟨⟨fun _ h => h.elim, fun _ h => h.elim⟩⟩, ⟨Below.refl _ _⟩⟩
      case round =>
        obtain ⟨i, A2', A3', c2', c3', ok2, ok3, hi, rfl, BX, H2, H3, HD, HBr⟩ := hrel
        have hsr : B < wr.heap.size := by have := HBr.out.size; omega
        have HBw : Aside0 (Below w.heap.size w wr) := ⟨HBw7.out.trans (HBr.out.mono (by omega))⟩
        by_cases hlt : i < l1.length
        · obtain ⟨rn1, rn2, rat⟩ := ofRow_at _ _ _ _ _ _ _ _ _ _ _ _ _ _ _ (TA.out i hlt)
          have RAT := Aside0.mk rat
          clear rat
          obtain ⟨ag, hag, hcell⟩ := Kd.at_int (Kd.C_below HR1.out HBw.out) (i : Int) (by omega) (by omega)
          subst hag
          have hcell' : wr.cell? (ag.add i) = some (.int .i64 (l1.getD i 0)) := hcell
          clear hcell
          generalize l1.getD i 0 = gv at *
          have hi0 : (0 : Int) ≤ i := by omega
          have hi1 : (i : Int) < l1.length := by omega
          have hwi : IntKind.i64.wrap ((i : Int) + 1) = i + 1 := IntWalk.i64_in _ (by omega)
          go_wp2_with fail
          refine start_ (n := 8) (S := fun w' => Below wr.heap.size wr w') (ds := []) #[false, false, false, false, false, false, false, false] (by kernel_rfl) rfl rfl (below_drew1 (Below.refl _ _)) (fun hHeld => ?_)
          refine with_tabW curve_Of.tab11 curve_Of.bits11 (fun HT_ HW_ => ?_)
          generalize wr.drew = w39 at hHeld ⊢
          refine pure_ (i := 0) (N := some 42) (v := ?_) (a' := ?_) #[true, false, false, false, false, false, false, false] rfl rfl (any_of HT_.out (by kernel_rfl)) (fun _ _ _ h => h) (Or.inl ⟨by rfl, ?_⟩) ?_ ?_
          rotate_left
          · intro w'
            go_simp
            with_reducible rfl
          rotate_left
          · simp only [Act.put, List.setIfInBounds_toArray, List.set_cons_zero, List.set_cons_succ, i64_w, i32_w]
            rfl
          refine pure_ (i := 3) (N := some 45) (v := ?_) (a' := ?_) #[true, false, false, true, false, false, false, false] rfl rfl (any_of HT_.out (by kernel_rfl)) (fun _ _ _ h => h) (Or.inl ⟨by rfl, ?_⟩) ?_ ?_
          rotate_left
          · intro w'
            go_simp
            with_reducible rfl
          rotate_left
          · simp only [Act.put, List.setIfInBounds_toArray, List.set_cons_zero, List.set_cons_succ, i64_w, i32_w]
            rfl
          refine pure_ (i := 1) (N := some 43) (v := ?_) (a' := ?_) #[true, true, false, true, false, false, false, false] rfl rfl (any_of HT_.out (by kernel_rfl)) (fun _ _ _ h => h) (Or.inl ⟨by rfl, ?_⟩) ?_ ?_
          rotate_left
          · intro w'
            go_simp
            with_reducible rfl
          rotate_left
          · simp only [Act.put, List.setIfInBounds_toArray, List.set_cons_zero, List.set_cons_succ, i64_w, i32_w]
            rfl
          refine pure_ (i := 4) (N := some 46) (v := ?_) (a' := ?_) #[true, true, false, true, true, false, false, false] rfl rfl (any_of HT_.out (by kernel_rfl)) (fun _ _ _ h => h) (Or.inl ⟨by rfl, ?_⟩) ?_ ?_
          rotate_left
          · intro w'
            go_simp
            with_reducible rfl
          rotate_left
          · simp only [Act.put, List.setIfInBounds_toArray, List.set_cons_zero, List.set_cons_succ, i64_w, i32_w]
            rfl
          refine join_ (σ := Nat × Nat × Nat × Nat) 1 #[true, true, true, true, true, true, true, false] (fun s_ => [(44, .slice (some ⟨s_.1, 0, none⟩) l2.length s_.2.1), (47, .slice (some ⟨s_.2.2.1, 0, none⟩) l2.length s_.2.2.2), (13, .slice (some ⟨s_.1, 0, none⟩) l2.length s_.2.1)]) (fun s_ w' => Below wr.heap.size wr w' ∧ Kd.R (Kd.int .i64) 3 w' B (fun k => k = s_.1) (.slice (some ⟨s_.1, 0, none⟩) l2.length s_.2.1) (List.replicate l2.length 0) ∧ Kd.R (Kd.int .i64) 3 w' B (fun k => k = s_.2.2.1) (.slice (some ⟨s_.2.2.1, 0, none⟩) l2.length s_.2.2.2) (List.replicate l2.length 0) ∧ wr.heap.size ≤ s_.1 ∧ s_.1 < w'.heap.size ∧ wr.heap.size ≤ s_.2.2.1 ∧ s_.2.2.1 < w'.heap.size ∧ s_.1 ≠ s_.2.2.1) ?_ ?_
          rotate_left
          · intro hJ
            refine two_ (i := 2) (j := 5) (Ni := some 44) (Nj := some 47) #[true, true, true, true, true, false, false, false] #[true, true, false, true, true, true, false, false] rfl rfl rfl rfl (two_of HT_.out (by kernel_rfl)) (by decide) (by decide) (fun K hK => ?_) (fun K hK => ?_)
            · skip
              refine of_make B (by rfl) rfl (.tmp 43) (.tmp 43) rfl (m := l2.length) rfl rfl b3 (by omega) (by have := hHeld.size; omega) ?_
              intro gl cgl w40 rgl lgl ugl hb
              have hS2 := hHeld.trans (hb.mono hHeld.size)
              refine hK.out _ _ hS2 (fun _ => ?_)
              clear hK K
              refine norm_ (a' := ?_) ?_ ?_
              rotate_left
              · show Act.put _ (some 44) _ = _
                simp only [Act.put, List.setIfInBounds_toArray, List.set_cons_zero, List.set_cons_succ, i64_w, i32_w]
                rfl
              refine pure_ (i := 6) (N := some 13) (v := ?_) (a' := ?_) #[true, true, true, true, true, false, true, false] rfl rfl (any_of HT_.out (by kernel_rfl)) (fun _ _ _ h => h) (Or.inl ⟨by rfl, ?_⟩) ?_ ?_
              rotate_left
              · intro w'
                go_simp
                with_reducible rfl
              rotate_left
              · simp only [Act.put, List.setIfInBounds_toArray, List.set_cons_zero, List.set_cons_succ, i64_w, i32_w]
                rfl
              refine one_ (i := 5) (N := some 47) #[true, true, true, true, true, true, true, false] rfl rfl (one_of HT_.out (by kernel_rfl)) (by decide) (fun K hK => ?_)
              refine of_make B (by rfl) rfl (.tmp 46) (.tmp 46) rfl (m := l2.length) rfl rfl b3 (by omega) (by have := hS2.size; omega) ?_
              intro gh cgh w41 rgh lgh ugh hb
              have hS3 := hS2.trans (hb.mono hS2.size)
              refine hK.out _ _ hS3 (fun _ => ?_)
              clear hK K
              refine norm_ (a' := ?_) ?_ ?_
              rotate_left
              · show Act.put _ (some 47) _ = _
                simp only [Act.put, List.setIfInBounds_toArray, List.set_cons_zero, List.set_cons_succ, i64_w, i32_w]
                rfl
              have rgl2 := Kd.R_below rgl hb
              have q1 := hHeld.size
              have q2 := hS2.size
              have q3 := hS3.size
              have q4 := hb.size
              exact norm_ (by first | (simp only [putAll, Act.put, List.setIfInBounds_toArray, List.set_cons_zero, List.set_cons_succ]; done) | (simp only [putAll, Act.put, List.setIfInBounds_toArray, List.set_cons_zero, List.set_cons_succ]; rfl)) (hJ (gl, cgl, gh, cgh) _ ⟨hS3, rgl2, rgh, by show wr.heap.size ≤ gl; omega, by show gl < w41.heap.size; omega, by show wr.heap.size ≤ gh; omega, by show gh < w41.heap.size; omega, by show gl ≠ gh; omega⟩)
            · skip
              refine of_make B (by rfl) rfl (.tmp 46) (.tmp 46) rfl (m := l2.length) rfl rfl b3 (by omega) (by have := hHeld.size; omega) ?_
              intro gh cgh w40 rgh lgh ugh hb
              have hS2 := hHeld.trans (hb.mono hHeld.size)
              refine hK.out _ _ hS2 (fun _ => ?_)
              clear hK K
              refine norm_ (a' := ?_) ?_ ?_
              rotate_left
              · show Act.put _ (some 47) _ = _
                simp only [Act.put, List.setIfInBounds_toArray, List.set_cons_zero, List.set_cons_succ, i64_w, i32_w]
                rfl
              refine one_ (i := 2) (N := some 44) #[true, true, true, true, true, true, false, false] rfl rfl (one_of HT_.out (by kernel_rfl)) (by decide) (fun K hK => ?_)
              refine of_make B (by rfl) rfl (.tmp 43) (.tmp 43) rfl (m := l2.length) rfl rfl b3 (by omega) (by have := hS2.size; omega) ?_
              intro gl cgl w41 rgl lgl ugl hb
              have hS3 := hS2.trans (hb.mono hS2.size)
              refine hK.out _ _ hS3 (fun _ => ?_)
              clear hK K
              refine norm_ (a' := ?_) ?_ ?_
              rotate_left
              · show Act.put _ (some 44) _ = _
                simp only [Act.put, List.setIfInBounds_toArray, List.set_cons_zero, List.set_cons_succ, i64_w, i32_w]
                rfl
              refine pure_ (i := 6) (N := some 13) (v := ?_) (a' := ?_) #[true, true, true, true, true, true, true, false] rfl rfl (any_of HT_.out (by kernel_rfl)) (fun _ _ _ h => h) (Or.inl ⟨by rfl, ?_⟩) ?_ ?_
              rotate_left
              · intro w'
                go_simp
                with_reducible rfl
              rotate_left
              · simp only [Act.put, List.setIfInBounds_toArray, List.set_cons_zero, List.set_cons_succ, i64_w, i32_w]
                rfl
              have rgh2 := Kd.R_below rgh hb
              have q1 := hHeld.size
              have q2 := hS2.size
              have q3 := hS3.size
              have q4 := hb.size
              exact norm_ (by first | (simp only [putAll, Act.put, List.setIfInBounds_toArray, List.set_cons_zero, List.set_cons_succ]; done) | (simp only [putAll, Act.put, List.setIfInBounds_toArray, List.set_cons_zero, List.set_cons_succ]; rfl)) (hJ (gl, cgl, gh, cgh) _ ⟨hS3, rgl, rgh2, by show wr.heap.size ≤ gl; omega, by show gl < w41.heap.size; omega, by show wr.heap.size ≤ gh; omega, by show gh < w41.heap.size; omega, by show gl ≠ gh; omega⟩)
          · skip
            rintro ⟨gl, cl, gh, ch⟩ w8 ⟨hS, rl, rh, l1_, u1_, l2_, u2_, ne⟩
            refine norm_ (a' := ?_) ?_ ?_
            rotate_left
            · simp only [putAll, Act.put, List.setIfInBounds_toArray, List.set_cons_zero, List.set_cons_succ]
              rfl
            refine pure_ (i := 7) (N := some 14) (v := ?_) (a' := ?_) #[true, true, true, true, true, true, true, true] rfl rfl (any_of HT_.out (by kernel_rfl)) (fun _ _ _ h => h) (Or.inl ⟨by rfl, ?_⟩) ?_ ?_
            rotate_left
            · intro w'
              go_simp
              with_reducible rfl
            rotate_left
            · simp only [Act.put, List.setIfInBounds_toArray, List.set_cons_zero, List.set_cons_succ, i64_w, i32_w]
              rfl
            refine done_ (done_of HT_.out (by kernel_rfl)) ?_
            clear HT_ HW_
            replace hS : Below wr.heap.size wr w8 := hS
            replace rl : Kd.R (Kd.int .i64) 3 w8 B (fun k => k = gl) (.slice (some ⟨gl, 0, none⟩) l2.length cl) (List.replicate l2.length 0) := rl
            replace rh : Kd.R (Kd.int .i64) 3 w8 B (fun k => k = gh) (.slice (some ⟨gh, 0, none⟩) l2.length ch) (List.replicate l2.length 0) := rh
            replace l1_ : wr.heap.size ≤ gl := l1_
            replace u1_ : gl < w8.heap.size := u1_
            replace l2_ : wr.heap.size ≤ gh := l2_
            replace u2_ : gh < w8.heap.size := u2_
            replace ne : gl ≠ gh := ne
            have HS8 := Aside0.mk hS
            have RL := Aside0.mk rl
            have RH := Aside0.mk rh
            have hB8 : Aside0 (Below B w7 w8) := ⟨HBr.out.trans (hS.mono (by omega))⟩
            have H2b := Aside0.mk (Kd.N_below (Kd.N_bound H2.out) hS)
            have H3b := Aside0.mk (Kd.N_below (Kd.N_bound H3.out) hS)
            have BX8 := Aside0.mk (blk_below BX.out hS)
            obtain ⟨no, hno⟩ : ∃ no, no = wr.heap.size := ⟨_, rfl⟩
            rw [← hno] at H2b H3b l1_ l2_ hsr
            have hn8 : no ≤ w8.heap.size := by rw [hno]; exact hS.size
            clear hno
            obtain ⟨lo, hlo⟩ : ∃ lo, lo = tl.getD i [] := ⟨_, rfl⟩
            obtain ⟨hh, hhh⟩ : ∃ hh, hh = th.getD i [] := ⟨_, rfl⟩
            rw [← hlo] at rn1 RAT
            rw [← hhh] at rn2 RAT
            clear rl rh hS hcell' hHeld HS8 H2 H3 BX HBw HBr
            go_wp2_with fail
            go_loopw [50] (fun ix wr => ∃ j : Nat, j ≤ l2.length ∧ ix = .int .i64 j ∧ Aside0 (Kd.R (Kd.int .i64) 3 wr B (fun k => k = gl) (.slice (some ⟨gl, 0, none⟩) l2.length cl) (ofFill lo l2.length j)) ∧ Aside0 (Kd.R (Kd.int .i64) 3 wr B (fun k => k = gh) (.slice (some ⟨gh, 0, none⟩) l2.length ch) (ofFill hh l2.length j)) ∧ Aside0 (w8.heap.size ≤ wr.heap.size ∧ ∀ k, k < w8.heap.size → k ≠ gl → k ≠ gh → wr.heap[k]? = w8.heap[k]?) ∧ Aside0 (Below B w7 wr)) (fun ix _ => l2.length - (intOf ix).toNat)
            case atStart => exact ⟨0, Nat.zero_le _, rfl, ⟨by rw [ofFill_zero]; exact RL.out⟩, ⟨by rw [ofFill_zero]; exact RH.out⟩, ⟨Nat.le_refl _, fun _ _ _ _ => rfl⟩, hB8⟩
            case round =>
              clear RL RH
              obtain ⟨j, hj, rfl, RL, RH, HK, HBq⟩ := hrel
              have HBv : Aside0 (Below w.heap.size w wr) := ⟨HBw7.out.trans (HBq.out.mono (by omega))⟩
              by_cases hlj : j < l2.length
              · have hcu := RAT.out j hlj
                obtain ⟨ap, hap, hcell⟩ := Kd.at_int (Kd.C_below HR2.out HBv.out) (j : Int) (by omega) (by omega)
                subst hap
                have hcell' : wr.cell? (ap.add j) = some (.int .i64 (l2.getD j 0)) := hcell
                clear hcell
                have fs1 := ofFill_set rn1 hlj
                have fs2 := ofFill_set rn2 hlj
                generalize l2.getD j 0 = pv at *
                generalize lo.getD j 0 = x at *
                generalize hh.getD j 0 = y at *
                have HC := Aside0.mk hcu
                have FS1 := Aside0.mk fs1
                have FS2 := Aside0.mk fs2
                have hj0 : (0 : Int) ≤ j := by omega
                have hj1 : (j : Int) < l2.length := by omega
                have hwj : IntKind.i64.wrap ((j : Int) + 1) = j + 1 := IntWalk.i64_in _ (by omega)
                have BLr : wr.heap[w.heap.size]? = some (.cells #[.int .i64 a0_0, .int .i64 a0_1, .int .i64 a0_2, .int .i64 a0_3, .int .i64 a0_4, .int .i64 a0_5, .int .i64 a0_6, .int .i64 a0_7, .int .i64 a0_8, .int .i64 a0_9] 42 (0, 0)) := (HBq.out.block _ (by omega)).trans BL7.out
                have x0 : wr.cell? ⟨w.heap.size, 0, none⟩ = some (.int .i64 a0_0) := (blk_cell BLr 0).trans rfl
                have x1 : wr.cell? ⟨w.heap.size, 1, none⟩ = some (.int .i64 a0_1) := (blk_cell BLr 1).trans rfl
                have x2 : wr.cell? ⟨w.heap.size, 2, none⟩ = some (.int .i64 a0_2) := (blk_cell BLr 2).trans rfl
                have x3 : wr.cell? ⟨w.heap.size, 3, none⟩ = some (.int .i64 a0_3) := (blk_cell BLr 3).trans rfl
                have x4 : wr.cell? ⟨w.heap.size, 4, none⟩ = some (.int .i64 a0_4) := (blk_cell BLr 4).trans rfl
                have x5 : wr.cell? ⟨w.heap.size, 5, none⟩ = some (.int .i64 a0_5) := (blk_cell BLr 5).trans rfl
                have x6 : wr.cell? ⟨w.heap.size, 6, none⟩ = some (.int .i64 a0_6) := (blk_cell BLr 6).trans rfl
                have x7 : wr.cell? ⟨w.heap.size, 7, none⟩ = some (.int .i64 a0_7) := (blk_cell BLr 7).trans rfl
                have x8 : wr.cell? ⟨w.heap.size, 8, none⟩ = some (.int .i64 a0_8) := (blk_cell BLr 8).trans rfl
                have x9 : wr.cell? ⟨w.heap.size, 9, none⟩ = some (.int .i64 a0_9) := (blk_cell BLr 9).trans rfl
                clear hcu BLr fs1 fs2
                go_wp2_with (first | (go_at_call 80; (refine (HCu.out wr gv pv x y HC.out).mono ?_); rintro e w9 ⟨rfl, hb9⟩; (have HB9 := Aside0.mk hb9); clear hb9) | fail)
                obtain ⟨G, hG⟩ : ∃ G, G = w9.heap.size := ⟨_, rfl⟩
                have hk1 := HK.out.1
                have hk2 := HB9.out.size
                have hGl : G ≠ gl := by omega
                have hGh : G ≠ gh := by omega
                generalize hW10 : w9.alloc (Obj.cells #[Value.int IntKind.i64 x, Value.int IntKind.i64 y] 35) = w10
                rw [← hG]
                have HB10 : Aside0 (Below wr.heap.size wr w10) := ⟨by subst hW10; exact below_alloc HB9.out _⟩
                have BG : Aside0 (w10.heap[G]? = some (.cells #[.int .i64 x, .int .i64 y] 35 (0, 0))) := ⟨by subst hW10; rw [hG]; exact blk_new w9 _⟩
                clear hW10 hG
                refine start_ (n := 12) (S := fun w' => w'.heap[G]? = some (.cells #[.int .i64 x, .int .i64 y] 35 (0, 0))) (ds := []) #[false, false, false, false, false, false, false, false, false, false, false, false] (by kernel_rfl) rfl rfl BG.out (fun hHeld => ?_)
                refine with_tabW curve_Of.tab16 curve_Of.bits16 (fun HT_ HW_ => ?_)
                have HBd := Aside0.mk (below_drew HB10.out)
                generalize w10.drew = wd at hHeld HBd ⊢
                have RLd := Aside0.mk (Kd.R_below RL.out HBd.out)
                have RHd := Aside0.mk (Kd.R_below RH.out HBd.out)
                have hll := ofFill_len rn1 hj
                have hlh := ofFill_len rn2 hj
                obtain ⟨al, hal, hcl⟩ := Kd.at_int (Kd.R_reads' RLd.out).2.2 (j : Int) (by omega) (by omega)
                obtain ⟨ah, hah, hch⟩ := Kd.at_int (Kd.R_reads' RHd.out).2.2 (j : Int) (by omega) (by omega)
                obtain rfl := Option.some.inj hal
                obtain rfl := Option.some.inj hah
                have agl := ofAdd gl j
                have hcl' : wd.cell? ⟨gl, j, none⟩ = some (.int .i64 (rd (ofFill lo l2.length j) (j : Int))) := by rw [← agl]; exact hcl
                have agh := ofAdd gh j
                have hch' : wd.cell? ⟨gh, j, none⟩ = some (.int .i64 (rd (ofFill hh l2.length j) (j : Int))) := by rw [← agh]; exact hch
                obtain ⟨_, _, e1, _, _, cs1, hs1⟩ := Kd.R_form RLd.out (by omega)
                obtain ⟨_, _, e2, _, _, cs2, hs2'⟩ := Kd.R_form RHd.out (by omega)
                injection e1 with e1 e1b e1c
                injection e1 with e1
                injection e1 with e1 _ _
                clear e1b e1c
                injection e2 with e2 e2b e2c
                injection e2 with e2
                injection e2 with e2 _ _
                clear e2b e2c
                subst e1 e2
                have hfl : wd.frozen? ⟨gl, j, none⟩ = false := blk_frozen hs1 j
                have hfh : wd.frozen? ⟨gh, j, none⟩ = false := blk_frozen hs2' j
                have ne' : gh ≠ gl := fun h => ne h.symm
                generalize rd (ofFill lo l2.length j) (j : Int) = zl at hcl'
                generalize rd (ofFill hh l2.length j) (j : Int) = zh at hch'
                clear agl agh hll hlh hcl hch hs1 hs2' x0 x1 x2 x3 x4 x5 x6 x7 x8 x9 hal hah
                refine pure_ (i := 0) (N := some 59) (v := ?_) (a' := ?_) #[true, false, false, false, false, false, false, false, false, false, false, false] rfl rfl (any_of HT_.out (by kernel_rfl)) (fun _ _ _ h => h) (Or.inl ⟨by rfl, ?_⟩) ?_ ?_
                rotate_left
                · intro w'
                  go_simp
                  with_reducible rfl
                rotate_left
                · simp only [Act.put, List.setIfInBounds_toArray, List.set_cons_zero, List.set_cons_succ, i64_w, i32_w]
                  rfl
                refine pure_ (i := 1) (N := some 60) (v := ?_) (a' := ?_) #[true, true, false, false, false, false, false, false, false, false, false, false] rfl rfl (any_of HT_.out (by kernel_rfl)) (fun _ _ _ h => h) (Or.inl ⟨by rfl, ?_⟩) ?_ ?_
                rotate_left
                · intro w'
                  go_simp
                  with_reducible rfl
                rotate_left
                · simp only [Act.put, List.setIfInBounds_toArray, List.set_cons_zero, List.set_cons_succ, i64_w, i32_w]
                  rfl
                refine pure_ (i := 2) (N := some 61) (v := ?_) (a' := ?_) #[true, true, true, false, false, false, false, false, false, false, false, false] rfl rfl (any_of HT_.out (by kernel_rfl)) (fun _ _ _ h => h) (Or.inl ⟨by rfl, ?_⟩) ?_ ?_
                rotate_left
                · intro w'
                  go_simp
                  with_reducible rfl
                rotate_left
                · simp only [Act.put, List.setIfInBounds_toArray, List.set_cons_zero, List.set_cons_succ, i64_w, i32_w]
                  rfl
                refine pure_ (i := 3) (N := some 62) (v := ?_) (a' := ?_) #[true, true, true, true, false, false, false, false, false, false, false, false] rfl rfl (any_of HT_.out (by kernel_rfl)) (fun _ _ _ h => h) (Or.inl ⟨by rfl, ?_⟩) ?_ ?_
                rotate_left
                · intro w'
                  go_simp
                  with_reducible rfl
                rotate_left
                · simp only [Act.put, List.setIfInBounds_toArray, List.set_cons_zero, List.set_cons_succ, i64_w, i32_w]
                  rfl
                refine pure_ (i := 4) (N := some 63) (v := ?_) (a' := ?_) #[true, true, true, true, true, false, false, false, false, false, false, false] rfl rfl (any_of HT_.out (by kernel_rfl)) (fun _ _ _ h => h) (Or.inl ⟨by rfl, ?_⟩) ?_ ?_
                rotate_left
                · intro w'
                  go_simp
                  with_reducible rfl
                rotate_left
                · simp only [Act.put, List.setIfInBounds_toArray, List.set_cons_zero, List.set_cons_succ, i64_w, i32_w]
                  rfl
                refine pure_ (i := 6) (N := some 65) (v := ?_) (a' := ?_) #[true, true, true, true, true, false, true, false, false, false, false, false] rfl rfl (any_of HT_.out (by kernel_rfl)) (fun _ _ _ h => h) (Or.inl ⟨by rfl, ?_⟩) ?_ ?_
                rotate_left
                · intro w'
                  go_simp
                  with_reducible rfl
                rotate_left
                · simp only [Act.put, List.setIfInBounds_toArray, List.set_cons_zero, List.set_cons_succ, i64_w, i32_w]
                  rfl
                refine take_ (i := 5) (N := some 64) (v := ?_) (a' := ?_) #[true, true, true, true, true, true, true, false, false, false, false, false] rfl rfl (take_ofW HT_.out HW_.out (by kernel_rfl)) (fun _ _ _ h => h) (Or.inl ⟨by rfl, ?_⟩) hHeld ?_ ?_
                rotate_left
                · intro w' hS_
                  have s0 : World.cell? _ ⟨G, 0, none⟩ = some (.int .i64 x) := (blk_cell hS_ 0).trans rfl
                  have s1 : World.cell? _ ⟨G, 1, none⟩ = some (.int .i64 y) := (blk_cell hS_ 1).trans rfl
                  go_simp
                  with_reducible rfl
                rotate_left
                · simp only [Act.put, List.setIfInBounds_toArray, List.set_cons_zero, List.set_cons_succ, i64_w, i32_w]
                  rfl
                refine take_ (i := 7) (N := some 66) (v := ?_) (a' := ?_) #[true, true, true, true, true, true, true, true, false, false, false, false] rfl rfl (take_ofW HT_.out HW_.out (by kernel_rfl)) (fun _ _ _ h => h) (Or.inl ⟨by rfl, ?_⟩) hHeld ?_ ?_
                rotate_left
                · intro w' hS_
                  have s0 : World.cell? _ ⟨G, 0, none⟩ = some (.int .i64 x) := (blk_cell hS_ 0).trans rfl
                  have s1 : World.cell? _ ⟨G, 1, none⟩ = some (.int .i64 y) := (blk_cell hS_ 1).trans rfl
                  go_simp
                  with_reducible rfl
                rotate_left
                · simp only [Act.put, List.setIfInBounds_toArray, List.set_cons_zero, List.set_cons_succ, i64_w, i32_w]
                  rfl
                refine pure_ (i := 8) (N := some 67) (v := ?_) (a' := ?_) #[true, true, true, true, true, true, true, true, true, false, false, false] rfl rfl (any_of HT_.out (by kernel_rfl)) (fun _ _ _ h => h) (Or.inl ⟨by rfl, ?_⟩) ?_ ?_
                rotate_left
                · intro w'
                  go_simp
                  with_reducible rfl
                rotate_left
                · simp only [Act.put, List.setIfInBounds_toArray, List.set_cons_zero, List.set_cons_succ, i64_w, i32_w]
                  rfl
                refine one_ (i := 9) (N := none) #[true, true, true, true, true, true, true, true, true, true, false, false] rfl rfl (one_of HT_.out (by kernel_rfl)) (by decide) (fun K hK => ?_)
                refine skip_ (w1 := ?_) (by rfl) rfl ?_ ?_
                rotate_left
                · go_simp
                  rfl
                refine hK.out _ _ (blk_far hHeld hGl _) (fun hHeld2 => ?_)
                clear hK K
                refine pure_ (i := 10) (N := some 68) (v := ?_) (a' := ?_) #[true, true, true, true, true, true, true, true, true, true, true, false] rfl rfl (any_of HT_.out (by kernel_rfl)) (fun _ _ _ h => h) (Or.inl ⟨by rfl, ?_⟩) ?_ ?_
                rotate_left
                · intro w'
                  go_simp
                  with_reducible rfl
                rotate_left
                · simp only [Act.put, List.setIfInBounds_toArray, List.set_cons_zero, List.set_cons_succ, i64_w, i32_w]
                  rfl
                refine one_ (i := 11) (N := none) #[true, true, true, true, true, true, true, true, true, true, true, true] rfl rfl (one_of HT_.out (by kernel_rfl)) (by decide) (fun K hK => ?_)
                refine skip_ (w1 := ?_) (by rfl) rfl ?_ ?_
                rotate_left
                · go_simp
                  rfl
                refine hK.out _ _ (blk_far (blk_far hHeld hGl _) hGh _) (fun hHeld2 => ?_)
                clear hK K
                refine done_ (done_of HT_.out (by kernel_rfl)) ?_
                have q1 : Kd.R (Kd.int .i64) 3 (World.setCell (World.setCell wd ⟨gl, j, none⟩ (.int .i64 x)) ⟨gh, j, none⟩ (.int .i64 y)) B (fun k => k = gl) (.slice (some ⟨gl, 0, none⟩) l2.length cl) (ofFill lo l2.length (j + 1)) := by
                  have h_ := Kd.R_far (p := ⟨gh, j, none⟩) (Kd.R_putg RLd.out (j : Int) x).1 (fun k hk => by subst hk; exact ne) (.int .i64 y)
                  rw [← FS1.out]
                  exact h_
                have q2 : Kd.R (Kd.int .i64) 3 (World.setCell (World.setCell wd ⟨gl, j, none⟩ (.int .i64 x)) ⟨gh, j, none⟩ (.int .i64 y)) B (fun k => k = gh) (.slice (some ⟨gh, 0, none⟩) l2.length ch) (ofFill hh l2.length (j + 1)) := by
                  have h_ := (Kd.R_putg (Kd.R_far (p := ⟨gl, j, none⟩) RHd.out (fun k hk => by subst hk; exact ne') (.int .i64 x)) (j : Int) y).1
                  rw [← FS2.out]
                  exact h_
                have q3 : w8.heap.size ≤ ((World.setCell (World.setCell wd ⟨gl, j, none⟩ (.int .i64 x)) ⟨gh, j, none⟩ (.int .i64 y))).heap.size ∧ ∀ k, k < w8.heap.size → k ≠ gl → k ≠ gh → ((World.setCell (World.setCell wd ⟨gl, j, none⟩ (.int .i64 x)) ⟨gh, j, none⟩ (.int .i64 y))).heap[k]? = w8.heap[k]? := by
                  refine ⟨by rw [World.size_setCell, World.size_setCell]; exact Nat.le_trans hk1 HBd.out.size, fun k h1 h2 h3 => ?_⟩
                  exact (Below.heap_setCell _ ⟨gh, j, none⟩ _ k h3).trans ((Below.heap_setCell _ ⟨gl, j, none⟩ _ k h2).trans ((HBd.out.block k (by omega)).trans (HK.out.2 k h1 h2 h3)))
                have q4 : Below B w7 (World.setCell (World.setCell wd ⟨gl, j, none⟩ (.int .i64 x)) ⟨gh, j, none⟩ (.int .i64 y)) := ((HBq.out.trans (HBd.out.mono (by omega))).setCell (p := ⟨gl, j, none⟩) (by show B ≤ gl; omega) _).setCell (p := ⟨gh, j, none⟩) (by show B ≤ gh; omega) _
                have Q1 := Aside0.mk q1
                have Q2 := Aside0.mk q2
                have Q3 := Aside0.mk q3
                have Q4 := Aside0.mk q4
                clear q1 q2 q3 q4 hcl' hch' hfl hfh HT_ HW_ hHeld
                try clear hHeld2
                generalize (World.setCell (World.setCell wd ⟨gl, j, none⟩ (.int .i64 x)) ⟨gh, j, none⟩ (.int .i64 y)) = we at Q1 Q2 Q3 Q4 ⊢
                go_wp2_with fail
                go_roundw
                case rel => exact ⟨j + 1, by omega, by go_num, Q1, Q2, Q3, Q4⟩
                case measure => simp [intOf]; omega
              · obtain rfl : j = l2.length := by omega
                have ql := RL.out
                have qh := RH.out
                rw [ofFill_all rn1] at ql
                rw [ofFill_all rn2] at qh
                have hk1 := HK.out.1
                have hnr : no ≤ wr.heap.size := by omega
                have fl : Kd.FK (Kd.slice 3 (Kd.int .i64)) wr (fun k => k = gl) lo [.slice (some ⟨gl, 0, none⟩) l2.length cl] := by
                  have h0 := (Kd.R_reads' ql).2.1
                  rw [← rn1] at ql h0 ⊢
                  exact Kd.FK_slice_mk h0 (Kd.R_F ql)
                have fh : Kd.FK (Kd.slice 3 (Kd.int .i64)) wr (fun k => k = gh) hh [.slice (some ⟨gh, 0, none⟩) l2.length ch] := by
                  have h0 := (Kd.R_reads' qh).2.1
                  rw [← rn2] at qh h0 ⊢
                  exact Kd.FK_slice_mk h0 (Kd.R_F qh)
                have FL := Aside0.mk fl
                have N2 := Aside0.mk (Kd.N_step H2b.out (fun k hk _ => HK.out.2 k (by have := hk.2; omega) (by have := hk.2; omega) (by have := hk.2; omega)))
                have N3 := Aside0.mk (Kd.N_step H3b.out (fun k hk _ => HK.out.2 k (by have := hk.2; omega) (by have := hk.2; omega) (by have := hk.2; omega)))
                have BXr := Aside0.mk ((HK.out.2 B (by omega) (by omega) (by omega)).trans BX8.out)
                have CC : Aside0 (OfC B w7 #[.slice A5 l1.length c5, .slice A6 l2.length c6, .slice A2' i c2', .slice A3' i c3'] (fun k => ok3 k ∧ k < no) (fun k => k = gh) (.slice A3' i c3') (.slice (some ⟨gh, 0, none⟩) l2.length ch) (th.take i) hh wr.heap.size wr) := ⟨HBq.out, BXr.out, N3.out, fh, Nat.le_refl _⟩
                have hBn : B < wr.heap.size := by omega
                have htl : (tl.take i).length = i := by rw [List.length_take]; omega
                have hth : (th.take i).length = i := by rw [List.length_take]; omega
                have et2 : tl.take i ++ [lo] = tl.take (i + 1) := by rw [hlo]; exact ofTake tl i (by omega)
                have et3 : th.take i ++ [hh] = th.take (i + 1) := by rw [hhh]; exact ofTake th i (by omega)
                have ET2 := Aside0.mk et2
                have ET3 := Aside0.mk et3
                clear ql qh fl fh RL RH H2b H3b BX8 N3 HK RAT et2 et3 hlj hj
                go_wp2_with fail
                refine start_ (n := 14) (S := fun w' => w'.heap[B]? = some (.cells #[.slice A5 l1.length c5, .slice A6 l2.length c6, .slice A2' i c2', .slice A3' i c3'] 25 (0, 0))) (ds := [11, 13]) #[false, false, false, false, false, false, false, false, false, false, false, false, false, false] (by kernel_rfl) rfl rfl BXr.out (fun hHeld => ?_)
                refine with_tabW curve_Of.tab18 curve_Of.bits18 (fun HT_ HW_ => ?_)
                have hbd := below_drew1 (Below.refl wr.heap.size wr)
                have c0 : OfC B w7 #[.slice A5 l1.length c5, .slice A6 l2.length c6, .slice A2' i c2', .slice A3' i c3'] (fun k => ok3 k ∧ k < no) (fun k => k = gh) (.slice A3' i c3') (.slice (some ⟨gh, 0, none⟩) l2.length ch) (th.take i) hh wr.heap.size wr.drew := OfC.later CC.out hBn hbd
                have p0 : Kd.N (Kd.slice 3 (Kd.int .i64)) 22 wr.drew B (fun k => ok2 k ∧ k < no) (.slice A2' i c2') (tl.take i) ∧ Kd.FK (Kd.slice 3 (Kd.int .i64)) wr.drew (fun k => k = gl) lo [.slice (some ⟨gl, 0, none⟩) l2.length cl] := ⟨Kd.N_below N2.out hbd, Kd.FK_below FL.out hbd⟩
                clear hbd CC N2 FL BXr
                generalize wr.drew = w39 at hHeld c0 p0 ⊢
                refine pure_ (i := 0) (N := some 70) (v := ?_) (a' := ?_) #[true, false, false, false, false, false, false, false, false, false, false, false, false, false] rfl rfl (any_of HT_.out (by kernel_rfl)) (fun _ _ _ h => h) (Or.inl ⟨by rfl, ?_⟩) ?_ ?_
                rotate_left
                · intro w'
                  go_simp
                  with_reducible rfl
                rotate_left
                · simp only [Act.put, List.setIfInBounds_toArray, List.set_cons_zero, List.set_cons_succ, i64_w, i32_w]
                  rfl
                refine pure_ (i := 2) (N := some 72) (v := ?_) (a' := ?_) #[true, false, true, false, false, false, false, false, false, false, false, false, false, false] rfl rfl (any_of HT_.out (by kernel_rfl)) (fun _ _ _ h => h) (Or.inl ⟨by rfl, ?_⟩) ?_ ?_
                rotate_left
                · intro w'
                  go_simp
                  with_reducible rfl
                rotate_left
                · simp only [Act.put, List.setIfInBounds_toArray, List.set_cons_zero, List.set_cons_succ, i64_w, i32_w]
                  rfl
                refine pure_ (i := 5) (N := some 75) (v := ?_) (a' := ?_) #[true, false, true, false, false, true, false, false, false, false, false, false, false, false] rfl rfl (any_of HT_.out (by kernel_rfl)) (fun _ _ _ h => h) (Or.inl ⟨by rfl, ?_⟩) ?_ ?_
                rotate_left
                · intro w'
                  go_simp
                  with_reducible rfl
                rotate_left
                · simp only [Act.put, List.setIfInBounds_toArray, List.set_cons_zero, List.set_cons_succ, i64_w, i32_w]
                  rfl
                refine pure_ (i := 7) (N := some 77) (v := ?_) (a' := ?_) #[true, false, true, false, false, true, false, true, false, false, false, false, false, false] rfl rfl (any_of HT_.out (by kernel_rfl)) (fun _ _ _ h => h) (Or.inl ⟨by rfl, ?_⟩) ?_ ?_
                rotate_left
                · intro w'
                  go_simp
                  with_reducible rfl
                rotate_left
                · simp only [Act.put, List.setIfInBounds_toArray, List.set_cons_zero, List.set_cons_succ, i64_w, i32_w]
                  rfl
                refine take_ (i := 1) (N := some 71) (v := ?_) (a' := ?_) #[true, true, true, false, false, true, false, true, false, false, false, false, false, false] rfl rfl (take_ofW HT_.out HW_.out (by kernel_rfl)) (fun _ _ _ h => h) (Or.inl ⟨by rfl, ?_⟩) hHeld ?_ ?_
                rotate_left
                · intro w' hS_
                  have s0 : World.cell? _ ⟨B, 2, none⟩ = some (.slice A2' i c2') := (blk_cell hS_ 2).trans rfl
                  go_simp
                  with_reducible rfl
                rotate_left
                · simp only [Act.put, List.setIfInBounds_toArray, List.set_cons_zero, List.set_cons_succ, i64_w, i32_w]
                  rfl
                refine take_ (i := 6) (N := some 76) (v := ?_) (a' := ?_) #[true, true, true, false, false, true, true, true, false, false, false, false, false, false] rfl rfl (take_ofW HT_.out HW_.out (by kernel_rfl)) (fun _ _ _ h => h) (Or.inl ⟨by rfl, ?_⟩) hHeld ?_ ?_
                rotate_left
                · intro w' hS_
                  have s0 : World.cell? _ ⟨B, 3, none⟩ = some (.slice A3' i c3') := (blk_cell hS_ 3).trans rfl
                  go_simp
                  with_reducible rfl
                rotate_left
                · simp only [Act.put, List.setIfInBounds_toArray, List.set_cons_zero, List.set_cons_succ, i64_w, i32_w]
                  rfl
                refine join_ (σ := Nat × Option Addr × Nat × (Nat → Prop) × Nat) 4 #[true, true, true, true, true, true, true, true, true, false, true, false, false, false] (fun s_ => [(73, .slice (some ⟨s_.1, 0, none⟩) 1 1), (74, .slice s_.2.1 (i + 1) s_.2.2.1), (80, .pointer (some ⟨B, 2, none⟩)), (78, .slice (some ⟨s_.2.2.2.2, 0, none⟩) 1 1)]) (fun s_ w' => OfC B w7 #[.slice A5 l1.length c5, .slice A6 l2.length c6, .slice A2' i c2', .slice A3' i c3'] (fun k => ok3 k ∧ k < no) (fun k => k = gh) (.slice A3' i c3') (.slice (some ⟨gh, 0, none⟩) l2.length ch) (th.take i) hh wr.heap.size w' ∧ (Kd.N (Kd.slice 3 (Kd.int .i64)) 22 w' B s_.2.2.2.1 (.slice s_.2.1 (i + 1) s_.2.2.1) (tl.take i ++ [lo]) ∧ (∀ k, s_.2.2.2.1 k → B < k ∧ ¬ (ok3 k ∧ k < no) ∧ k ≠ gh)) ∧ (w'.heap[s_.2.2.2.2]? = some (.cells #[.slice (some ⟨gh, 0, none⟩) l2.length ch] 22 (0, 0)) ∧ wr.heap.size ≤ s_.2.2.2.2) ∧ ¬ s_.2.2.2.1 s_.2.2.2.2) ?_ ?_
                rotate_left
                · intro hJ4
                  refine join_ (σ := Nat × Nat) 6 #[true, true, true, true, false, true, true, true, true, false, false, false, false, false] (fun s_ => [(73, .slice (some ⟨s_.1, 0, none⟩) 1 1), (78, .slice (some ⟨s_.2, 0, none⟩) 1 1)]) (fun s_ w' => OfC B w7 #[.slice A5 l1.length c5, .slice A6 l2.length c6, .slice A2' i c2', .slice A3' i c3'] (fun k => ok3 k ∧ k < no) (fun k => k = gh) (.slice A3' i c3') (.slice (some ⟨gh, 0, none⟩) l2.length ch) (th.take i) hh wr.heap.size w' ∧ (Kd.N (Kd.slice 3 (Kd.int .i64)) 22 w' B (fun k => ok2 k ∧ k < no) (.slice A2' i c2') (tl.take i) ∧ Kd.FK (Kd.slice 3 (Kd.int .i64)) w' (fun k => k = gl) lo [.slice (some ⟨gl, 0, none⟩) l2.length cl]) ∧ (w'.heap[s_.1]? = some (.cells #[.slice (some ⟨gl, 0, none⟩) l2.length cl] 22 (0, 0)) ∧ wr.heap.size ≤ s_.1) ∧ (w'.heap[s_.2]? = some (.cells #[.slice (some ⟨gh, 0, none⟩) l2.length ch] 22 (0, 0)) ∧ wr.heap.size ≤ s_.2) ∧ s_.1 ≠ s_.2) ?_ ?_
                  rotate_left
                  · intro hJ8
                    refine two_ (i := 3) (j := 8) (Ni := some 73) (Nj := some 78) #[true, true, true, true, false, true, true, true, false, false, false, false, false, false] #[true, true, true, false, false, true, true, true, true, false, false, false, false, false] rfl rfl rfl rfl (two_of HT_.out (by kernel_rfl)) (by decide) (by decide) (fun K hK => ?_) (fun K hK => ?_)
                    · skip
                      refine of_lit ?hg (N := 73) ?hd (vx := .slice (some ⟨gl, 0, none⟩) l2.length cl) ?hr ?_; (case hd => rfl); (case hg => rfl); (case hr => first | (go_simp; done) | (go_simp; rfl))
                      intro g3 w40 eg3 kg3 hb
                      have lg3 : wr.heap.size ≤ g3 := by rw [eg3]; exact c0.2.2.2.2
                      have c1 := OfC.later c0 hBn hb
                      refine hK.out _ _ c1.2.1 (fun _ => ?_)
                      clear hK K
                      refine norm_ (a' := ?_) ?_ ?_
                      rotate_left
                      · show Act.put _ (some 73) _ = _
                        simp only [Act.put, List.setIfInBounds_toArray, List.set_cons_zero, List.set_cons_succ, i64_w, i32_w]
                        rfl
                      have p1 : Kd.N (Kd.slice 3 (Kd.int .i64)) 22 w40 B (fun k => ok2 k ∧ k < no) (.slice A2' i c2') (tl.take i) ∧ Kd.FK (Kd.slice 3 (Kd.int .i64)) w40 (fun k => k = gl) lo [.slice (some ⟨gl, 0, none⟩) l2.length cl] := ⟨Kd.N_below p0.1 hb, Kd.FK_below p0.2 hb⟩
                      refine two_ (i := 4) (j := 8) (Ni := some 74) (Nj := some 78) #[true, true, true, true, true, true, true, true, false, false, false, false, false, false] #[true, true, true, true, false, true, true, true, true, false, false, false, false, false] rfl rfl rfl rfl (two_of HT_.out (by kernel_rfl)) (by decide) (by decide) (fun K hK => ?_) (fun K hK => ?_)
                      · skip
                        refine of_app (by rfl) (.tmp 71) (.tmp 73) rfl (g := g3) (v := .slice A2' i c2') (vx := .slice (some ⟨gl, 0, none⟩) l2.length cl) (rows := tl.take i) (r := lo) (ok := fun k => ok2 k ∧ k < no) (okx := fun k => k = gl) rfl rfl c1.1 (by have := c1.2.2.2.2; omega) p1.1 p1.2 kg3 (fun k hk => ⟨by have := hk.2; omega, by have := hk.2; omega⟩) htl (by omega) ?_
                        intro An cn w41 okn hn hok hb1 hg1
                        have hv2 : ∀ k, (Value.slice A2' i c2').ownBlock = some k → ok2 k ∧ k < no := p1.1.1
                        have cN := OfC.grown c1 hg1 (fun k e => by have h_ := hv2 k e; have h1_ := HD.out.1 k h_.1; exact ⟨by omega, fun h2_ => h1_.2 h2_.1, by have := h_.2; omega⟩) hb1
                        have hsz := c1.2.2.2.2
                        have hna : ∀ k, okn k → B < k ∧ ¬ (ok3 k ∧ k < no) ∧ k ≠ gh := by
                          intro k hk
                          rcases (hok k hk).1 with h_ | h_ | h_ | h_
                          · have h1_ := HD.out.1 k h_.1; have h2_ := h_.2; exact ⟨by omega, fun h3_ => h1_.2 h3_.1, by omega⟩
                          · exact ⟨by omega, fun h3_ => by have := h3_.2; omega, by omega⟩
                          · exact ⟨by omega, fun h3_ => by have := h3_.2; omega, by omega⟩
                          · exact ⟨by omega, fun h3_ => by have := h3_.2; omega, by omega⟩
                        have hlt4 : ∀ k, okn k → k < w41.heap.size := fun k hk => (hok k hk).2
                        refine hK.out _ _ cN.2.1 (fun _ => ?_)
                        clear hK K
                        refine norm_ (a' := ?_) ?_ ?_
                        rotate_left
                        · show Act.put _ (some 74) _ = _
                          simp only [Act.put, List.setIfInBounds_toArray, List.set_cons_zero, List.set_cons_succ, i64_w, i32_w]
                          rfl
                        refine pure_ (i := 10) (N := some 80) (v := ?_) (a' := ?_) #[true, true, true, true, true, true, true, true, false, false, true, false, false, false] rfl rfl (any_of HT_.out (by kernel_rfl)) (fun _ _ _ h => h) (Or.inl ⟨by rfl, ?_⟩) ?_ ?_
                        rotate_left
                        · intro w'
                          go_simp
                          with_reducible rfl
                        rotate_left
                        · simp only [Act.put, List.setIfInBounds_toArray, List.set_cons_zero, List.set_cons_succ, i64_w, i32_w]
                          rfl
                        refine one_ (i := 8) (N := some 78) #[true, true, true, true, true, true, true, true, true, false, true, false, false, false] rfl rfl (one_of HT_.out (by kernel_rfl)) (by decide) (fun K hK => ?_)
                        refine of_lit ?hg (N := 78) ?hd (vx := .slice (some ⟨gh, 0, none⟩) l2.length ch) ?hr ?_; (case hd => rfl); (case hg => rfl); (case hr => first | (go_simp; done) | (go_simp; rfl))
                        intro g8 w42 eg8 kg8 hb
                        have lg8 : wr.heap.size ≤ g8 := by rw [eg8]; exact cN.2.2.2.2
                        have c1 := OfC.later cN hBn hb
                        refine hK.out _ _ c1.2.1 (fun _ => ?_)
                        clear hK K
                        refine norm_ (a' := ?_) ?_ ?_
                        rotate_left
                        · show Act.put _ (some 78) _ = _
                          simp only [Act.put, List.setIfInBounds_toArray, List.set_cons_zero, List.set_cons_succ, i64_w, i32_w]
                          rfl
                        exact norm_ (by first | (simp only [putAll, Act.put, List.setIfInBounds_toArray, List.set_cons_zero, List.set_cons_succ]; done) | (simp only [putAll, Act.put, List.setIfInBounds_toArray, List.set_cons_zero, List.set_cons_succ]; rfl)) (hJ4 (g3, An, cn, okn, g8) _ ⟨c1, ⟨Kd.N_below hn hb, hna⟩, ⟨kg8, lg8⟩, fun h_ => by have h1_ : g8 < w41.heap.size := hlt4 g8 h_; omega⟩)
                      · skip
                        have c0_ := c1
                        have k3_ := kg3
                        refine of_lit ?hg (N := 78) ?hd (vx := .slice (some ⟨gh, 0, none⟩) l2.length ch) ?hr ?_; (case hd => rfl); (case hg => rfl); (case hr => first | (go_simp; done) | (go_simp; rfl))
                        intro g8 w41 eg8 kg8 hb
                        have lg8 : wr.heap.size ≤ g8 := by rw [eg8]; exact c0_.2.2.2.2
                        have c1 := OfC.later c0_ hBn hb
                        refine hK.out _ _ c1.2.1 (fun _ => ?_)
                        clear hK K
                        refine norm_ (a' := ?_) ?_ ?_
                        rotate_left
                        · show Act.put _ (some 78) _ = _
                          simp only [Act.put, List.setIfInBounds_toArray, List.set_cons_zero, List.set_cons_succ, i64_w, i32_w]
                          rfl
                        exact norm_ (by first | (simp only [putAll, Act.put, List.setIfInBounds_toArray, List.set_cons_zero, List.set_cons_succ]; done) | (simp only [putAll, Act.put, List.setIfInBounds_toArray, List.set_cons_zero, List.set_cons_succ]; rfl)) (hJ8 (g3, g8) _ ⟨c1, ⟨Kd.N_below p1.1 hb, Kd.FK_below p1.2 hb⟩, ⟨blk_below kg3 hb, lg3⟩, ⟨kg8, lg8⟩, by have h_ := blk_lt kg3; show g3 ≠ g8; omega⟩)
                    · skip
                      refine of_lit ?hg (N := 78) ?hd (vx := .slice (some ⟨gh, 0, none⟩) l2.length ch) ?hr ?_; (case hd => rfl); (case hg => rfl); (case hr => first | (go_simp; done) | (go_simp; rfl))
                      intro g8 w40 eg8 kg8 hb
                      have lg8 : wr.heap.size ≤ g8 := by rw [eg8]; exact c0.2.2.2.2
                      have c1 := OfC.later c0 hBn hb
                      refine hK.out _ _ c1.2.1 (fun _ => ?_)
                      clear hK K
                      refine norm_ (a' := ?_) ?_ ?_
                      rotate_left
                      · show Act.put _ (some 78) _ = _
                        simp only [Act.put, List.setIfInBounds_toArray, List.set_cons_zero, List.set_cons_succ, i64_w, i32_w]
                        rfl
                      have p1 : Kd.N (Kd.slice 3 (Kd.int .i64)) 22 w40 B (fun k => ok2 k ∧ k < no) (.slice A2' i c2') (tl.take i) ∧ Kd.FK (Kd.slice 3 (Kd.int .i64)) w40 (fun k => k = gl) lo [.slice (some ⟨gl, 0, none⟩) l2.length cl] := ⟨Kd.N_below p0.1 hb, Kd.FK_below p0.2 hb⟩
                      have c0_ := c1
                      have hb0_ := hb
                      refine one_ (i := 3) (N := some 73) #[true, true, true, true, false, true, true, true, true, false, false, false, false, false] rfl rfl (one_of HT_.out (by kernel_rfl)) (by decide) (fun K hK => ?_)
                      refine of_lit ?hg (N := 73) ?hd (vx := .slice (some ⟨gl, 0, none⟩) l2.length cl) ?hr ?_; (case hd => rfl); (case hg => rfl); (case hr => first | (go_simp; done) | (go_simp; rfl))
                      intro g3 w41 eg3 kg3 hb
                      have lg3 : wr.heap.size ≤ g3 := by rw [eg3]; exact c0_.2.2.2.2
                      have c1 := OfC.later c0_ hBn hb
                      refine hK.out _ _ c1.2.1 (fun _ => ?_)
                      clear hK K
                      refine norm_ (a' := ?_) ?_ ?_
                      rotate_left
                      · show Act.put _ (some 73) _ = _
                        simp only [Act.put, List.setIfInBounds_toArray, List.set_cons_zero, List.set_cons_succ, i64_w, i32_w]
                        rfl
                      exact norm_ (by first | (simp only [putAll, Act.put, List.setIfInBounds_toArray, List.set_cons_zero, List.set_cons_succ]; done) | (simp only [putAll, Act.put, List.setIfInBounds_toArray, List.set_cons_zero, List.set_cons_succ]; rfl)) (hJ8 (g3, g8) _ ⟨c1, ⟨Kd.N_below p1.1 hb, Kd.FK_below p1.2 hb⟩, ⟨kg3, lg3⟩, ⟨blk_below kg8 hb, lg8⟩, by have h_ := blk_lt kg8; show g3 ≠ g8; omega⟩)
                  · skip
                    rintro ⟨g3, g8⟩ w42 ⟨c1, p1, ⟨kg3, lg3⟩, ⟨kg8, lg8⟩, ne_⟩
                    replace c1 : OfC B w7 #[.slice A5 l1.length c5, .slice A6 l2.length c6, .slice A2' i c2', .slice A3' i c3'] (fun k => ok3 k ∧ k < no) (fun k => k = gh) (.slice A3' i c3') (.slice (some ⟨gh, 0, none⟩) l2.length ch) (th.take i) hh wr.heap.size w42 := c1
                    replace p1 : Kd.N (Kd.slice 3 (Kd.int .i64)) 22 w42 B (fun k => ok2 k ∧ k < no) (.slice A2' i c2') (tl.take i) ∧ Kd.FK (Kd.slice 3 (Kd.int .i64)) w42 (fun k => k = gl) lo [.slice (some ⟨gl, 0, none⟩) l2.length cl] := p1
                    replace kg3 : w42.heap[g3]? = some (.cells #[.slice (some ⟨gl, 0, none⟩) l2.length cl] 22 (0, 0)) := kg3
                    replace lg3 : wr.heap.size ≤ g3 := lg3
                    replace kg8 : w42.heap[g8]? = some (.cells #[.slice (some ⟨gh, 0, none⟩) l2.length ch] 22 (0, 0)) := kg8
                    replace lg8 : wr.heap.size ≤ g8 := lg8
                    replace ne_ : g3 ≠ g8 := ne_
                    refine norm_ (a' := ?_) ?_ ?_
                    rotate_left
                    · simp only [putAll, Act.put, List.setIfInBounds_toArray, List.set_cons_zero, List.set_cons_succ]
                      rfl
                    refine one_ (i := 4) (N := some 74) #[true, true, true, true, true, true, true, true, true, false, false, false, false, false] rfl rfl (one_of HT_.out (by kernel_rfl)) (by decide) (fun K hK => ?_)
                    refine of_app (by rfl) (.tmp 71) (.tmp 73) rfl (g := g3) (v := .slice A2' i c2') (vx := .slice (some ⟨gl, 0, none⟩) l2.length cl) (rows := tl.take i) (r := lo) (ok := fun k => ok2 k ∧ k < no) (okx := fun k => k = gl) rfl rfl c1.1 (by have := c1.2.2.2.2; omega) p1.1 p1.2 kg3 (fun k hk => ⟨by have := hk.2; omega, by have := hk.2; omega⟩) htl (by omega) ?_
                    intro An cn w43 okn hn hok hb1 hg1
                    have hv2 : ∀ k, (Value.slice A2' i c2').ownBlock = some k → ok2 k ∧ k < no := p1.1.1
                    have cN := OfC.grown c1 hg1 (fun k e => by have h_ := hv2 k e; have h1_ := HD.out.1 k h_.1; exact ⟨by omega, fun h2_ => h1_.2 h2_.1, by have := h_.2; omega⟩) hb1
                    have hsz := c1.2.2.2.2
                    have hna : ∀ k, okn k → B < k ∧ ¬ (ok3 k ∧ k < no) ∧ k ≠ gh := by
                      intro k hk
                      rcases (hok k hk).1 with h_ | h_ | h_ | h_
                      · have h1_ := HD.out.1 k h_.1; have h2_ := h_.2; exact ⟨by omega, fun h3_ => h1_.2 h3_.1, by omega⟩
                      · exact ⟨by omega, fun h3_ => by have := h3_.2; omega, by omega⟩
                      · exact ⟨by omega, fun h3_ => by have := h3_.2; omega, by omega⟩
                      · exact ⟨by omega, fun h3_ => by have := h3_.2; omega, by omega⟩
                    have hlt4 : ∀ k, okn k → k < w43.heap.size := fun k hk => (hok k hk).2
                    refine hK.out _ _ cN.2.1 (fun _ => ?_)
                    clear hK K
                    refine norm_ (a' := ?_) ?_ ?_
                    rotate_left
                    · show Act.put _ (some 74) _ = _
                      simp only [Act.put, List.setIfInBounds_toArray, List.set_cons_zero, List.set_cons_succ, i64_w, i32_w]
                      rfl
                    refine pure_ (i := 10) (N := some 80) (v := ?_) (a' := ?_) #[true, true, true, true, true, true, true, true, true, false, true, false, false, false] rfl rfl (any_of HT_.out (by kernel_rfl)) (fun _ _ _ h => h) (Or.inl ⟨by rfl, ?_⟩) ?_ ?_
                    rotate_left
                    · intro w'
                      go_simp
                      with_reducible rfl
                    rotate_left
                    · simp only [Act.put, List.setIfInBounds_toArray, List.set_cons_zero, List.set_cons_succ, i64_w, i32_w]
                      rfl
                    have h8_ := blk_lt kg8
                    exact norm_ (by first | (simp only [putAll, Act.put, List.setIfInBounds_toArray, List.set_cons_zero, List.set_cons_succ]; done) | (simp only [putAll, Act.put, List.setIfInBounds_toArray, List.set_cons_zero, List.set_cons_succ]; rfl)) (hJ4 (g3, An, cn, okn, g8) _ ⟨cN, ⟨hn, hna⟩, ⟨blk_grown kg8 hg1 (fun e => by have h1_ : g8 < no := (hv2 g8 e.symm).2; omega), lg8⟩, fun h_ => by rcases (hok g8 h_).1 with h1_ | h1_ | h1_ | h1_; exact absurd h1_.2 (by omega); exact absurd h1_ (by omega); exact ne_ h1_.symm; exact absurd h1_ (by omega)⟩)
                · skip
                  rintro ⟨g3, An, cn, okn, g8⟩ w44 ⟨c1, ⟨hn, hna⟩, ⟨kg8, lg8⟩, hn8_⟩
                  replace c1 : OfC B w7 #[.slice A5 l1.length c5, .slice A6 l2.length c6, .slice A2' i c2', .slice A3' i c3'] (fun k => ok3 k ∧ k < no) (fun k => k = gh) (.slice A3' i c3') (.slice (some ⟨gh, 0, none⟩) l2.length ch) (th.take i) hh wr.heap.size w44 := c1
                  replace hn : Kd.N (Kd.slice 3 (Kd.int .i64)) 22 w44 B okn (.slice An (i + 1) cn) (tl.take i ++ [lo]) := hn
                  replace hna : ∀ k, okn k → B < k ∧ ¬ (ok3 k ∧ k < no) ∧ k ≠ gh := hna
                  replace kg8 : w44.heap[g8]? = some (.cells #[.slice (some ⟨gh, 0, none⟩) l2.length ch] 22 (0, 0)) := kg8
                  replace lg8 : wr.heap.size ≤ g8 := lg8
                  replace hn8_ : ¬ okn g8 := hn8_
                  refine norm_ (a' := ?_) ?_ ?_
                  rotate_left
                  · simp only [putAll, Act.put, List.setIfInBounds_toArray, List.set_cons_zero, List.set_cons_succ]
                    rfl
                  refine one_ (i := 9) (N := some 79) #[true, true, true, true, true, true, true, true, true, true, true, false, false, false] rfl rfl (one_of HT_.out (by kernel_rfl)) (by decide) (fun K hK => ?_)
                  refine of_app (by rfl) (.tmp 76) (.tmp 78) rfl (g := g8) (v := .slice A3' i c3') (vx := .slice (some ⟨gh, 0, none⟩) l2.length ch) (rows := th.take i) (r := hh) (ok := fun k => ok3 k ∧ k < no) (okx := fun k => k = gh) rfl rfl c1.1 (by have := c1.2.2.2.2; omega) c1.2.2.1 c1.2.2.2.1 kg8 (fun k hk => ⟨by have := hk.2; omega, by have := hk.2; omega⟩) hth (by omega) ?_
                  intro Am cm w45 okm hm hok hb1 hg1
                  have hsz := c1.2.2.2.2
                  have hv3 : ∀ k, (Value.slice A3' i c3').ownBlock = some k → ok3 k ∧ k < no := c1.2.2.1.1
                  have hbx := blk_grown c1.2.1 hg1 (fun e => by have := HD.out.2 _ (hv3 _ e.symm).1; omega)
                  have hn2 := Kd.N_grown (Kd.N_bound hn) hg1 (fun k hk e => (hna k hk.1).2.1 (hv3 k e.symm))
                  have hd2 : (∀ k, (okn k ∧ k < w44.heap.size) → B < k ∧ ¬ okm k) ∧ ∀ k, okm k → B < k := by
                    constructor
                    · intro k hk
                      refine ⟨(hna k hk.1).1, fun h_ => ?_⟩
                      rcases (hok k h_).1 with h1_ | h1_ | h1_ | h1_
                      · exact (hna k hk.1).2.1 h1_
                      · exact (hna k hk.1).2.2 h1_
                      · subst h1_; exact hn8_ hk.1
                      · have := hk.2; omega
                    · intro k hk
                      rcases (hok k hk).1 with h1_ | h1_ | h1_ | h1_
                      · exact HD.out.2 k h1_.1
                      · omega
                      · omega
                      · omega
                  refine hK.out _ _ hbx (fun _ => ?_)
                  clear hK K
                  refine norm_ (a' := ?_) ?_ ?_
                  rotate_left
                  · show Act.put _ (some 79) _ = _
                    simp only [Act.put, List.setIfInBounds_toArray, List.set_cons_zero, List.set_cons_succ, i64_w, i32_w]
                    rfl
                  have y2 : w45.cell? ⟨B, 2, none⟩ = some (.slice A2' i c2') := (blk_cell hbx 2).trans rfl
                  have y3 : w45.cell? ⟨B, 3, none⟩ = some (.slice A3' i c3') := (blk_cell hbx 3).trans rfl
                  have z2 := blk_frozen hbx 2
                  have z3 := blk_frozen hbx 3
                  refine last_ (i := 11) (N := none) #[true, true, true, true, true, true, true, true, true, true, true, true, false, false] rfl rfl (one_of HT_.out (by kernel_rfl)) (by decide) (fun K hK => ?_)
                  refine skip_ (w1 := ?_) (by rfl) rfl ?_ ?_
                  rotate_left
                  · go_simp
                    rfl
                  refine hK.out _ _ ?_
                  clear hK K
                  refine pure_ (i := 12) (N := some 81) (v := ?_) (a' := ?_) #[true, true, true, true, true, true, true, true, true, true, true, true, true, false] rfl rfl (any_of HT_.out (by kernel_rfl)) (fun _ _ _ h => h) (Or.inl ⟨by rfl, ?_⟩) ?_ ?_
                  rotate_left
                  · intro w'
                    go_simp
                    with_reducible rfl
                  rotate_left
                  · simp only [Act.put, List.setIfInBounds_toArray, List.set_cons_zero, List.set_cons_succ, i64_w, i32_w]
                    rfl
                  refine last_ (i := 13) (N := none) #[true, true, true, true, true, true, true, true, true, true, true, true, true, true] rfl rfl (one_of HT_.out (by kernel_rfl)) (by decide) (fun K hK => ?_)
                  refine skip_ (w1 := ?_) (by rfl) rfl ?_ ?_
                  rotate_left
                  · go_simp
                    rfl
                  refine hK.out _ _ ?_
                  clear hK K
                  refine done_ (done_of HT_.out (by kernel_rfl)) ?_
                  have d1 : (World.setCell (World.setCell w45 ⟨B, 2, none⟩ (.slice An (i + 1) cn)) ⟨B, 3, none⟩ (.slice Am (i + 1) cm)).heap[B]? = some (.cells #[.slice A5 l1.length c5, .slice A6 l2.length c6, .slice An (i + 1) cn, .slice Am (i + 1) cm] 25 (0, 0)) := by
                    refine blk_put (cs := #[.slice A5 l1.length c5, .slice A6 l2.length c6, .slice An (i + 1) cn, .slice A3' i c3']) ?_ 3 _ rfl
                    exact blk_put hbx 2 _ rfl
                  have d2 : Kd.N (Kd.slice 3 (Kd.int .i64)) 22 (World.setCell (World.setCell w45 ⟨B, 2, none⟩ (.slice An (i + 1) cn)) ⟨B, 3, none⟩ (.slice Am (i + 1) cm)) B (fun k => okn k ∧ k < w44.heap.size) (.slice An (i + 1) cn) (tl.take i ++ [lo]) := Kd.N_far (Kd.N_far hn2 (fun k hk => by have := (hd2.1 k hk).1; show k ≠ B; omega) _) (fun k hk => by have := (hd2.1 k hk).1; show k ≠ B; omega) _
                  have d3 : Kd.N (Kd.slice 3 (Kd.int .i64)) 22 (World.setCell (World.setCell w45 ⟨B, 2, none⟩ (.slice An (i + 1) cn)) ⟨B, 3, none⟩ (.slice Am (i + 1) cm)) B okm (.slice Am (i + 1) cm) (th.take i ++ [hh]) := Kd.N_far (Kd.N_far hm (fun k hk => by have := hd2.2 k hk; show k ≠ B; omega) _) (fun k hk => by have := hd2.2 k hk; show k ≠ B; omega) _
                  have d4 : Below B w7 (World.setCell (World.setCell w45 ⟨B, 2, none⟩ (.slice An (i + 1) cn)) ⟨B, 3, none⟩ (.slice Am (i + 1) cm)) := (hb1.setCell (p := ⟨B, 2, none⟩) (Nat.le_refl _) _).setCell (p := ⟨B, 3, none⟩) (Nat.le_refl _) _
                  have D1 := Aside0.mk d1
                  have D2 := Aside0.mk d2
                  have D3 := Aside0.mk d3
                  have D4 := Aside0.mk d4
                  have D5 := Aside0.mk hd2
                  clear d1 d2 d3 d4 hd2 hbx y2 y3 z2 z3 hn hm hn2 hna hok hb1 hg1 hv3 c1 kg8 HT_ HW_
                  generalize (World.setCell (World.setCell w45 ⟨B, 2, none⟩ (.slice An (i + 1) cn)) ⟨B, 3, none⟩ (.slice Am (i + 1) cm)) = wf at D1 D2 D3 D4 ⊢
                  rw [ET2.out] at D2
                  rw [ET3.out] at D3
                  go_wp2_with fail
                  go_roundw
                  case rel => exact ⟨i + 1, An, Am, cn, cm, _, okm, by omega, by go_num, D1, D2, D3, D5, D4⟩
                  case measure => simp [intOf]; omega
        · obtain rfl : i = l1.length := by omega
          have et2 : tl.take l1.length = tl := by rw [← tn1, List.take_length]
          have et3 : th.take l1.length = th := by rw [← tn2, List.take_length]
          have n2' := H2.out
          have n3' := H3.out
          rw [et2] at n2'
          rw [et3] at n3'
          have N2 := Aside0.mk n2'
          have N3 := Aside0.mk n3'
          have bf : wr.heap[w.heap.size + 1]? = some (.cells #[.slice none 0 0, .slice none 0 0, .slice none 0 0, .slice none 0 0] 25 (0, 0)) := (HBr.out.block _ (by omega)).trans BF7.out
          have BFr := Aside0.mk bf
          have y0 : wr.cell? ⟨B, 0, none⟩ = some (.slice A5 l1.length c5) := (blk_cell BX.out 0).trans rfl
          have y1 : wr.cell? ⟨B, 1, none⟩ = some (.slice A6 l2.length c6) := (blk_cell BX.out 1).trans rfl
          have y2 : wr.cell? ⟨B, 2, none⟩ = some (.slice A2' l1.length c2') := (blk_cell BX.out 2).trans rfl
          have y3 : wr.cell? ⟨B, 3, none⟩ = some (.slice A3' l1.length c3') := (blk_cell BX.out 3).trans rfl
          have f0 : wr.cell? ⟨w.heap.size + 1, 0, none⟩ = some (.slice none 0 0) := (blk_cell bf 0).trans rfl
          have z0 := blk_frozen bf 0
          have f1 : wr.cell? ⟨w.heap.size + 1, 1, none⟩ = some (.slice none 0 0) := (blk_cell bf 1).trans rfl
          have z1 := blk_frozen bf 1
          have f2 : wr.cell? ⟨w.heap.size + 1, 2, none⟩ = some (.slice none 0 0) := (blk_cell bf 2).trans rfl
          have z2 := blk_frozen bf 2
          have f3 : wr.cell? ⟨w.heap.size + 1, 3, none⟩ = some (.slice none 0 0) := (blk_cell bf 3).trans rfl
          have z3 := blk_frozen bf 3
          clear et2 et3 n2' n3' bf H2 H3 BX
          go_wp2_with fail
          refine bodyPost_ret (results_ct rfl _ _ (w.heap.size + 1) 25 #[.slice A5 l1.length c5, .slice A6 l2.length c6, .slice A2' l1.length c2', .slice A3' l1.length c3'] (0, 0) _ rfl (by refine blk_put (cs := #[.slice A5 l1.length c5, .slice A6 l2.length c6, .slice A2' l1.length c2', .slice none 0 0]) ?_ 3 _ rfl; refine blk_put (cs := #[.slice A5 l1.length c5, .slice A6 l2.length c6, .slice none 0 0, .slice none 0 0]) ?_ 2 _ rfl; refine blk_put (cs := #[.slice A5 l1.length c5, .slice none 0 0, .slice none 0 0, .slice none 0 0]) ?_ 1 _ rfl; refine blk_put (cs := #[.slice none 0 0, .slice none 0 0, .slice none 0 0, .slice none 0 0]) ?_ 0 _ rfl; exact BFr.out) Try.underlying25 rfl (by kernel_rfl)) rfl ?_
          have k0 : ∀ k, (Value.slice A5 l1.length c5).ownBlock = some k → k < B := fun k e => (HV0.out.1 k e).2.1
          have k1 : ∀ k, (Value.slice A6 l2.length c6).ownBlock = some k → k < B := fun k e => (HV1.out.1 k e).2.1
          have k2 : ∀ k, (Value.slice A2' l1.length c2').ownBlock = some k → ok2 k := N2.out.1
          have k3 : ∀ k, (Value.slice A3' l1.length c3').ownBlock = some k → ok3 k := N3.out.1
          have far0 : ∀ k, ((w.heap.size ≤ k ∧ some k ≠ (Value.slice A6 l2.length c6).ownBlock) ∧ k < B ∧ w.heap.size + 1 < k) → k ≠ w.heap.size + 1 := fun k hk => by have := hk.2.2; omega
          have far1 : ∀ k, ((w.heap.size ≤ k ∧ some k ≠ (Value.slice A5 l1.length c5).ownBlock) ∧ k < B ∧ w.heap.size + 1 < k) → k ≠ w.heap.size + 1 := fun k hk => by have := hk.2.2; omega
          have far2 : ∀ k, ok2 k → k ≠ w.heap.size + 1 := fun k hk => by have := (HD.out.1 k hk).1; omega
          have far3 : ∀ k, ok3 k → k ≠ w.heap.size + 1 := fun k hk => by have := HD.out.2 k hk; omega
          refine ⟨.slice A5 l1.length c5, .slice A6 l2.length c6, .slice A2' l1.length c2', .slice A3' l1.length c3', rfl, ?_, ?_, ?_, ?_, ?_⟩
          · exact Kd.R_mono (Kd.R_far (Kd.R_far (Kd.R_far (Kd.R_far (Kd.R_step HV0.out (fun k hk _ => HBr.out.block k hk.2.1)) far0 _) far0 _) far0 _) far0 _) (fun _ hk => hk.1)
          · exact Kd.R_mono (Kd.R_far (Kd.R_far (Kd.R_far (Kd.R_far (Kd.R_step HV1.out (fun k hk _ => HBr.out.block k hk.2.1)) far1 _) far1 _) far1 _) far1 _) (fun _ hk => hk.1)
          · exact Kd.N_lower (Kd.N_mono (Kd.N_far (Kd.N_far (Kd.N_far (Kd.N_far N2.out far2 _) far2 _) far2 _) far2 _) (fun k hk => ⟨by have := (HD.out.1 k hk).1; omega, fun e => by have := k0 k e.symm; have := (HD.out.1 k hk).1; omega, fun e => by have := k1 k e.symm; have := (HD.out.1 k hk).1; omega, fun e => (HD.out.1 k hk).2 (k3 k e.symm)⟩)) (by omega)
          · exact Kd.N_lower (Kd.N_mono (Kd.N_far (Kd.N_far (Kd.N_far (Kd.N_far N3.out far3 _) far3 _) far3 _) far3 _) (fun k hk => ⟨by have := HD.out.2 k hk; omega, fun e => by have := k0 k e.symm; have := HD.out.2 k hk; omega, fun e => by have := k1 k e.symm; have := HD.out.2 k hk; omega, fun e => (HD.out.1 k (k2 k e.symm)).2 hk⟩)) (by omega)
          · exact (((HBw.out.setCell (p := ⟨w.heap.size + 1, 0, none⟩) (by show w.heap.size ≤ w.heap.size + 1; omega) _).setCell (p := ⟨w.heap.size + 1, 1, none⟩) (by show w.heap.size ≤ w.heap.size + 1; omega) _).setCell (p := ⟨w.heap.size + 1, 2, none⟩) (by show w.heap.size ≤ w.heap.size + 1; omega) _).setCell (p := ⟨w.heap.size + 1, 3, none⟩) (by show w.heap.size ≤ w.heap.size + 1; omega) _
    · rw [if_neg z2] at h
      simp only [Option.some.injEq, Prod.mk.injEq] at h
      obtain ⟨rfl, rfl, rfl, rfl, rfl⟩ := h
      have zb : (e2 != 0) = true := bne_iff_ne.mpr z2
      clear z2 he1 he2
      go_enter Try.func52, Try.ntmps52
      go_upto_region 1 with (fail)
      generalize hW : ((w.alloc (Obj.cells #[Value.int IntKind.i64 a0_0, Value.int IntKind.i64 a0_1, Value.int IntKind.i64 a0_2, Value.int IntKind.i64 a0_3, Value.int IntKind.i64 a0_4, Value.int IntKind.i64 a0_5, Value.int IntKind.i64 a0_6, Value.int IntKind.i64 a0_7, Value.int IntKind.i64 a0_8, Value.int IntKind.i64 a0_9] 42)).alloc (Obj.cells #[Value.slice none 0 0, Value.slice none 0 0, Value.slice none 0 0, Value.slice none 0 0] 25)) = W2
      have hs2 : w.heap.size ≤ W2.heap.size := by subst hW; simp; omega
      have hs3 : w.heap.size + 1 < W2.heap.size := by subst hW; simp
      have HB2 : Aside0 (Below w.heap.size w W2) := ⟨by subst hW; exact below_alloc (below_alloc (Below.refl _ _) _) _⟩
      have BL : Aside0 (W2.heap[w.heap.size]? = some (.cells #[Value.int IntKind.i64 a0_0, Value.int IntKind.i64 a0_1, Value.int IntKind.i64 a0_2, Value.int IntKind.i64 a0_3, Value.int IntKind.i64 a0_4, Value.int IntKind.i64 a0_5, Value.int IntKind.i64 a0_6, Value.int IntKind.i64 a0_7, Value.int IntKind.i64 a0_8, Value.int IntKind.i64 a0_9] 42 (0, 0))) := ⟨by subst hW; exact blk_alloc (blk_new w _) _⟩
      have BF : Aside0 (W2.heap[w.heap.size + 1]? = some (.cells #[Value.slice none 0 0, Value.slice none 0 0, Value.slice none 0 0, Value.slice none 0 0] 25 (0, 0))) := ⟨by subst hW; have hq := blk_new (w.alloc (Obj.cells #[Value.int IntKind.i64 a0_0, Value.int IntKind.i64 a0_1, Value.int IntKind.i64 a0_2, Value.int IntKind.i64 a0_3, Value.int IntKind.i64 a0_4, Value.int IntKind.i64 a0_5, Value.int IntKind.i64 a0_6, Value.int IntKind.i64 a0_7, Value.int IntKind.i64 a0_8, Value.int IntKind.i64 a0_9] 42)) (Obj.cells #[Value.slice none 0 0, Value.slice none 0 0, Value.slice none 0 0, Value.slice none 0 0] 25); rw [World.size_alloc] at hq; exact hq⟩
      have x0 : W2.cell? ⟨w.heap.size, 0, none⟩ = some (.int .i64 a0_0) := (blk_cell BL.out 0).trans rfl
      have x1 : W2.cell? ⟨w.heap.size, 1, none⟩ = some (.int .i64 a0_1) := (blk_cell BL.out 1).trans rfl
      have x2 : W2.cell? ⟨w.heap.size, 2, none⟩ = some (.int .i64 a0_2) := (blk_cell BL.out 2).trans rfl
      have x3 : W2.cell? ⟨w.heap.size, 3, none⟩ = some (.int .i64 a0_3) := (blk_cell BL.out 3).trans rfl
      have x4 : W2.cell? ⟨w.heap.size, 4, none⟩ = some (.int .i64 a0_4) := (blk_cell BL.out 4).trans rfl
      have x5 : W2.cell? ⟨w.heap.size, 5, none⟩ = some (.int .i64 a0_5) := (blk_cell BL.out 5).trans rfl
      have x6 : W2.cell? ⟨w.heap.size, 6, none⟩ = some (.int .i64 a0_6) := (blk_cell BL.out 6).trans rfl
      have x7 : W2.cell? ⟨w.heap.size, 7, none⟩ = some (.int .i64 a0_7) := (blk_cell BL.out 7).trans rfl
      have x8 : W2.cell? ⟨w.heap.size, 8, none⟩ = some (.int .i64 a0_8) := (blk_cell BL.out 8).trans rfl
      have x9 : W2.cell? ⟨w.heap.size, 9, none⟩ = some (.int .i64 a0_9) := (blk_cell BL.out 9).trans rfl
      clear hW
      go_wp2_with (first | (go_at_call 92; (refine (HLn.out _ (below_then HB2.out hs2 HB3.out)).mono ?_); rintro e w4 ⟨rfl, ⟨nq, rfl⟩⟩) | (go_at_call 33; (refine (HCL.out W2).mono ?_); rintro e w3 ⟨rfl, hb3⟩; (have HB3 := Aside0.mk hb3); (have kb := blk_below BF.out hb3); (have BF3 := Aside0.mk kb); (have f0 : w3.cell? ⟨w.heap.size + 1, 0, none⟩ = some (.slice none 0 0) := (blk_cell kb 0).trans rfl); (have z0 := blk_frozen kb 0); (have f1 : w3.cell? ⟨w.heap.size + 1, 1, none⟩ = some (.slice none 0 0) := (blk_cell kb 1).trans rfl); (have z1 := blk_frozen kb 1); (have f2 : w3.cell? ⟨w.heap.size + 1, 2, none⟩ = some (.slice none 0 0) := (blk_cell kb 2).trans rfl); (have z2 := blk_frozen kb 2); (have f3 : w3.cell? ⟨w.heap.size + 1, 3, none⟩ = some (.slice none 0 0) := (blk_cell kb 3).trans rfl); (have z3 := blk_frozen kb 3); clear hb3 kb) | fail)
      refine bodyPost_ret (results_ct rfl _ _ (w.heap.size + 1) 25 #[.slice none 0 0, .slice none 0 0, .slice none 0 0, .slice none 0 0] (0, 0) _ rfl (by (with_reducible repeat (first | refine blk_drewN ?_ _ | refine blk_drew ?_)); refine blk_put (cs := #[.slice none 0 0, .slice none 0 0, .slice none 0 0, .slice none 0 0]) ?_ 3 _ rfl; (with_reducible repeat (first | refine blk_drewN ?_ _ | refine blk_drew ?_)); refine blk_put (cs := #[.slice none 0 0, .slice none 0 0, .slice none 0 0, .slice none 0 0]) ?_ 2 _ rfl; (with_reducible repeat (first | refine blk_drewN ?_ _ | refine blk_drew ?_)); refine blk_put (cs := #[.slice none 0 0, .slice none 0 0, .slice none 0 0, .slice none 0 0]) ?_ 1 _ rfl; (with_reducible repeat (first | refine blk_drewN ?_ _ | refine blk_drew ?_)); refine blk_put (cs := #[.slice none 0 0, .slice none 0 0, .slice none 0 0, .slice none 0 0]) ?_ 0 _ rfl; (with_reducible repeat (first | refine blk_drewN ?_ _ | refine blk_drew ?_)); exact BF3.out) Try.underlying25 rfl (by kernel_rfl)) rfl ?_
      refine ⟨.slice none 0 0, .slice none 0 0, .slice none 0 0, .slice none 0 0, rfl, Kd.R_nil _ _ _ _ _, Kd.R_nil _ _ _ _ _, Kd.N_nil _ _ _ _ _, Kd.N_nil _ _ _ _ _, ?_⟩
      have hbw : Below w.heap.size w w3 := below_then HB2.out hs2 HB3.out
      have hle : w.heap.size ≤ w.heap.size + 1 := by omega
      repeat (first | (with_reducible exact hbw) | (with_reducible refine pw_below_drewN ?_ _) | (refine Below.setCell ?_ hle _))
  · rw [if_neg z1] at h
    simp only [Option.some.injEq, Prod.mk.injEq] at h
    obtain ⟨rfl, rfl, rfl, rfl, rfl⟩ := h
    have zb : (e1 != 0) = true := bne_iff_ne.mpr z1
    clear z1 he1
    go_enter Try.func52, Try.ntmps52
    go_upto_region 1 with (fail)
    generalize hW : ((w.alloc (Obj.cells #[Value.int IntKind.i64 a0_0, Value.int IntKind.i64 a0_1, Value.int IntKind.i64 a0_2, Value.int IntKind.i64 a0_3, Value.int IntKind.i64 a0_4, Value.int IntKind.i64 a0_5, Value.int IntKind.i64 a0_6, Value.int IntKind.i64 a0_7, Value.int IntKind.i64 a0_8, Value.int IntKind.i64 a0_9] 42)).alloc (Obj.cells #[Value.slice none 0 0, Value.slice none 0 0, Value.slice none 0 0, Value.slice none 0 0] 25)) = W2
    have hs2 : w.heap.size ≤ W2.heap.size := by subst hW; simp; omega
    have hs3 : w.heap.size + 1 < W2.heap.size := by subst hW; simp
    have HB2 : Aside0 (Below w.heap.size w W2) := ⟨by subst hW; exact below_alloc (below_alloc (Below.refl _ _) _) _⟩
    have BL : Aside0 (W2.heap[w.heap.size]? = some (.cells #[Value.int IntKind.i64 a0_0, Value.int IntKind.i64 a0_1, Value.int IntKind.i64 a0_2, Value.int IntKind.i64 a0_3, Value.int IntKind.i64 a0_4, Value.int IntKind.i64 a0_5, Value.int IntKind.i64 a0_6, Value.int IntKind.i64 a0_7, Value.int IntKind.i64 a0_8, Value.int IntKind.i64 a0_9] 42 (0, 0))) := ⟨by subst hW; exact blk_alloc (blk_new w _) _⟩
    have BF : Aside0 (W2.heap[w.heap.size + 1]? = some (.cells #[Value.slice none 0 0, Value.slice none 0 0, Value.slice none 0 0, Value.slice none 0 0] 25 (0, 0))) := ⟨by subst hW; have hq := blk_new (w.alloc (Obj.cells #[Value.int IntKind.i64 a0_0, Value.int IntKind.i64 a0_1, Value.int IntKind.i64 a0_2, Value.int IntKind.i64 a0_3, Value.int IntKind.i64 a0_4, Value.int IntKind.i64 a0_5, Value.int IntKind.i64 a0_6, Value.int IntKind.i64 a0_7, Value.int IntKind.i64 a0_8, Value.int IntKind.i64 a0_9] 42)) (Obj.cells #[Value.slice none 0 0, Value.slice none 0 0, Value.slice none 0 0, Value.slice none 0 0] 25); rw [World.size_alloc] at hq; exact hq⟩
    have x0 : W2.cell? ⟨w.heap.size, 0, none⟩ = some (.int .i64 a0_0) := (blk_cell BL.out 0).trans rfl
    have x1 : W2.cell? ⟨w.heap.size, 1, none⟩ = some (.int .i64 a0_1) := (blk_cell BL.out 1).trans rfl
    have x2 : W2.cell? ⟨w.heap.size, 2, none⟩ = some (.int .i64 a0_2) := (blk_cell BL.out 2).trans rfl
    have x3 : W2.cell? ⟨w.heap.size, 3, none⟩ = some (.int .i64 a0_3) := (blk_cell BL.out 3).trans rfl
    have x4 : W2.cell? ⟨w.heap.size, 4, none⟩ = some (.int .i64 a0_4) := (blk_cell BL.out 4).trans rfl
    have x5 : W2.cell? ⟨w.heap.size, 5, none⟩ = some (.int .i64 a0_5) := (blk_cell BL.out 5).trans rfl
    have x6 : W2.cell? ⟨w.heap.size, 6, none⟩ = some (.int .i64 a0_6) := (blk_cell BL.out 6).trans rfl
    have x7 : W2.cell? ⟨w.heap.size, 7, none⟩ = some (.int .i64 a0_7) := (blk_cell BL.out 7).trans rfl
    have x8 : W2.cell? ⟨w.heap.size, 8, none⟩ = some (.int .i64 a0_8) := (blk_cell BL.out 8).trans rfl
    have x9 : W2.cell? ⟨w.heap.size, 9, none⟩ = some (.int .i64 a0_9) := (blk_cell BL.out 9).trans rfl
    clear hW
    go_wp2_with (first | (go_at_call 33; (refine (HCL.out W2).mono ?_); rintro e w3 ⟨rfl, hb3⟩; (have HB3 := Aside0.mk hb3); (have kb := blk_below BF.out hb3); (have BF3 := Aside0.mk kb); (have f0 : w3.cell? ⟨w.heap.size + 1, 0, none⟩ = some (.slice none 0 0) := (blk_cell kb 0).trans rfl); (have z0 := blk_frozen kb 0); (have f1 : w3.cell? ⟨w.heap.size + 1, 1, none⟩ = some (.slice none 0 0) := (blk_cell kb 1).trans rfl); (have z1 := blk_frozen kb 1); (have f2 : w3.cell? ⟨w.heap.size + 1, 2, none⟩ = some (.slice none 0 0) := (blk_cell kb 2).trans rfl); (have z2 := blk_frozen kb 2); (have f3 : w3.cell? ⟨w.heap.size + 1, 3, none⟩ = some (.slice none 0 0) := (blk_cell kb 3).trans rfl); (have z3 := blk_frozen kb 3); clear hb3 kb) | fail)
    refine bodyPost_ret (results_ct rfl _ _ (w.heap.size + 1) 25 #[.slice none 0 0, .slice none 0 0, .slice none 0 0, .slice none 0 0] (0, 0) _ rfl (by (with_reducible repeat (first | refine blk_drewN ?_ _ | refine blk_drew ?_)); refine blk_put (cs := #[.slice none 0 0, .slice none 0 0, .slice none 0 0, .slice none 0 0]) ?_ 3 _ rfl; (with_reducible repeat (first | refine blk_drewN ?_ _ | refine blk_drew ?_)); refine blk_put (cs := #[.slice none 0 0, .slice none 0 0, .slice none 0 0, .slice none 0 0]) ?_ 2 _ rfl; (with_reducible repeat (first | refine blk_drewN ?_ _ | refine blk_drew ?_)); refine blk_put (cs := #[.slice none 0 0, .slice none 0 0, .slice none 0 0, .slice none 0 0]) ?_ 1 _ rfl; (with_reducible repeat (first | refine blk_drewN ?_ _ | refine blk_drew ?_)); refine blk_put (cs := #[.slice none 0 0, .slice none 0 0, .slice none 0 0, .slice none 0 0]) ?_ 0 _ rfl; (with_reducible repeat (first | refine blk_drewN ?_ _ | refine blk_drew ?_)); exact BF3.out) Try.underlying25 rfl (by kernel_rfl)) rfl ?_
    refine ⟨.slice none 0 0, .slice none 0 0, .slice none 0 0, .slice none 0 0, rfl, Kd.R_nil _ _ _ _ _, Kd.R_nil _ _ _ _ _, Kd.N_nil _ _ _ _ _, Kd.N_nil _ _ _ _ _, ?_⟩
    have hbw : Below w.heap.size w w3 := below_then HB2.out hs2 HB3.out
    have hle : w.heap.size ≤ w.heap.size + 1 := by omega
    repeat (first | (with_reducible exact hbw) | (with_reducible refine pw_below_drewN ?_ _) | (refine Below.setCell ?_ hle _))

end Go.Proofs.Ytbomgfbfnkfamaa.PAll
end
section
namespace Go.Proofs.Ytbomgfbfnkfamaa.PAll
open Go.RowKit Go.Proofs.YtbomgfbfnkfamaaW.PrintWords Go.Proofs.YtbomgfbfnkfamaaW.PrintLast Go.Proofs.YtbomgfbfnkfamaaW.PrintMore
attribute [local go_sem] max2_int min2_int max_two min_two max_three min_three max_four min_four   -- for this text's walks alone
set_option linter.unusedVariables false
set_option linter.unusedSimpArgs false

/-! ### slices_Concat_int_int: function 103 -/
/-- How many numbers lists have. -/
def totLen : List (List Int) → Nat
  | [] => 0
  | x :: t => x.length + totLen t
def slices_Concat_int_int.f (l0 : List (List Int)) : Option (List Int) := if totLen l0 < 1000000 then some l0.flatten else none
theorem totLen_take (l : List (List Int)) : ∀ k, k < l.length → totLen (l.take (k + 1)) = totLen (l.take k) + (l.getD k []).length := by
  induction l with
  | nil => intro k h; simp at h
  | cons x t ih =>
    intro k h
    cases k with
    | zero => simp [totLen]
    | succ k =>
      have := ih k (by simpa using h)
      simp only [List.take_succ_cons, totLen, List.getD_cons_succ] at *
      omega
theorem totLen_le (l : List (List Int)) : ∀ k, totLen (l.take k) ≤ totLen l := by
  induction l with
  | nil => intro k; simp [totLen]
  | cons x t ih =>
    intro k
    cases k with
    | zero => simp [totLen]
    | succ k => have := ih k; simp only [List.take_succ_cons, totLen]; omega
theorem flatten_take (l : List (List Int)) : ∀ k, k < l.length → (l.take (k + 1)).flatten = (l.take k).flatten ++ l.getD k [] := by
  induction l with
  | nil => intro k h; simp at h
  | cons x t ih =>
    intro k h
    cases k with
    | zero => simp
    | succ k =>
      have := ih k (by simpa using h)
      simp only [List.take_succ_cons, List.flatten_cons, List.getD_cons_succ, List.append_assoc] at *
      rw [this]
theorem flatten_len (l : List (List Int)) : l.flatten.length = totLen l := by
  induction l with
  | nil => rfl
  | cons x t ih => simp only [List.flatten_cons, List.length_append, totLen, ih]
set_option maxHeartbeats 2000000 in
set_option maxRecDepth 100000 in
theorem growNil (n : Int) (h0 : 0 ≤ n) (h1 : n < 1000000) (w : World) :
    Calls Try.prog 128 #[.slice none 0 0, .int .i64 n] w fun e w' => ∃ v, e = .returned v ∧ Kd.R (Kd.int .i64) 3 w' w.heap.size (fun _ => True) v [] ∧ Below w.heap.size w w' := by
  have hn0 : ¬ n < 0 := by omega
  have hw : IntKind.i64.wrap n = n := IntWalk.i64_in _ (by omega)
  have HB := Aside0.mk (Below.refl w.heap.size w)
  by_cases hp : 0 < n
  · go_enter Try.func128, Try.ntmps128
    go_wp2_with (first | ((with_reducible refine gate_builtin (b := .append) (xs := #[.tmp 20, .tmp 21]) rfl ?_); at_builtin; refine Kd.R_append_zeros (Kd.int .i64) (w0 := w) w.heap.size rfl (.tmp 20) (.tmp 21) 22 3 3 (.int .i64 0) 8 rfl Try.underlying22 Try.underlying3 info3 rfl (by decide) (by omega) (.slice none 0 0) [] 0 n (fun _ => True) rfl rfl rfl ?aF ?aO h0 ?aB ?aS ?aL ?_; (case aF => exact (fun _ _ => trivial)); (case aO => exact Kd.R_nil _ _ _ _ _); (case aB => exact HB.out); (case aS => exact Nat.le_refl _); (case aL => simp only [List.length_nil]; omega); intro v22 w1 ho hb hg hat; (obtain ⟨A1, c1, hv1⟩ := Kd.R_slice ho); subst hv1; (have HO := Aside0.mk ho); (have HB1 := Aside0.mk hb); clear ho hb hg hat) | fail)
    go_ret
    exact ⟨_, rfl, Kd.R_take (m := 0) HO.out (Nat.zero_le _), HB1.out⟩
  · go_enter Try.func128, Try.ntmps128
    go_wp2_with fail
    go_ret
    exact ⟨_, rfl, Kd.R_nil _ _ _ _ _, HB.out⟩
set_option maxHeartbeats 8000000 in
set_option maxRecDepth 100000 in
theorem slices_Concat_int_int.calls (A0 : Option Addr) (c0 : Nat) (l0 : List (List Int)) (r : List Int) (w : World) (hr0 : Kd.C (Kd.slice 3 (Kd.int .i64)) w A0 l0.length l0) (hc0 : l0.length ≤ c0) (h : slices_Concat_int_int.f l0 = some r) :
    Calls Try.prog 103 #[.slice A0 l0.length c0] w fun e w' => ∃ v0_ : Value, e = .returned (v0_) ∧ Kd.R (Kd.int .i64) 3 w' w.heap.size (fun _ => True) v0_ r ∧ Below w.heap.size w w' := by
  unfold slices_Concat_int_int.f at h
  split at h
  · rename_i ht
    obtain rfl := Option.some.inj h
    have m0 : l0.length ≤ 9223372036854775807 := hr0.2.1
    have HR0 := Aside0.mk hr0
    have HT := Aside0.mk ht
    clear hr0 h ht
    go_enter Try.func103, Try.ntmps103
    go_wp2_with fail
    go_loop [3, 5, 11] (fun sz _ ix => ∃ k : Nat, k ≤ l0.length ∧ ix = .int .i64 k ∧ sz = .int .i64 (totLen (l0.take k) : Nat)) (fun _ _ ix => l0.length - (intOf ix).toNat)
    case atStart => exact ⟨0, Nat.zero_le _, rfl, rfl⟩
    case round =>
      obtain ⟨k, hk, rfl, rfl⟩ := hrel
      by_cases hlt : k < l0.length
      · obtain ⟨ad, Ar, cr, hA, hcell, _, _⟩ := @at_L1 _ _ _ _ HR0.out (k : Int) (by omega) (by omega)
        have hcell' : w.cell? (ad.add k) = some (.slice Ar (l0.getD k []).length cr) := hcell
        clear hcell
        subst hA
        have hs := totLen_take l0 k hlt
        have hle := totLen_le l0 (k + 1)
        have htt := HT.out
        have hk0 : (0 : Int) ≤ k := by omega
        have hk1 : (k : Int) < l0.length := by omega
        have hwk : IntKind.i64.wrap ((k : Int) + 1) = k + 1 := IntWalk.i64_in _ (by omega)
        generalize (l0.getD k []).length = n at *
        have hws : IntKind.i64.wrap ((totLen (l0.take k) : Nat) + (n : Int)) = ((totLen (l0.take (k + 1)) : Nat) : Int) := by rw [IntWalk.i64_in _ (by omega)]; omega
        obtain ⟨t1, ht1⟩ : ∃ t, t = totLen (l0.take (k + 1)) := ⟨_, rfl⟩
        rw [← ht1] at hws hs hle
        generalize totLen (l0.take k) = t0 at *
        have hneg : ¬ ((t1 : Int) < 0) := by omega
        go_wp2_with fail
        go_round
        case rel => exact ⟨k + 1, by omega, by go_num, by first | rfl | rw [hws, ht1]⟩
        case measure => simp [intOf]; omega
      · obtain rfl : k = l0.length := by omega
        rw [List.take_length]
        have htl := HT.out
        go_wp2_with (first | (go_at_call 128; (refine (growNil (totLen l0 : Nat) (by omega) (by omega) w).mono ?_); rintro e w3 ⟨v3, rfl, ho3, hb3⟩; (obtain ⟨A3, c3, hv3⟩ := Kd.R_slice ho3); subst hv3; (have HO3 := Aside0.mk ho3); (have HB3 := Aside0.mk hb3); clear ho3 hb3) | fail)
        go_loopw [6, 8, 27] (fun o _ ix wr => ∃ (k : Nat) (A : Option Addr) (c : Nat), k ≤ l0.length ∧ ix = .int .i64 k ∧ o = .slice A (l0.take k).flatten.length c ∧ Aside0 (Kd.R (Kd.int .i64) 3 wr w.heap.size (fun _ => True) (.slice A (l0.take k).flatten.length c) (l0.take k).flatten) ∧ Aside0 (Below w.heap.size w wr)) (fun _ _ ix _ => l0.length - (intOf ix).toNat)
        case atStart => exact ⟨0, A3, c3, Nat.zero_le _, rfl, rfl, HO3, HB3⟩
        case round =>
          obtain ⟨k, A, c, hk, rfl, rfl, hO, hB⟩ := hrel
          by_cases hlt : k < l0.length
          · obtain ⟨ad, Ar, cr, hA, hcell, hlc, hCi⟩ := @at_L1 _ _ _ _ (Kd.C_below HR0.out hB.out) (k : Int) (by omega) (by omega)
            have hcell' : wr.cell? (ad.add k) = some (.slice Ar (l0.getD k []).length cr) := hcell
            have HCi : Aside0 (Kd.C (Kd.int .i64) wr Ar (l0.getD k []).length (l0.getD k [])) := ⟨hCi⟩
            clear hcell hCi
            subst hA
            have hk0 : (0 : Int) ≤ k := by omega
            have hk1 : (k : Int) < l0.length := by omega
            have hwk : IntKind.i64.wrap ((k : Int) + 1) = k + 1 := IntWalk.i64_in _ (by omega)
            have hft := flatten_take l0 k hlt
            have hl1 := flatten_len (l0.take (k + 1))
            have hl2 := totLen_le l0 (k + 1)
            have hl3 : (l0.take (k + 1)).flatten.length = (l0.take k).flatten.length + (l0.getD k []).length := by rw [hft, List.length_append]
            have hL : Aside0 (((l0.take k).flatten.length + (l0.getD k []).length) * 8 ≤ 140737488355328) := ⟨by omega⟩
            have HF := Aside0.mk hft
            clear hft hl1 hl2 hl3
            generalize l0.getD k [] = row at *
            generalize (l0.take k).flatten = acc at *
            go_wp2_with (first | ((with_reducible refine gate_builtin (b := .append) (xs := #[.tmp 31, .tmp 32]) rfl ?_); at_builtin; refine Kd.R_append_rows (Kd.int .i64) (w0 := w) w.heap.size rfl (.tmp 31) (.tmp 32) 22 3 (.int .i64 0) 8 rfl Try.underlying22 info3 rfl (by decide) (by omega) (.slice A acc.length c) acc row _ _ _ (fun _ => True) (fun _ => False) rfl rfl ?aO ?aR (fun _ _ h => h) (fun _ h => h.elim) ?aF ?aB ?aS ?aL ?_; (case aR => exact HCi.out); (case aB => exact hB.out); (case aF => exact (fun _ _ => trivial)); (case aO => exact hO.out); (case aS => exact below_size hB.out); (case aL => exact hL.out); intro v5 w5 ho hb hg hat; rw [← HF.out] at ho; (obtain ⟨A5, c5, hv5⟩ := Kd.R_slice ho); subst hv5; (have HO5 := Aside0.mk ho); (have HB5 := Aside0.mk hb); clear ho hb hg hat) | fail)
            go_roundw
            case rel => exact ⟨k + 1, A5, c5, by omega, by go_num, by first | rfl | simp [List.length_flatten, List.map_take], HO5, HB5⟩
            case measure => simp [intOf]; omega
          · obtain rfl : k = l0.length := by omega
            go_wp2_with fail
            go_ret
            exact ⟨_, rfl, by have := hO.out; rw [List.take_length] at this; rw [List.take_length]; exact this, hB.out⟩
  · cases h

end Go.Proofs.Ytbomgfbfnkfamaa.PAll
end
