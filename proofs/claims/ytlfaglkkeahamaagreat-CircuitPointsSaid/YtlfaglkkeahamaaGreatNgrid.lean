/- Nets: grids and plates. -/
import Derived.Test.YtlfaglkkeahamaaGreatNrchk
import Derived.Test.YtlfaglkkeahamaaGreatNmath
set_option linter.unusedVariables false
set_option maxHeartbeats 16000000
set_option linter.unusedSimpArgs false
namespace Go.Proofs.YtlfaglkkeahamaaGreat.I
open Go.Ideal

theorem c9down_ok {n d : Int} (hd : 0 < d) (hd1 : d ≤ 9000000000000000000) (h0 : -9000000000000000000 ≤ n) (h1 : n ≤ 9000000000000000000) (H : Heap) : Ev T (.call (.func (.func 155) [] []) [.int .i64 n, .int .i64 d] H) (.call (.int .i64 (n / d)) H) := by
  refine run_pure T155 (nn_int _ _) (nn_cons (nn_int _ _) (nn_cons (nn_int _ _) nn_none)) ?_ H
  have a := tdiv_bounds hd h0 h1
  have e := tdiv_floor (n := n) hd
  have m : n.tmod d = n - n.tdiv d * d := by rw [Int.tmod_def, Int.mul_comm]
  conv => whnf
  refine onTrue.intro (by simp; omega) ?_
  conv => whnf
  refine .i64 (by omega) (by omega) ?_
  conv => whnf
  refine onTrue.intro (by simp; omega) ?_
  conv => whnf
  refine condP.dec (fun h => ?_) (fun h => ?_)
  · conv => whnf
    refine .i64 (by omega) (by omega) ?_
    conv => whnf
    rw [if_pos (by omega)] at e
    exact .intro (.int .i64 (n.tdiv d - 1)) (.inl rfl) rfl (frz_int e.symm)
  · conv => whnf
    rw [if_neg (by omega)] at e
    exact .intro (.int .i64 (n.tdiv d)) (.inl rfl) rfl (frz_int e.symm)

theorem c9up_ok {n d : Int} (hd : 0 < d) (hd1 : d ≤ 9000000000000000000) (h0 : -9000000000000000000 ≤ n) (h1 : n ≤ 9000000000000000000) (H : Heap) : Ev T (.call (.func (.func 156) [] []) [.int .i64 n, .int .i64 d] H) (.call (.int .i64 (up n d)) H) := by
  refine run_pure T156 (nn_int _ _) (nn_cons (nn_int _ _) (nn_cons (nn_int _ _) nn_none)) ?_ H
  have a := up_ge n hd
  have b := up_lt n hd
  have c1 : -9000000000000000001 ≤ (-n) / d ∧ (-n) / d ≤ 9000000000000000000 := by
    have x1 := Int.ediv_mul_le (-n) (show d ≠ 0 by omega)
    have x2 := Int.lt_ediv_add_one_mul_self (-n) hd
    have x3 := tdiv_bounds (n := -n) hd (m := 9000000000000000000) (by omega) (by omega)
    have x4 := tdiv_floor (n := -n) hd
    split at x4 <;> omega
  conv => whnf
  refine .i64 (by omega) (by omega) ?_
  conv => whnf
  refine CallP.pure (c9down_ok hd hd1 (by omega) (by omega)) ?_
  conv => whnf
  have z : (0 : Int) - n = -n := by omega
  rw [z]
  refine .i64 (by omega) (by omega) ?_
  conv => whnf
  exact .intro (.int .i64 (0 - (-n) / d)) (.inl rfl) rfl (frz_int (by unfold up; omega))

theorem r9down_ok {n d : Int} (hd : 0 < d) (hd1 : d ≤ 9000000000000000000) (h0 : -9000000000000000000 ≤ n) (h1 : n ≤ 9000000000000000000) (H : Heap) : Ev T (.call (.func (.func 158) [] []) [.int .i64 n, .int .i64 d] H) (.call (.int .i64 (n / d)) H) := by
  refine run_pure T158 (nn_int _ _) (nn_cons (nn_int _ _) (nn_cons (nn_int _ _) nn_none)) ?_ H
  have a := tdiv_bounds hd h0 h1
  have e := tdiv_floor (n := n) hd
  have m : n.tmod d = n - n.tdiv d * d := by rw [Int.tmod_def, Int.mul_comm]
  conv => whnf
  refine onTrue.intro (by simp; omega) ?_
  conv => whnf
  refine .i64 (by omega) (by omega) ?_
  conv => whnf
  refine onTrue.intro (by simp; omega) ?_
  conv => whnf
  refine condP.dec (fun h => ?_) (fun h => ?_)
  · conv => whnf
    refine .i64 (by omega) (by omega) ?_
    conv => whnf
    rw [if_pos (by omega)] at e
    exact .intro (.int .i64 (n.tdiv d - 1)) (.inl rfl) rfl (frz_int e.symm)
  · conv => whnf
    rw [if_neg (by omega)] at e
    exact .intro (.int .i64 (n.tdiv d)) (.inl rfl) rfl (frz_int e.symm)

theorem r9up_ok {n d : Int} (hd : 0 < d) (hd1 : d ≤ 9000000000000000000) (h0 : -9000000000000000000 ≤ n) (h1 : n ≤ 9000000000000000000) (H : Heap) : Ev T (.call (.func (.func 159) [] []) [.int .i64 n, .int .i64 d] H) (.call (.int .i64 (up n d)) H) := by
  refine run_pure T159 (nn_int _ _) (nn_cons (nn_int _ _) (nn_cons (nn_int _ _) nn_none)) ?_ H
  have a := up_ge n hd
  have b := up_lt n hd
  have c1 : -9000000000000000001 ≤ (-n) / d ∧ (-n) / d ≤ 9000000000000000000 := by
    have x1 := Int.ediv_mul_le (-n) (show d ≠ 0 by omega)
    have x2 := Int.lt_ediv_add_one_mul_self (-n) hd
    have x3 := tdiv_bounds (n := -n) hd (m := 9000000000000000000) (by omega) (by omega)
    have x4 := tdiv_floor (n := -n) hd
    split at x4 <;> omega
  conv => whnf
  refine .i64 (by omega) (by omega) ?_
  conv => whnf
  refine CallP.pure (r9down_ok hd hd1 (by omega) (by omega)) ?_
  conv => whnf
  have z : (0 : Int) - n = -n := by omega
  rw [z]
  refine .i64 (by omega) (by omega) ?_
  conv => whnf
  exact .intro (.int .i64 (0 - (-n) / d)) (.inl rfl) rfl (frz_int (by unfold up; omega))

theorem c9cut_ok (n : Int) (H : Heap) : Ev T (.call (.func (.func 157) [] []) [.int .i64 n] H) (.call (.int .i64 (cutV n)) H) := by
  refine run_pure T157 (nn_int _ _) (nn_cons (nn_int _ _) nn_none) ?_ H
  conv => whnf
  exact .intro (.int .i64 (max (-1000000) (min 1000000 n))) (.inl rfl) rfl (frz_int (by unfold cutV; omega))

theorem div_bound {n d M : Int} (hd : 0 < d) (h0 : -M ≤ n) (h1 : n ≤ M) (hM : 0 ≤ M) : -M ≤ n / d ∧ n / d ≤ M := by
  constructor
  · rw [Int.le_ediv_iff_mul_le hd]
    have : M * 1 ≤ M * d := Int.mul_le_mul_of_nonneg_left (by omega) hM
    rw [Int.neg_mul]; omega
  · have h2 := Int.ediv_mul_le n (Int.ne_of_gt hd)
    have : M * 1 ≤ M * d := Int.mul_le_mul_of_nonneg_left (by omega) hM
    exact Int.le_of_mul_le_mul_right (show n / d * d ≤ M * d by omega) hd
theorem up_bound {n d M : Int} (hd : 0 < d) (h0 : -M ≤ n) (h1 : n ≤ M) (hM : 0 ≤ M) : -M ≤ up n d ∧ up n d ≤ M := by
  have := div_bound (n := -n) hd (by omega) (by omega) hM
  unfold up
  omega
/-- Voltages. -/
def Vs (x : List Rg) : Prop := ∀ k : Nat, -1000000 ≤ (at' x (k : Int)).lo ∧ (at' x (k : Int)).lo ≤ 1000000 ∧ -1000000 ≤ (at' x (k : Int)).hi ∧ (at' x (k : Int)).hi ≤ 1000000
theorem Vs.get {x : List Rg} (h : Vs x) {n : Int} (h0 : 0 ≤ n) : -1000000 ≤ (at' x n).lo ∧ (at' x n).lo ≤ 1000000 ∧ -1000000 ≤ (at' x n).hi ∧ (at' x n).hi ≤ 1000000 := by rw [at'_nat x h0]; exact h _
theorem mul_bound {u a : Int} (u0 : 0 ≤ u) (u1 : u ≤ 1000) (a0 : -1000000 ≤ a) (a1 : a ≤ 1000000) : -1000000000 ≤ u * a ∧ u * a ≤ 1000000000 := by
  have h1 : u * a ≤ u * 1000000 := Int.mul_le_mul_of_nonneg_left a1 u0
  have h2 : u * (-1000000) ≤ u * a := Int.mul_le_mul_of_nonneg_left a0 u0
  omega
theorem gLo_bound {x : List Rg} (hx : Vs x) {m : Int} {l : List Tap} (hl : TapsOk m l) {b : Int} (b0 : -1000000 ≤ b) (b1 : b ≤ 1000000) : ∀ k, k ≤ l.length → -1000000 - k * 1000000000 ≤ gLo x l b k ∧ gLo x l b k ≤ 1000000 + k * 1000000000
  | 0, _ => by rw [gLo]; omega
  | k + 1, hk => by
    have ih := gLo_bound hx hl b0 b1 k (by omega)
    have ht := hl.ok k (by omega)
    have hv := hx.get ht.n0
    have hm := mul_bound ht.u0 ht.u1 hv.1 hv.2.1
    have := div_bound (d := (at' l (k : Int)).den) (by have := ht.d0; omega) hm.1 hm.2 (by omega)
    rw [gLo]
    omega
theorem gHi_bound {x : List Rg} (hx : Vs x) {m : Int} {l : List Tap} (hl : TapsOk m l) {b : Int} (b0 : -1000000 ≤ b) (b1 : b ≤ 1000000) : ∀ k, k ≤ l.length → -1000000 - k * 1000000000 ≤ gHi x l b k ∧ gHi x l b k ≤ 1000000 + k * 1000000000
  | 0, _ => by rw [gHi]; omega
  | k + 1, hk => by
    have ih := gHi_bound hx hl b0 b1 k (by omega)
    have ht := hl.ok k (by omega)
    have hv := hx.get ht.n0
    have hm := mul_bound ht.u0 ht.u1 hv.2.2.1 hv.2.2.2
    have := up_bound (d := (at' l (k : Int)).den) (by have := ht.d0; omega) hm.1 hm.2 (by omega)
    rw [gHi]
    omega

theorem c9grid_ok {n : Net} (hn : n.Ok) {i : Nat} (hi : i < n.stages.length) {x : List Rg} (hx : Vs x) (hxl : (x.length : Int) = n.ins + n.stages.length) (H : Heap) :
    Ev T (.call (.func (.func 101) [] []) [n.I, .int .i64 i, rgsI x] H) (.call ((at' n.stages (i : Int)).grid x).I H) := by
  refine run_pure T101 (Rg.I_no _) (nn_cons n.I_no (nn_cons (nn_int _ _) (nn_cons (rgsI_no _) nn_none))) ?_ H
  have hs := hn.st i hi
  have e2 : (n.stages.map Stg.R).length = n.stages.length := List.length_map ..
  generalize hf : at' n.stages (i : Int) = s at *
  have e1 : (s.taps.map Tap.R).length = s.taps.length := List.length_map ..
  have e3 : (x.map Rg.R).length = x.length := List.length_map ..
  have htl := hs.taps.len
  have bi0 := hs.bi.a
  have bi1 := hs.bi.b
  have bi2 := hs.bi.c
  repeat' ((conv => whnf); first | (refine onSome.intro (load_fs (l := n.stages) (enc := Stg.R) (i := (i : Int)) (v := s.bi.I) rfl (by omega) (by omega) (by rw [hf]; rfl)) ?_) | (refine onSome.intro (load_fs (l := n.stages) (enc := Stg.R) (i := (i : Int)) (v := tapsI s.taps) rfl (by omega) (by omega) (by rw [hf]; rfl)) ?_) | (first | refine condP.dec (fun h => ?_) (fun h => ?_) | refine condP.eq (fun h => ?_) (fun h => ?_) | refine condP.ne (fun h => ?_) (fun h => ?_)) | (refine .i64 (by omega) (by omega) ?_) | (refine onSome.intro (idx_fs rfl rfl (by omega) (by omega) (fun _ => rfl)) ?_) | (refine onSome.intro (load_fs rfl (by omega) (by omega) rfl) ?_) | (refine And.intro rfl ?_))
  refine loop_rule (X := Nat) (fun k => [(2, rgsI x), (6, .ptr 1 0 0), (7, .ptr 2 0 0), (23, tapsI s.taps), (24, .int .i64 s.taps.length), (25, .int .i64 k)]) (fun k => [.live 3 [n.R], .live 2 [[.int .i64 0, .int .i64 0]], .live 2 [[.int .i64 (gLo x s.taps s.bi.lo k), .int .i64 (gHi x s.taps s.bi.hi k)]]]) (fun k => s.taps.length - k) (fun k => k ≤ s.taps.length) 0
    (Nat.zero_le _) ⟨rfl, rfl, rfl, rfl, by show i6 _ = i6 _; rw [e1], rfl, trivial⟩ rfl (fun _ _ => rfl) (fun k hk => ?_)
  have bl := gLo_bound hx hs.taps bi0 (by omega) k hk
  have bh := gHi_bound hx hs.taps (b := s.bi.hi) (by omega) bi2 k hk
  rcases Nat.lt_or_ge k s.taps.length with klt | kge
  · have ht := hs.taps.ok k klt
    have hv := hx.get ht.n0
    have m1 := mul_bound ht.u0 ht.u1 hv.1 hv.2.1
    have m2 := mul_bound ht.u0 ht.u1 hv.2.2.1 hv.2.2.2
    have d0 := ht.d0
    have d1 := ht.d1
    have n0 := ht.n0
    have n1 := ht.n1
    have q1 := div_bound (d := (at' s.taps (k : Int)).den) (by omega) m1.1 m1.2 (by omega)
    have q2 := up_bound (d := (at' s.taps (k : Int)).den) (by omega) m2.1 m2.2 (by omega)
    have kd := c9down_ok (d := (at' s.taps (k : Int)).den) (by omega) (by omega) (n := (at' s.taps (k : Int)).num * (at' x (at' s.taps (k : Int)).node).lo) (by omega) (by omega)
    have ku := c9up_ok (d := (at' s.taps (k : Int)).den) (by omega) (by omega) (n := (at' s.taps (k : Int)).num * (at' x (at' s.taps (k : Int)).node).hi) (by omega) (by omega)
    have g1 : gLo x s.taps s.bi.lo (k + 1) = gLo x s.taps s.bi.lo k + (at' s.taps (k : Int)).num * (at' x (at' s.taps (k : Int)).node).lo / (at' s.taps (k : Int)).den := by rw [gLo]
    have g2 : gHi x s.taps s.bi.hi (k + 1) = gHi x s.taps s.bi.hi k + up ((at' s.taps (k : Int)).num * (at' x (at' s.taps (k : Int)).node).hi) (at' s.taps (k : Int)).den := by rw [gHi]
    generalize hG1 : gLo x s.taps s.bi.lo (k + 1) = G1 at *
    generalize hG2 : gHi x s.taps s.bi.hi (k + 1) = G2 at *
    generalize gLo x s.taps s.bi.lo k = A1 at *
    generalize gHi x s.taps s.bi.hi k = A2 at *
    generalize hvt : at' s.taps (k : Int) = t at *
    obtain ⟨tn, tu, td⟩ := t
    dsimp only at *
    generalize hw : at' x tn = r at *
    obtain ⟨r0, r1⟩ := r
    dsimp only at *
    generalize tu * r0 / td = D1 at *
    generalize up (tu * r1) td = D2 at *
    repeat' ((conv => whnf); first | (refine condP.dec (fun _ => ?_) (fun h => absurd (by omega) h)) | (refine onSome.intro (load_fs (l := s.taps) (enc := Tap.R) (i := (k : Int)) (v := .agg [.int .i64 tn, .int .i64 tu, .int .i64 td]) rfl (by omega) (by omega) (by rw [hvt]; rfl)) ?_) | (refine onSome.intro (load_fs (l := x) (enc := Rg.R) (i := tn) (v := .int .i64 r0) rfl (by omega) (by omega) (by rw [hw]; rfl)) ?_) | (refine onSome.intro (load_fs (l := x) (enc := Rg.R) (i := tn) (v := .int .i64 r1) rfl (by omega) (by omega) (by rw [hw]; rfl)) ?_) | (refine And.intro (load_fs (l := x) (enc := Rg.R) (i := tn) (v := .int .i64 r0) rfl (by omega) (by omega) (by rw [hw]; rfl)) ?_) | (refine And.intro (load_fs (l := x) (enc := Rg.R) (i := tn) (v := .int .i64 r1) rfl (by omega) (by omega) (by rw [hw]; rfl)) ?_) | (refine And.intro (idx_fs rfl rfl (by omega) (by omega) (fun _ => rfl)) ?_) | (refine CallP.pure kd ?_) | (refine CallP.pure ku ?_) | (first | refine condP.dec (fun h => ?_) (fun h => ?_) | refine condP.eq (fun h => ?_) (fun h => ?_) | refine condP.ne (fun h => ?_) (fun h => ?_)) | (refine .i64 (by omega) (by omega) ?_) | (refine onSome.intro (idx_fs rfl rfl (by omega) (by omega) (fun _ => rfl)) ?_) | (refine onSome.intro (load_fs rfl (by omega) (by omega) rfl) ?_) | (refine And.intro rfl ?_))
    conv => whnf
    exact .more (k + 1) rfl (by omega) (by omega) ⟨rfl, rfl, rfl, rfl, rfl, rfl, trivial⟩ (by rw [hG1, hG2, g1, g2]; rfl) ⟨(rgsI_no _).inn _, .ptr _ _ _ (by simp), .ptr _ _ _ (by simp), (tapsI_no _).inn _, .int _ _, .int _ _, trivial⟩ ⟨row_inn (Net.R_no _), row_inn (by simp [nn_int]), row_inn (by simp [nn_int]), trivial⟩
  · obtain rfl : k = s.taps.length := by omega
    repeat' ((conv => whnf); first | (refine condP.dec (fun h => absurd h (by omega)) (fun _ => ?_)) | (first | refine condP.dec (fun h => ?_) (fun h => ?_) | refine condP.eq (fun h => ?_) (fun h => ?_) | refine condP.ne (fun h => ?_) (fun h => ?_)) | (refine .i64 (by omega) (by omega) ?_) | (refine onSome.intro (idx_fs rfl rfl (by omega) (by omega) (fun _ => rfl)) ?_) | (refine onSome.intro (load_fs rfl (by omega) (by omega) rfl) ?_) | (refine And.intro rfl ?_))
    refine .done (by simp) ?_
    repeat' ((conv => whnf); first | (refine CallP.pure (c9cut_ok _) ?_) | (first | refine condP.dec (fun h => ?_) (fun h => ?_) | refine condP.eq (fun h => ?_) (fun h => ?_) | refine condP.ne (fun h => ?_) (fun h => ?_)) | (refine .i64 (by omega) (by omega) ?_) | (refine onSome.intro (idx_fs rfl rfl (by omega) (by omega) (fun _ => rfl)) ?_) | (refine onSome.intro (load_fs rfl (by omega) (by omega) rfl) ?_) | (refine And.intro rfl ?_))
    conv => whnf
    exact .intro ((s.grid x).I) (.inl rfl) rfl (.refl _)
theorem r9grid_ok {n : Net} {s : Stg} (hs : s.Ok n.tubes.length (n.ins + n.stages.length)) {x : List Rg} (hx : Vs x) (hxl : (x.length : Int) = n.ins + n.stages.length) (H : Heap) :
    Ev T (.call (.func (.func 103) [] []) [s.I, rgsI x] H) (.call (s.grid x).I H) := by
  refine run_pure T103 (Rg.I_no _) (nn_cons s.I_no (nn_cons (rgsI_no _) nn_none)) ?_ H
  have e1 : (s.taps.map Tap.R).length = s.taps.length := List.length_map ..
  have e3 : (x.map Rg.R).length = x.length := List.length_map ..
  have htl := hs.taps.len
  have bi0 := hs.bi.a
  have bi1 := hs.bi.b
  have bi2 := hs.bi.c
  conv => whnf
  refine loop_rule (X := Nat) (fun k => [(1, rgsI x), (2, .ptr 0 0 0), (4, .ptr 1 0 0), (5, .ptr 2 0 0), (6, .int .i64 k)]) (fun k => [.live 8 [s.R], .live 2 [[.int .i64 0, .int .i64 0]], .live 2 [[.int .i64 (gLo x s.taps s.bi.lo k), .int .i64 (gHi x s.taps s.bi.hi k)]]]) (fun k => s.taps.length - k) (fun k => k ≤ s.taps.length) 0
    (Nat.zero_le _) ⟨rfl, rfl, rfl, rfl, rfl, trivial⟩ rfl (fun _ _ => rfl) (fun k hk => ?_)
  have bl := gLo_bound hx hs.taps bi0 (by omega) k hk
  have bh := gHi_bound hx hs.taps (b := s.bi.hi) (by omega) bi2 k hk
  rcases Nat.lt_or_ge k s.taps.length with klt | kge
  · have ht := hs.taps.ok k klt
    have hv := hx.get ht.n0
    have m1 := mul_bound ht.u0 ht.u1 hv.1 hv.2.1
    have m2 := mul_bound ht.u0 ht.u1 hv.2.2.1 hv.2.2.2
    have d0 := ht.d0
    have d1 := ht.d1
    have n0 := ht.n0
    have n1 := ht.n1
    have q1 := div_bound (d := (at' s.taps (k : Int)).den) (by omega) m1.1 m1.2 (by omega)
    have q2 := up_bound (d := (at' s.taps (k : Int)).den) (by omega) m2.1 m2.2 (by omega)
    have kd := r9down_ok (d := (at' s.taps (k : Int)).den) (by omega) (by omega) (n := (at' s.taps (k : Int)).num * (at' x (at' s.taps (k : Int)).node).lo) (by omega) (by omega)
    have ku := r9up_ok (d := (at' s.taps (k : Int)).den) (by omega) (by omega) (n := (at' s.taps (k : Int)).num * (at' x (at' s.taps (k : Int)).node).hi) (by omega) (by omega)
    have g1 : gLo x s.taps s.bi.lo (k + 1) = gLo x s.taps s.bi.lo k + (at' s.taps (k : Int)).num * (at' x (at' s.taps (k : Int)).node).lo / (at' s.taps (k : Int)).den := by rw [gLo]
    have g2 : gHi x s.taps s.bi.hi (k + 1) = gHi x s.taps s.bi.hi k + up ((at' s.taps (k : Int)).num * (at' x (at' s.taps (k : Int)).node).hi) (at' s.taps (k : Int)).den := by rw [gHi]
    generalize hG1 : gLo x s.taps s.bi.lo (k + 1) = G1 at *
    generalize hG2 : gHi x s.taps s.bi.hi (k + 1) = G2 at *
    generalize gLo x s.taps s.bi.lo k = A1 at *
    generalize gHi x s.taps s.bi.hi k = A2 at *
    generalize hvt : at' s.taps (k : Int) = t at *
    obtain ⟨tn, tu, td⟩ := t
    dsimp only at *
    generalize hw : at' x tn = r at *
    obtain ⟨r0, r1⟩ := r
    dsimp only at *
    generalize tu * r0 / td = D1 at *
    generalize up (tu * r1) td = D2 at *
    repeat' ((conv => whnf); first | (refine condP.dec (fun _ => ?_) (fun h => absurd (by omega) h)) | (refine onSome.intro (load_fs (l := s.taps) (enc := Tap.R) (i := (k : Int)) (v := .agg [.int .i64 tn, .int .i64 tu, .int .i64 td]) rfl (by omega) (by omega) (by rw [hvt]; rfl)) ?_) | (refine onSome.intro (load_fs (l := x) (enc := Rg.R) (i := tn) (v := .int .i64 r0) rfl (by omega) (by omega) (by rw [hw]; rfl)) ?_) | (refine onSome.intro (load_fs (l := x) (enc := Rg.R) (i := tn) (v := .int .i64 r1) rfl (by omega) (by omega) (by rw [hw]; rfl)) ?_) | (refine And.intro (load_fs (l := x) (enc := Rg.R) (i := tn) (v := .int .i64 r0) rfl (by omega) (by omega) (by rw [hw]; rfl)) ?_) | (refine And.intro (load_fs (l := x) (enc := Rg.R) (i := tn) (v := .int .i64 r1) rfl (by omega) (by omega) (by rw [hw]; rfl)) ?_) | (refine And.intro (idx_fs rfl rfl (by omega) (by omega) (fun _ => rfl)) ?_) | (refine CallP.pure kd ?_) | (refine CallP.pure ku ?_) | (first | refine condP.dec (fun h => ?_) (fun h => ?_) | refine condP.eq (fun h => ?_) (fun h => ?_) | refine condP.ne (fun h => ?_) (fun h => ?_)) | (refine .i64 (by omega) (by omega) ?_) | (refine onSome.intro (idx_fs rfl rfl (by omega) (by omega) (fun _ => rfl)) ?_) | (refine onSome.intro (load_fs rfl (by omega) (by omega) rfl) ?_) | (refine And.intro rfl ?_))
    conv => whnf
    exact .more (k + 1) rfl (by omega) (by omega) ⟨rfl, rfl, rfl, rfl, rfl, trivial⟩ (by rw [hG1, hG2, g1, g2]; rfl) ⟨(rgsI_no _).inn _, .ptr _ _ _ (by simp), .ptr _ _ _ (by simp), .ptr _ _ _ (by simp), .int _ _, trivial⟩ ⟨row_inn (Stg.R_no _), row_inn (by simp [nn_int]), row_inn (by simp [nn_int]), trivial⟩
  · obtain rfl : k = s.taps.length := by omega
    repeat' ((conv => whnf); first | (refine condP.dec (fun h => absurd h (by omega)) (fun _ => ?_)) | (first | refine condP.dec (fun h => ?_) (fun h => ?_) | refine condP.eq (fun h => ?_) (fun h => ?_) | refine condP.ne (fun h => ?_) (fun h => ?_)) | (refine .i64 (by omega) (by omega) ?_) | (refine onSome.intro (idx_fs rfl rfl (by omega) (by omega) (fun _ => rfl)) ?_) | (refine onSome.intro (load_fs rfl (by omega) (by omega) rfl) ?_) | (refine And.intro rfl ?_))
    refine .done (by simp) ?_
    conv => whnf
    refine .intro (.agg [.int .i64 (min (max (gLo x s.taps s.bi.lo s.taps.length) (-1000000)) 1000000), .int .i64 (min (max (gHi x s.taps s.bi.hi s.taps.length) (-1000000)) 1000000)]) (.inl rfl) rfl (frz_eq ?_)
    have cv : ∀ a, min (max a (-1000000)) 1000000 = cutV a := fun a => by unfold cutV; omega
    rw [cv, cv]
    rfl

end Go.Proofs.YtlfaglkkeahamaaGreat.I
