/- Strain, tick by tick. -/
import Derived.Test.YtpbadgghhiommaaGseal
set_option linter.unusedVariables false
set_option maxHeartbeats 8000000
set_option linter.unusedSimpArgs false
namespace Go.Proofs.Ytpbadgghhiommaa.I
open Go.Ideal

theorem down_ok {n d : Int} (hd : 0 < d) (hd1 : d ≤ 9000000000000000000) (h0 : -9000000000000000000 ≤ n) (h1 : n ≤ 9000000000000000000) (H : Heap) : Ev T (.call (.func (.func 125) [] []) [.int .i64 n, .int .i64 d] H) (.call (.int .i64 (n / d)) H) := by
  refine run_pure T125 (nn_int _ _) (nn_cons (nn_int _ _) (nn_cons (nn_int _ _) nn_none)) ?_ H
  have a := tdiv_bounds hd h0 h1
  have e := tdiv_floor (n := n) hd
  have m : n.tmod d = n - n.tdiv d * d := by rw [Int.tmod_def, Int.mul_comm]
  conv => whnf
  refine onTrue.intro (by simp; omega) ?_
  conv => whnf
  refine .i64 (by omega) (by omega) ?_
  conv => whnf
  refine onTrue.intro (by simp; omega) ?_
  conv => whnf
  refine condP.dec (fun h => ?_) (fun h => ?_)
  · conv => whnf
    refine .i64 (by omega) (by omega) ?_
    conv => whnf
    rw [if_pos (by omega)] at e
    exact .intro (.int .i64 (n.tdiv d - 1)) (.inl rfl) rfl (frz_int e.symm)
  · conv => whnf
    rw [if_neg (by omega)] at e
    exact .intro (.int .i64 (n.tdiv d)) (.inl rfl) rfl (frz_int e.symm)
theorem up_in {n d : Int} (hd : 0 < d) (h0 : -9000000000000000000 ≤ n) (h1 : n ≤ 9000000000000000000) : -9000000000000000001 ≤ (-n) / d ∧ (-n) / d ≤ 9000000000000000000 := by
  have x3 := tdiv_bounds (n := -n) hd (m := 9000000000000000000) (by omega) (by omega)
  have x4 := tdiv_floor (n := -n) hd
  split at x4 <;> omega
theorem up_ok {n d : Int} (hd : 0 < d) (hd1 : d ≤ 9000000000000000000) (h0 : -9000000000000000000 ≤ n) (h1 : n ≤ 9000000000000000000) (H : Heap) : Ev T (.call (.func (.func 126) [] []) [.int .i64 n, .int .i64 d] H) (.call (.int .i64 (up n d)) H) := by
  refine run_pure T126 (nn_int _ _) (nn_cons (nn_int _ _) (nn_cons (nn_int _ _) nn_none)) ?_ H
  have c1 := up_in hd h0 h1
  conv => whnf
  refine .i64 (by omega) (by omega) ?_
  conv => whnf
  refine CallP.pure (down_ok hd hd1 (by omega) (by omega)) ?_
  conv => whnf
  have z : (0 : Int) - n = -n := by omega
  rw [z]
  refine .i64 (by omega) (by omega) ?_
  conv => whnf
  exact .intro (.int .i64 (0 - (-n) / d)) (.inl rfl) rfl (frz_int (by unfold up; omega))

theorem mul_in {a b A B : Int} (h0 : 0 ≤ a) (h1 : a ≤ A) (h2 : 0 ≤ b) (h3 : b ≤ B) : 0 ≤ a * b ∧ a * b ≤ A * B :=
  ⟨Int.mul_nonneg h0 h2, Int.mul_le_mul h1 h3 h2 (by omega)⟩
theorem up_nonneg {n d : Int} (hd : 0 < d) (h : 0 ≤ n) : 0 ≤ up n d := by
  have := up_ge n hd
  apply Classical.byContradiction
  intro c
  have : up n d * d ≤ -1 * d := Int.mul_le_mul_of_nonneg_right (by omega) (by omega)
  omega
theorem up_at {n d m : Int} (hd : 0 < d) (h : n ≤ m * d) : up n d ≤ m := by
  have := up_lt n hd
  have h2 : (up n d - 1) * d < m * d := by omega
  have := Int.lt_of_mul_lt_mul_right h2 (by omega)
  omega
theorem div_le {n d m : Int} (hd : 0 < d) (h : n ≤ m * d) : n / d ≤ m := by
  have := Int.ediv_mul_le n (show d ≠ 0 by omega)
  apply Classical.byContradiction
  intro c
  have : (m + 1) * d ≤ n / d * d := Int.mul_le_mul_of_nonneg_right (by omega) (by omega)
  rw [Int.add_mul] at this
  omega

def stepLo (z : Zone) (k lo y : Int) : Int := min (lo + (y * k * z.gl / 100 - up (lo * z.rh) 1000000)) 1099511627776
def stepHi (z : Zone) (k hi y : Int) : Int := min (hi + (up (y * k * z.gh) 100 - hi * z.rl / 1000000)) 1099511627776
theorem step_facts {z : Zone} (hg : 0 ≤ z.gl ∧ z.gl ≤ z.gh ∧ z.gh ≤ 100000) (hr : 0 ≤ z.rl ∧ z.rl ≤ z.rh ∧ z.rh ≤ 1000000) {k lo hi y : Int} (hk : 0 ≤ k) (hk1 : k ≤ 1000) (hl : 0 ≤ lo) (hl1 : lo ≤ 1099511627776) (hh : 0 ≤ hi) (hh1 : hi ≤ 1099511627776) (hy : 0 ≤ y) (hy1 : y ≤ 2000) :
    (0 ≤ y * k ∧ y * k ≤ 2000000) ∧ (0 ≤ y * k * z.gl ∧ y * k * z.gl ≤ 200000000000) ∧ (0 ≤ y * k * z.gh ∧ y * k * z.gh ≤ 200000000000) ∧ (0 ≤ lo * z.rh ∧ lo * z.rh ≤ lo * 1000000) ∧ (0 ≤ hi * z.rl ∧ hi * z.rl ≤ hi * 1000000) ∧
    (0 ≤ y * k * z.gl / 100 ∧ y * k * z.gl / 100 ≤ 2000000000) ∧ (0 ≤ up (y * k * z.gh) 100 ∧ up (y * k * z.gh) 100 ≤ 2000000000) ∧ (0 ≤ up (lo * z.rh) 1000000 ∧ up (lo * z.rh) 1000000 ≤ lo) ∧ (0 ≤ hi * z.rl / 1000000 ∧ hi * z.rl / 1000000 ≤ hi) := by
  have a1 := mul_in hy hy1 hk hk1
  have a2 := mul_in a1.1 (show y * k ≤ 2000000 by omega) hg.1 (show z.gl ≤ 100000 by omega)
  have a3 := mul_in a1.1 (show y * k ≤ 2000000 by omega) (show 0 ≤ z.gh by omega) (show z.gh ≤ 100000 by omega)
  have a4 := mul_in hl (Int.le_refl lo) (show 0 ≤ z.rh by omega) hr.2.2
  have a5 := mul_in hh (Int.le_refl hi) hr.1 (show z.rl ≤ 1000000 by omega)
  have b1 := div_le (n := y * k * z.gl) (d := 100) (m := 2000000000) (by omega) (by omega)
  have b2 := Int.ediv_nonneg a2.1 (show (0 : Int) ≤ 100 by omega)
  have b3 := up_nonneg (n := y * k * z.gh) (d := 100) (by omega) a3.1
  have b4 := up_at (n := y * k * z.gh) (d := 100) (m := 2000000000) (by omega) (by omega)
  have b5 := up_nonneg (n := lo * z.rh) (d := 1000000) (by omega) a4.1
  have b6 := up_at (n := lo * z.rh) (d := 1000000) (m := lo) (by omega) a4.2
  have b7 := Int.ediv_nonneg a5.1 (show (0 : Int) ≤ 1000000 by omega)
  have b8 := div_le (n := hi * z.rl) (d := 1000000) (m := hi) (by omega) a5.2
  refine ⟨?_, ?_, ?_, a4, a5, ?_, ?_, ⟨b5, b6⟩, ⟨b7, b8⟩⟩ <;> omega
theorem step_in {z : Zone} (hg : 0 ≤ z.gl ∧ z.gl ≤ z.gh ∧ z.gh ≤ 100000) (hr : 0 ≤ z.rl ∧ z.rl ≤ z.rh ∧ z.rh ≤ 1000000) {k lo hi y : Int} (hk : 0 ≤ k) (hk1 : k ≤ 1000) (hl : 0 ≤ lo) (hl1 : lo ≤ 1099511627776) (hh : 0 ≤ hi) (hh1 : hi ≤ 1099511627776) (hy : 0 ≤ y) (hy1 : y ≤ 2000) :
    0 ≤ stepLo z k lo y ∧ stepLo z k lo y ≤ 1099511627776 ∧ 0 ≤ stepHi z k hi y ∧ stepHi z k hi y ≤ 1099511627776 := by
  have := step_facts hg hr hk hk1 hl hl1 hh hh1 hy hy1
  unfold stepLo stepHi
  omega
theorem step_ok (b : Int) (zs : List Zone) (h : ZOk zs) (k lo hi t y : Int) (hk : 0 ≤ k) (hk1 : k ≤ 1000) (hl : 0 ≤ lo) (hl1 : lo ≤ 1099511627776) (hh : 0 ≤ hi) (hh1 : hi ≤ 1099511627776) (hy : 0 ≤ y) (hy1 : y ≤ 2000) (H : Heap) :
    Ev T (.call (.func (.func 98) [] []) [stuffI b zs, .int .i64 k, rgI lo hi, .int .i64 t, .int .i64 y] H) (.call (rgI (stepLo (zoneOf zs t) k lo y) (stepHi (zoneOf zs t) k hi y)) H) := by
  refine run_pure T98 (rgI_no _ _) (nn_cons (stuffI_no _ _) (nn_cons (nn_int _ _) (nn_cons (rgI_no _ _) (nn_cons (nn_int _ _) (nn_cons (nn_int _ _) nn_none))))) ?_ H
  have k1 := zone_ok b zs h.pos (by have := h.len; omega) t
  have hg := zoneOf_gr h t
  have hr := zoneOf_re h t
  generalize zoneOf zs t = z at *
  have sf := step_facts hg hr hk hk1 hl hl1 hh hh1 hy hy1
  obtain ⟨f1, f2, f3, f4, f5, f6, f7, f8, f9⟩ := sf
  unfold stepLo stepHi
  repeat' ((conv => whnf); first | (refine CallP.pure k1 ?_) | (refine CallP.pure (down_ok (by omega) (by omega) (by omega) (by omega)) ?_) | (refine CallP.pure (up_ok (by omega) (by omega) (by omega) (by omega)) ?_) | (first | refine condP.dec (fun h => ?_) (fun h => ?_) | refine condP.eq (fun h => ?_) (fun h => ?_) | refine condP.ne (fun h => ?_) (fun h => ?_)) | (refine .i64 (by omega) (by omega) ?_) | (refine onSome.intro (idx_fs rfl rfl (by omega) (by omega) (fun _ => rfl)) ?_) | (refine onSome.intro (load_fs rfl (by omega) (by omega) rfl) ?_) | (refine And.intro rfl ?_))
  conv => whnf
  exact .intro (rgI _ _) (.inl rfl) rfl (.refl _)

end Go.Proofs.Ytpbadgghhiommaa.I
