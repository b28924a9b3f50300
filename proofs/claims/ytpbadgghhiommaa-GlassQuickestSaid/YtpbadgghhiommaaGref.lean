/- The reference's tick. -/
import Derived.Test.YtpbadgghhiommaaGstr
import Derived.Test.YtpbadgghhiommaaGin
set_option linter.unusedVariables false
set_option maxHeartbeats 8000000
set_option linter.unusedSimpArgs false
namespace Go.Proofs.Ytpbadgghhiommaa.I
open Go.Ideal

theorem rDown_ok {n d : Int} (hd : 0 < d) (hd1 : d ≤ 9000000000000000000) (h0 : -9000000000000000000 ≤ n) (h1 : n ≤ 9000000000000000000) (H : Heap) : Ev T (.call (.func (.func 99) [] []) [.int .i64 n, .int .i64 d] H) (.call (.int .i64 (n / d)) H) := by
  refine run_pure T99 (nn_int _ _) (nn_cons (nn_int _ _) (nn_cons (nn_int _ _) nn_none)) ?_ H
  have a := tdiv_bounds hd h0 h1
  have e := tdiv_floor (n := n) hd
  have m : n.tmod d = n - n.tdiv d * d := by rw [Int.tmod_def, Int.mul_comm]
  conv => whnf
  refine onTrue.intro (by simp; omega) ?_
  conv => whnf
  refine .i64 (by omega) (by omega) ?_
  conv => whnf
  refine onTrue.intro (by simp; omega) ?_
  conv => whnf
  refine condP.dec (fun h => ?_) (fun h => ?_)
  · conv => whnf
    refine .i64 (by omega) (by omega) ?_
    conv => whnf
    rw [if_pos (by omega)] at e
    exact .intro (.int .i64 (n.tdiv d - 1)) (.inl rfl) rfl (frz_int e.symm)
  · conv => whnf
    rw [if_neg (by omega)] at e
    exact .intro (.int .i64 (n.tdiv d)) (.inl rfl) rfl (frz_int e.symm)
theorem rUp_ok {n d : Int} (hd : 0 < d) (hd1 : d ≤ 9000000000000000000) (h0 : -9000000000000000000 ≤ n) (h1 : n ≤ 9000000000000000000) (H : Heap) : Ev T (.call (.func (.func 100) [] []) [.int .i64 n, .int .i64 d] H) (.call (.int .i64 (up n d)) H) := by
  refine run_pure T100 (nn_int _ _) (nn_cons (nn_int _ _) (nn_cons (nn_int _ _) nn_none)) ?_ H
  have c1 := up_in hd h0 h1
  conv => whnf
  refine .i64 (by omega) (by omega) ?_
  conv => whnf
  refine CallP.pure (rDown_ok hd hd1 (by omega) (by omega)) ?_
  conv => whnf
  have z : (0 : Int) - n = -n := by omega
  rw [z]
  refine .i64 (by omega) (by omega) ?_
  conv => whnf
  exact .intro (.int .i64 (0 - (-n) / d)) (.inl rfl) rfl (frz_int (by unfold up; omega))
theorem Relaxes_ok (z : Zone) (lo hi : Int) (hr : 0 ≤ z.rl ∧ z.rl ≤ z.rh ∧ z.rh ≤ 1000000) (hl : 0 ≤ lo) (hl1 : lo ≤ 1099511627776) (hh : 0 ≤ hi) (hh1 : hi ≤ 1099511627776) (H : Heap) :
    Ev T (.call (.func (.func 57) [] []) [zoneI z, .int .i64 lo, .int .i64 hi] H) (.call (rgI (lo * z.rl / 1000000) (up (hi * z.rh) 1000000)) H) := by
  refine run_pure T57 (rgI_no _ _) (nn_cons (zoneI_no _) (nn_cons (nn_int _ _) (nn_cons (nn_int _ _) nn_none))) ?_ H
  have a4 := mul_in hl hl1 (show 0 ≤ z.rl by omega) (show z.rl ≤ 1000000 by omega)
  have a5 := mul_in hh hh1 (show 0 ≤ z.rh by omega) hr.2.2
  repeat' ((conv => whnf); first | (refine CallP.pure (rDown_ok (by omega) (by omega) (by omega) (by omega)) ?_) | (refine CallP.pure (rUp_ok (by omega) (by omega) (by omega) (by omega)) ?_) | (first | refine condP.dec (fun h => ?_) (fun h => ?_) | refine condP.eq (fun h => ?_) (fun h => ?_) | refine condP.ne (fun h => ?_) (fun h => ?_)) | (refine .i64 (by omega) (by omega) ?_) | (refine onSome.intro (idx_fs rfl rfl (by omega) (by omega) (fun _ => rfl)) ?_) | (refine onSome.intro (load_fs rfl (by omega) (by omega) rfl) ?_) | (refine And.intro rfl ?_))
  conv => whnf
  exact .intro (rgI _ _) (.inl rfl) rfl (.refl _)
theorem Adds_ok (z : Zone) (k y : Int) (hg : 0 ≤ z.gl ∧ z.gl ≤ z.gh ∧ z.gh ≤ 100000) (hk : 0 ≤ k) (hk1 : k ≤ 1000) (hy : 0 ≤ y) (hy1 : y ≤ 2000) (H : Heap) :
    Ev T (.call (.func (.func 106) [] []) [zoneI z, .int .i64 k, .int .i64 y] H) (.call (rgI (y * k * z.gl / 100) (up (y * k * z.gh) 100)) H) := by
  refine run_pure T106 (rgI_no _ _) (nn_cons (zoneI_no _) (nn_cons (nn_int _ _) (nn_cons (nn_int _ _) nn_none))) ?_ H
  have a1 := mul_in hy hy1 hk hk1
  have a2 := mul_in a1.1 (show y * k ≤ 2000000 by omega) hg.1 (show z.gl ≤ 100000 by omega)
  have a3 := mul_in a1.1 (show y * k ≤ 2000000 by omega) (show 0 ≤ z.gh by omega) (show z.gh ≤ 100000 by omega)
  repeat' ((conv => whnf); first | (refine CallP.pure (rDown_ok (by omega) (by omega) (by omega) (by omega)) ?_) | (refine CallP.pure (rUp_ok (by omega) (by omega) (by omega) (by omega)) ?_) | (first | refine condP.dec (fun h => ?_) (fun h => ?_) | refine condP.eq (fun h => ?_) (fun h => ?_) | refine condP.ne (fun h => ?_) (fun h => ?_)) | (refine .i64 (by omega) (by omega) ?_) | (refine onSome.intro (idx_fs rfl rfl (by omega) (by omega) (fun _ => rfl)) ?_) | (refine onSome.intro (load_fs rfl (by omega) (by omega) rfl) ?_) | (refine And.intro rfl ?_))
  conv => whnf
  exact .intro (rgI _ _) (.inl rfl) rfl (.refl _)
theorem tick_ok' (z : Zone) (k lo hi y : Int) (hg : 0 ≤ z.gl ∧ z.gl ≤ z.gh ∧ z.gh ≤ 100000) (hr : 0 ≤ z.rl ∧ z.rl ≤ z.rh ∧ z.rh ≤ 1000000) (hk : 0 ≤ k) (hk1 : k ≤ 1000) (hl : 0 ≤ lo) (hl1 : lo ≤ 1099511627776) (hh : 0 ≤ hi) (hh1 : hi ≤ 1099511627776) (hy : 0 ≤ y) (hy1 : y ≤ 2000) (H : Heap) :
    Ev T (.call (.func (.func 134) [] []) [zoneI z, rgI lo hi, .int .i64 k, .int .i64 y] H) (.call (rgI (stepLo z k lo y) (stepHi z k hi y)) H) := by
  refine run_pure T134 (rgI_no _ _) (nn_cons (zoneI_no _) (nn_cons (rgI_no _ _) (nn_cons (nn_int _ _) (nn_cons (nn_int _ _) nn_none)))) ?_ H
  have sf := step_facts hg hr hk hk1 hl hl1 hh hh1 hy hy1
  obtain ⟨f1, f2, f3, f4, f5, f6, f7, f8, f9⟩ := sf
  have k1 := Adds_ok z k y hg hk hk1 hy hy1
  have k2 := Relaxes_ok z lo lo hr hl hl1 hl hl1
  have k3 := Relaxes_ok z hi hi hr hh hh1 hh hh1
  unfold stepLo stepHi
  generalize y * k * z.gl / 100 = A at *
  generalize up (y * k * z.gh) 100 = B at *
  generalize up (lo * z.rh) 1000000 = C at *
  generalize hi * z.rl / 1000000 = D at *
  generalize lo * z.rl / 1000000 = E' at *
  generalize up (hi * z.rh) 1000000 = F' at *
  repeat' ((conv => whnf); first | (refine CallP.pure k1 ?_) | (refine CallP.pure k2 ?_) | (refine CallP.pure k3 ?_) | (first | refine condP.dec (fun h => ?_) (fun h => ?_) | refine condP.eq (fun h => ?_) (fun h => ?_) | refine condP.ne (fun h => ?_) (fun h => ?_)) | (refine .i64 (by omega) (by omega) ?_) | (refine onSome.intro (idx_fs rfl rfl (by omega) (by omega) (fun _ => rfl)) ?_) | (refine onSome.intro (load_fs rfl (by omega) (by omega) rfl) ?_) | (refine And.intro rfl ?_))
  conv => whnf
  refine .intro (rgI _ _) (.inl rfl) rfl (frz_eq ?_)
  unfold rgI
  rw [show lo - C + A = lo + (A - C) by omega, show hi - D + B = hi + (B - D) by omega]

end Go.Proofs.Ytpbadgghhiommaa.I
