/- Growth and mismatch of glass, with their errors. -/
import Derived.Test.YtpbadgghhiommaaGgrow
set_option linter.unusedVariables false
set_option maxHeartbeats 4000000
set_option linter.unusedSimpArgs false
namespace Go.Proofs.Ytpbadgghhiommaa.I
open Go.Ideal

theorem growth_ok (b : Int) (zs : List Zone) (h : ZOk zs) (u v : Int) (hu : 0 ≤ u) (hu1 : u ≤ 2000) (hv0 : 0 ≤ v) (hv : v ≤ 2000) (H : Heap) : Ev T (.call (.func (.func 95) [] []) [stuffI b zs, .int .i64 u, .int .i64 v] H) (.call (rgI (gLo zs u v) (gHi zs u v)) H) := by
  by_cases c : u ≤ v
  · have := growUp_ok b zs h u v hu c hv H
    unfold gLo gHi
    rw [if_pos c, if_pos c]; exact this
  · refine run_pure T95 (rgI_no _ _) (nn_cons (stuffI_no _ _) (nn_cons (nn_int _ _) (nn_cons (nn_int _ _) nn_none))) ?_ H
    have k := growUp_ok b zs h v u hv0 (by omega) hu1
    have b1 := gUp_bound (gl_bnd h) hv0 hu1
    have b2 := gUp_bound (gh_bnd h) hv0 hu1
    have k2 := minus_ok (gUp Zone.gl zs v u) (gUp Zone.gh zs v u) (by omega) (by omega) (by omega) (by omega)
    unfold gLo gHi
    rw [if_neg c, if_neg c]
    generalize gUp Zone.gl zs v u = x1 at *
    generalize gUp Zone.gh zs v u = x2 at *
    conv => whnf
    refine condP.dec (fun _ => ?_) (fun q => absurd (by omega) q)
    conv => whnf
    refine CallP.pure k ?_
    conv => whnf
    refine CallP.pure k2 ?_
    conv => whnf
    exact .intro (rgI (-x2) (-x1)) (.inl rfl) rfl (.refl _)
theorem gLo_bound {zs : List Zone} (h : ZOk zs) {u v : Int} (hu : 0 ≤ u) (hu1 : u ≤ 2000) (hv0 : 0 ≤ v) (hv : v ≤ 2000) : -200000000 ≤ gLo zs u v ∧ gLo zs u v ≤ 200000000 ∧ -200000000 ≤ gHi zs u v ∧ gHi zs u v ≤ 200000000 := by
  have b1 := gUp_bound (gl_bnd h) hu hv
  have b2 := gUp_bound (gh_bnd h) hu hv
  have b3 := gUp_bound (gl_bnd h) hv0 hu1
  have b4 := gUp_bound (gh_bnd h) hv0 hu1
  unfold gLo gHi
  split <;> omega

def zif (e n : Int) : Int := if e = 0 then n else 0
def pairE (a : Int) (x : List Zone) (b : Int) (y : List Zone) (s h : Int) : Int := if checkE a x ≠ 0 then checkE a x else if checkE b y ≠ 0 then checkE b y else if Outs s 2000 ∨ Outs h 2000 then 2 else 0
theorem pair_zero {a : Int} {x : List Zone} {b : Int} {y : List Zone} {s h : Int} (q : pairE a x b y s h = 0) : checkE a x = 0 ∧ checkE b y = 0 ∧ 0 ≤ s ∧ s ≤ 2000 ∧ 0 ≤ h ∧ h ≤ 2000 := by
  unfold pairE Outs at q
  split at q
  · contradiction
  · split at q
    · contradiction
    · split at q
      · cases q
      · omega
theorem checkPair_ok (a : Int) (x : List Zone) (b : Int) (y : List Zone) (hx : x.length ≤ 9000000000000000000) (hy : y.length ≤ 9000000000000000000) (s t : Int) (H : Heap) : Ev T (.call (.func (.func 92) [] []) [stuffI a x, stuffI b y, .int .i64 s, .int .i64 t] H) (.call (.int .i64 (pairE a x b y s t)) H) := by
  refine run_pure T92 (nn_int _ _) (nn_cons (stuffI_no _ _) (nn_cons (stuffI_no _ _) (nn_cons (nn_int _ _) (nn_cons (nn_int _ _) nn_none)))) ?_ H
  have k1 := Check_ok a x hx
  have k2 := Check_ok b y hy
  unfold pairE
  generalize checkE a x = c at *
  generalize checkE b y = d at *
  repeat' ((conv => whnf); first | (refine CallP.dec (outside_ok _ _) (fun h => ?_) (fun h => ?_)) | (refine CallP.pure k1 ?_) | (refine CallP.pure k2 ?_) | (first | refine condP.dec (fun h => ?_) (fun h => ?_) | refine condP.eq (fun h => ?_) (fun h => ?_) | refine condP.ne (fun h => ?_) (fun h => ?_)) | (refine .i64 (by omega) (by omega) ?_) | (refine onSome.intro (idx_fs rfl rfl (by omega) (by omega) (fun _ => rfl)) ?_) | (refine onSome.intro (load_fs rfl (by omega) (by omega) rfl) ?_) | (refine And.intro rfl ?_))
  all_goals unfold Outs at *
  all_goals conv => whnf
  all_goals refine .intro (.int .i64 _) (.inl rfl) rfl (frz_int ?_)
  all_goals repeat' split
  all_goals omega
def mLo (x y : List Zone) (s t : Int) : Int := gLo x s t - gHi y s t
def mHi (x y : List Zone) (s t : Int) : Int := gHi x s t - gLo y s t
theorem mismatch_ok (a : Int) (x : List Zone) (b : Int) (y : List Zone) (hx : ZOk x) (hy : ZOk y) (s t : Int) (hs : 0 ≤ s) (hs1 : s ≤ 2000) (ht : 0 ≤ t) (ht1 : t ≤ 2000) (H : Heap) :
    Ev T (.call (.func (.func 94) [] []) [stuffI a x, stuffI b y, .int .i64 s, .int .i64 t] H) (.call (rgI (mLo x y s t) (mHi x y s t)) H) := by
  refine run_pure T94 (rgI_no _ _) (nn_cons (stuffI_no _ _) (nn_cons (stuffI_no _ _) (nn_cons (nn_int _ _) (nn_cons (nn_int _ _) nn_none)))) ?_ H
  have k1 := growth_ok a x hx s t hs hs1 ht ht1
  have k2 := growth_ok b y hy s t hs hs1 ht ht1
  have b1 := gLo_bound hx hs hs1 ht ht1
  have b2 := gLo_bound hy hs hs1 ht ht1
  unfold mLo mHi
  generalize gLo x s t = p1 at *
  generalize gHi x s t = p2 at *
  generalize gLo y s t = q1 at *
  generalize gHi y s t = q2 at *
  repeat' ((conv => whnf); first | (refine CallP.pure k1 ?_) | (refine CallP.pure k2 ?_) | (first | refine condP.dec (fun h => ?_) (fun h => ?_) | refine condP.eq (fun h => ?_) (fun h => ?_) | refine condP.ne (fun h => ?_) (fun h => ?_)) | (refine .i64 (by omega) (by omega) ?_) | (refine onSome.intro (idx_fs rfl rfl (by omega) (by omega) (fun _ => rfl)) ?_) | (refine onSome.intro (load_fs rfl (by omega) (by omega) rfl) ?_) | (refine And.intro rfl ?_))
  conv => whnf
  exact .intro (rgI (p1 - q2) (p2 - q1)) (.inl rfl) rfl (.refl _)
end Go.Proofs.Ytpbadgghhiommaa.I
