/- Laws of tubes. -/
import Derived.Test.YtlfaglkkeahamaaGreatKdice
import Derived.Test.YtlfaglkkeahamaaGreatMnum
set_option linter.unusedVariables false
set_option maxHeartbeats 4000000
set_option linter.unusedSimpArgs false
namespace Go.Proofs.YtlfaglkkeahamaaGreat.I
open Go.Ideal

theorem floor_ok {n d : Int} (hd : 0 < d) (hd1 : d ≤ 9000000000000000000) (h0 : -9000000000000000000 ≤ n) (h1 : n ≤ 9000000000000000000) (H : Heap) : Ev T (.call (.func (.func 178) [] []) [.int .i64 n, .int .i64 d] H) (.call (.int .i64 (n / d)) H) := by
  refine run_pure T178 (nn_int _ _) (nn_cons (nn_int _ _) (nn_cons (nn_int _ _) nn_none)) ?_ H
  have a := tdiv_bounds hd h0 h1
  have b := tdiv_mul_bounds hd h0 h1
  have e := tdiv_floor (n := n) hd
  conv => whnf
  refine onTrue.intro (by simp; omega) ?_
  conv => whnf
  refine .i64 (by omega) (by omega) ?_
  conv => whnf
  refine .i64 (by omega) (by omega) ?_
  conv => whnf
  refine condP.dec (fun h => ?_) (fun h => ?_)
  · conv => whnf
    refine .i64 (by omega) (by omega) ?_
    conv => whnf
    rw [if_pos h] at e
    exact .intro (.int .i64 (n.tdiv d - 1)) (.inl rfl) rfl (by rw [e]; exact .refl _)
  · conv => whnf
    rw [if_neg h] at e
    exact .intro (.int .i64 (n.tdiv d)) (.inl rfl) rfl (by rw [e]; exact .refl _)

theorem ceil_ok {n d : Int} (hd : 0 < d) (hd1 : d ≤ 9000000000000000000) (h0 : -9000000000000000000 ≤ n) (h1 : n ≤ 9000000000000000000) (H : Heap) : Ev T (.call (.func (.func 180) [] []) [.int .i64 n, .int .i64 d] H) (.call (.int .i64 (up n d)) H) := by
  refine run_pure T180 (nn_int _ _) (nn_cons (nn_int _ _) (nn_cons (nn_int _ _) nn_none)) ?_ H
  have a := tdiv_bounds hd h0 h1
  have b := tdiv_mul_bounds hd h0 h1
  have e := tdiv_floor (n := -n) hd
  rw [Int.neg_tdiv, Int.neg_mul] at e
  conv => whnf
  refine onTrue.intro (by simp; omega) ?_
  conv => whnf
  refine .i64 (by omega) (by omega) ?_
  conv => whnf
  refine .i64 (by omega) (by omega) ?_
  conv => whnf
  refine condP.dec (fun h => ?_) (fun h => ?_)
  · conv => whnf
    refine .i64 (by omega) (by omega) ?_
    conv => whnf
    rw [if_pos (by omega)] at e
    exact .intro (.int .i64 (n.tdiv d + 1)) (.inl rfl) rfl (by rw [show up n d = n.tdiv d + 1 by unfold up; omega]; exact .refl _)
  · conv => whnf
    rw [if_neg (by omega)] at e
    exact .intro (.int .i64 (n.tdiv d)) (.inl rfl) rfl (by rw [show up n d = n.tdiv d by unfold up; omega]; exact .refl _)

instance (g p : Int) : Decidable (Volts g p) := by unfold Volts; infer_instance
theorem voltages_ok (g p : Int) (H : Heap) : Ev T (.call (.func (.func 176) [] []) [.int .i64 g, .int .i64 p] H) (.call (.bool (decide (Volts g p))) H) := by
  refine run_pure T176 (nn_bool _) (nn_cons (nn_int _ _) (nn_cons (nn_int _ _) nn_none)) ?_ H
  repeat' ((conv => whnf); refine condP.dec (fun h => ?_) (fun h => ?_))
  all_goals conv => whnf
  all_goals first
    | exact .intro (.bool true) (.inl rfl) rfl (frz_bool (decide_eq_true (by unfold Volts; omega)).symm)
    | exact .intro (.bool false) (.inl rfl) rfl (frz_bool (decide_eq_false (by unfold Volts; omega)).symm)

/-- A law, as the program has it. -/
def lawI (p0 p1 g0 g1 s0 s1 f0 f1 q0 q1 : Int) : IV := .agg [.int .i64 p0, .int .i64 p1, .int .i64 g0, .int .i64 g1, .int .i64 s0, .int .i64 s1, .int .i64 f0, .int .i64 f1, .int .i64 q0, .int .i64 q1]
theorem lawI_no (p0 p1 g0 g1 s0 s1 f0 f1 q0 q1 : Int) : Noname (lawI p0 p1 g0 g1 s0 s1 f0 f1 q0 q1) := nn_agg (by simp [nn_int])
/-- A range. -/
def rgI (a b : Int) : IV := .agg [.int .i64 a, .int .i64 b]
theorem rgI_no (a b : Int) : Noname (rgI a b) := nn_agg (by simp [nn_int])

/-- The error of a range. -/
def rgErr (a b lo hi : Int) : Int := if a > b then 11 else if a < lo ∨ b > hi then 2 else 0
theorem checkRange_ok (a b lo hi : Int) (H : Heap) : Ev T (.call (.func (.func 189) [] []) [rgI a b, .int .i64 lo, .int .i64 hi] H) (.call (.int .i64 (rgErr a b lo hi)) H) := by
  refine run_pure T189 (nn_int _ _) (nn_cons (rgI_no ..) (nn_cons (nn_int _ _) (nn_cons (nn_int _ _) nn_none))) ?_ H
  repeat' ((conv => whnf); first | ((first | refine condP.dec (fun h => ?_) (fun h => ?_) | refine condP.eq (fun h => ?_) (fun h => ?_) | refine condP.ne (fun h => ?_) (fun h => ?_))) | (refine .i64 (by omega) (by omega) ?_) | (refine And.intro rfl ?_))
  all_goals conv => whnf
  all_goals refine .intro (.int .i64 _) (.inl rfl) rfl (frz_int ?_)
  all_goals unfold rgErr
  all_goals split <;> (try split) <;> omega
/-- The error of a law. -/
def lawErr (p0 p1 g0 g1 s0 s1 f0 f1 q0 q1 : Int) : Int :=
  if rgErr p0 p1 0 1000000 ≠ 0 then rgErr p0 p1 0 1000000 else if rgErr g0 g1 1 1000000 ≠ 0 then rgErr g0 g1 1 1000000 else
  if rgErr s0 s1 (-1000000) 1000000 ≠ 0 then rgErr s0 s1 (-1000000) 1000000 else if rgErr f0 f1 0 1000000 ≠ 0 then rgErr f0 f1 0 1000000 else rgErr q0 q1 0 1000000
theorem lawErr_zero {p0 p1 g0 g1 s0 s1 f0 f1 q0 q1 : Int} : lawErr p0 p1 g0 g1 s0 s1 f0 f1 q0 q1 = 0 ↔ LawOk p0 p1 g0 g1 s0 s1 f0 f1 q0 q1 := by
  have key : ∀ a b lo hi : Int, rgErr a b lo hi = 0 ↔ lo ≤ a ∧ a ≤ b ∧ b ≤ hi := by
    intro a b lo hi; unfold rgErr; split <;> (try split) <;> omega
  have k1 := key p0 p1 0 1000000
  have k2 := key g0 g1 1 1000000
  have k3 := key s0 s1 (-1000000) 1000000
  have k4 := key f0 f1 0 1000000
  have k5 := key q0 q1 0 1000000
  unfold lawErr
  constructor
  · intro h
    have : rgErr p0 p1 0 1000000 = 0 ∧ rgErr g0 g1 1 1000000 = 0 ∧ rgErr s0 s1 (-1000000) 1000000 = 0 ∧ rgErr f0 f1 0 1000000 = 0 ∧ rgErr q0 q1 0 1000000 = 0 := by
      split at h
      · omega
      · split at h
        · omega
        · split at h
          · omega
          · split at h
            · omega
            · omega
    exact ⟨k1.mp this.1, k2.mp this.2.1, k3.mp this.2.2.1, k4.mp this.2.2.2.1, k5.mp this.2.2.2.2⟩
  · rintro ⟨h1, h2, h3, h4, h5⟩
    rw [k1.mpr h1, k2.mpr h2, k3.mpr h3, k4.mpr h4, k5.mpr h5]; simp
/-- A range, or an error. -/
def orErr (e a b : Int) : IV := if e = 0 then .tuple [rgI a b, .int .i64 0] else .tuple [rgI 0 0, .int .i64 e]
theorem orErr_no (e a b : Int) : Noname (orErr e a b) := by
  unfold orErr
  split <;> exact nn_tuple (nn_cons (rgI_no _ _) (nn_cons (nn_int _ _) nn_none))
end Go.Proofs.YtlfaglkkeahamaaGreat.I
