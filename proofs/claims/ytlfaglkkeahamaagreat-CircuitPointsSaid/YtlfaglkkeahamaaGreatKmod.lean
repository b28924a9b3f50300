/- Numbers, taken by a modulus; ranges within others. -/
import Derived.Test.YtlfaglkkeahamaaGreatKkit
set_option linter.unusedVariables false
set_option maxHeartbeats 4000000
set_option linter.unusedSimpArgs false
namespace Go.Proofs.YtlfaglkkeahamaaGreat.I
open Go.Ideal

def modI (n m : Int) : Int := if m < 1 then 0 else n % m
theorem tmod_emod (n : Int) {m : Int} (h : 0 < m) : n % m = if n.tmod m < 0 then n.tmod m + m else n.tmod m := by
  have h1 := Int.mul_tdiv_add_tmod n m
  have h2 := Int.tmod_lt_of_pos n h
  have h3 : -m < n.tmod m := by
    have := Int.tmod_lt_of_pos (-n) h
    rw [Int.neg_tmod] at this
    omega
  have e : ∀ r : Int, 0 ≤ r → r < m → ∀ q, n = m * q + r → n % m = r := fun r a b q hq => by
    rw [hq, Int.add_comm, Int.add_mul_emod_self_left]
    exact Int.emod_eq_of_lt a b
  split
  · refine e _ (by omega) (by omega) (n.tdiv m - 1) ?_
    rw [Int.mul_sub]; omega
  · exact e _ (by omega) (by omega) (n.tdiv m) (by omega)
theorem Mod_ok (n m : Int) (h0 : -9223372036854775808 ≤ n) (h1 : n ≤ 9223372036854775807) (hm : m ≤ 9000000000000000000) (hm0 : -9000000000000000000 ≤ m) (H : Heap) : Ev T (.call (.func (.func 25) [] []) [.int .i64 n, .int .i64 m] H) (.call (.int .i64 (modI n m)) H) := by
  refine run_pure T25 (nn_int _ _) (nn_cons (nn_int _ _) (nn_cons (nn_int _ _) nn_none)) ?_ H
  unfold modI
  by_cases c : m < 1
  · rw [if_pos c]
    conv => whnf
    refine condP.dec (fun _ => ?_) (fun h => absurd c h)
    conv => whnf
    exact .intro (.int .i64 0) (.inl rfl) rfl (.refl _)
  · rw [if_neg c]
    have e := tmod_emod n (m := m) (by omega)
    have h2 := Int.tmod_lt_of_pos n (show 0 < m by omega)
    have h3 := Int.emod_nonneg n (show m ≠ 0 by omega)
    have h4 := Int.emod_lt_of_pos n (show 0 < m by omega)
    conv => whnf
    refine condP.dec (fun h => absurd h c) (fun _ => ?_)
    conv => whnf
    refine onTrue.intro (by simp; omega) ?_
    conv => whnf
    refine condP.dec (fun h => ?_) (fun h => ?_)
    · rw [if_pos h] at e
      conv => whnf
      refine .i64 (by omega) (by omega) ?_
      conv => whnf
      exact .intro (.int .i64 (n.tmod m + m)) (.inl rfl) rfl (frz_int e.symm)
    · rw [if_neg h] at e
      conv => whnf
      exact .intro (.int .i64 (n.tmod m)) (.inl rfl) rfl (frz_int e.symm)

end Go.Proofs.YtlfaglkkeahamaaGreat.I
