/- Plain lemmas on whole numbers: division rounded down and up, roots, currents of laws. -/
import Derived.Test.YtpbadgghhiommaaI3
set_option linter.unusedVariables false
set_option linter.unusedSimpArgs false
namespace Go.Proofs.Ytpbadgghhiommaa.I

/-- Rounded up. -/
def up (n d : Int) : Int := -((-n) / d)
theorem up_ge (n : Int) {d : Int} (hd : 0 < d) : n ≤ up n d * d := by
  have := Int.ediv_mul_le (-n) (Int.ne_of_gt hd)
  unfold up
  rw [Int.neg_mul]; omega
theorem up_lt (n : Int) {d : Int} (hd : 0 < d) : (up n d - 1) * d < n := by
  have := Int.lt_ediv_add_one_mul_self (-n) hd
  unfold up
  have h : (-((-n) / d) - 1) * d = -(((-n) / d + 1) * d) := by rw [← Int.neg_mul]; congr 1; omega
  rw [h]; omega
theorem le_down {a n d : Int} (hd : 0 < d) : a ≤ n / d ↔ a * d ≤ n := Int.le_ediv_iff_mul_le hd
/-- Go's division of a number by one above 0, put right downwards. -/
theorem tdiv_floor {n d : Int} (hd : 0 < d) : n / d = if (n.tdiv d) * d > n then n.tdiv d - 1 else n.tdiv d := by
  have h1 := Int.mul_tdiv_add_tmod n d
  have h2 := Int.tmod_lt_of_pos n hd
  have h3 : -d < n.tmod d := by
    have := Int.tmod_lt_of_pos (-n) hd
    rw [Int.neg_tmod] at this; omega
  generalize n.tdiv d = q at *
  generalize n.tmod d = r at *
  rw [Int.mul_comm] at h1
  have key : ∀ p, p * d ≤ n → n < (p + 1) * d → n / d = p := fun p ha hb => by
    have c1 : p ≤ n / d := (le_down hd).2 ha
    have c2 : n / d < p + 1 := Int.ediv_lt_of_lt_mul hd hb
    omega
  split
  · apply key
    · rw [Int.sub_mul]; omega
    · rw [Int.sub_add_cancel]; omega
  · apply key
    · omega
    · rw [Int.add_mul]; omega
theorem tdiv_bounds {n d : Int} (hd : 0 < d) {m : Int} (h0 : -m ≤ n) (h1 : n ≤ m) : -m ≤ n.tdiv d ∧ n.tdiv d ≤ m := by
  by_cases h : 0 ≤ n
  · rw [Int.tdiv_eq_ediv_of_nonneg h]
    have a := Int.ediv_nonneg h (Int.le_of_lt hd)
    have b := Int.ediv_le_self d h
    omega
  · have e : n.tdiv d = -((-n).tdiv d) := by rw [Int.neg_tdiv]; omega
    rw [e, Int.tdiv_eq_ediv_of_nonneg (by omega)]
    have a := Int.ediv_nonneg (show 0 ≤ -n by omega) (Int.le_of_lt hd)
    have b := Int.ediv_le_self (a := -n) d (by omega)
    omega
end Go.Proofs.Ytpbadgghhiommaa.I
