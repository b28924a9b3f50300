/- The reference's orders: all right orders, their number and the first. -/
import Derived.Test.YtpbadgghhiommaaGright2
set_option linter.unusedVariables false
set_option maxHeartbeats 16000000
set_option linter.unusedSimpArgs false
namespace Go.Proofs.Ytpbadgghhiommaa.I
open Go.Ideal

def ordP (f : Nat → List (List Int)) : Nat → List (List Int)
  | 0 => []
  | k + 1 => ordP f k ++ f k
noncomputable instance (l : List Fire) (bf : List Int) (i : Int) : Decidable (NextP l bf i) := Classical.propDecidable _
/-- All right orders that begin as given, d fires to come. -/
noncomputable def ordL (l : List Fire) : Nat → List Int → List (List Int)
  | 0, bf => [bf]
  | d + 1, bf => ordP (fun i => if NextP l bf i then ordL l d (bf ++ [(i : Int)]) else []) l.length
theorem ordP_len {f : Nat → List (List Int)} {M : Nat} (h : ∀ i, (f i).length ≤ M) : ∀ k, (ordP f k).length ≤ k * M
  | 0 => by simp [ordP]
  | k + 1 => by
    rw [ordP, List.length_append, Nat.add_mul]
    have := ordP_len h k
    have := h k
    omega
theorem ordL_len (l : List Fire) (hl : l.length ≤ 8) : ∀ (d : Nat) (bf : List Int), (ordL l d bf).length ≤ 8 ^ d
  | 0, bf => by simp [ordL]
  | d + 1, bf => by
    rw [ordL]
    have := ordP_len (f := fun i => if NextP l bf i then ordL l d (bf ++ [(i : Int)]) else []) (M := 8 ^ d) (fun i => by
      split
      · exact ordL_len l hl d _
      · simp) l.length
    have h2 : l.length * 8 ^ d ≤ 8 * 8 ^ d := Nat.mul_le_mul_right _ hl
    rw [Nat.pow_succ]
    omega
end Go.Proofs.Ytpbadgghhiommaa.I
