/- Families, as the reference has them. -/
import Derived.Test.YtbomgfbfnkfamaaKat
set_option linter.unusedVariables false
set_option maxHeartbeats 4000000
set_option linter.unusedSimpArgs false
namespace Go.Proofs.Ytbomgfbfnkfamaa.I
open Go.Ideal

/-- A table has less at a place than at the one before. -/
def Falls (t : List (List Int)) (i k : Nat) : Prop := (0 < k ∧ vc t i k < vc t i (k - 1)) ∨ (0 < i ∧ vc t i k < vc t (i - 1) k)
instance (t : List (List Int)) (i k : Nat) : Decidable (Falls t i k) := by unfold Falls; infer_instance
end Go.Proofs.Ytbomgfbfnkfamaa.I
