/- Fires that are made of numbers are valid. -/
import Derived.Test.YtpbadgghhiommaaGfires
import Derived.Test.YtpbadgghhiommaaGmay
set_option linter.unusedVariables false
set_option maxHeartbeats 16000000
set_option linter.unusedSimpArgs false
namespace Go.Proofs.Ytpbadgghhiommaa.I
open Go.Ideal

theorem at_snoc_lt {α : Type} [Inhabited α] {l : List α} {a : α} {k : Nat} (h : k < l.length) : at' (l ++ [a]) (k : Int) = at' l (k : Int) := by
  rw [at'_get (show k < (l ++ [a]).length by simp; omega), at'_get h, List.getElem_append_left h]
theorem at_snoc_eq {α : Type} [Inhabited α] {l : List α} {a : α} : at' (l ++ [a]) (l.length : Int) = a := by
  rw [at'_get (show l.length < (l ++ [a]).length by simp), List.getElem_append_right (Nat.le_refl _)]
  simp
end Go.Proofs.Ytpbadgghhiommaa.I
