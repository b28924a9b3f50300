/- Fires that are made of numbers. -/
import Derived.Test.YtpbadgghhiommaaGfire
import Derived.Test.YtpbadgghhiommaaGkit2
set_option linter.unusedVariables false
set_option maxHeartbeats 16000000
set_option linter.unusedSimpArgs false
namespace Go.Proofs.Ytpbadgghhiommaa.I
open Go.Ideal

theorem lsS_no {sz : Nat} {α : Type} {enc : α → List IV} {l : List α} (h : ∀ a, ∀ x ∈ enc a, Noname x) : NonameS (lsS sz enc l) := by
  cases l with
  | nil => exact trivial
  | cons a l => exact noS_map h
theorem ei_no (a : Int) : ∀ x ∈ ei a, Noname x := nn_cons (.int _ _) nn_none
end Go.Proofs.Ytpbadgghhiommaa.I
