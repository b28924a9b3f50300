/- The program's orders, counted: the closure that calls itself and yields. -/
import Derived.Test.YtpbadgghhiommaaGkeep
set_option linter.unusedVariables false
set_option maxHeartbeats 16000000
set_option linter.unusedSimpArgs false
namespace Go.Proofs.Ytpbadgghhiommaa.I
open Go.Ideal

def nilOr : List Int → IV
  | [] => .nilslice
  | b :: bf => sl (b :: bf)
theorem nilOr_no (bf : List Int) : Noname (nilOr bf) := by
  cases bf with
  | nil => exact .nilslice
  | cons b bf => exact sl_no _
end Go.Proofs.Ytpbadgghhiommaa.I
