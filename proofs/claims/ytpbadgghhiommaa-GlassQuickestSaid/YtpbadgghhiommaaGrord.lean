/- The reference's orders: all right orders, their number and the first. -/
import Derived.Test.YtpbadgghhiommaaGright2
set_option linter.unusedVariables false
set_option maxHeartbeats 16000000
set_option linter.unusedSimpArgs false
namespace Go.Proofs.Ytpbadgghhiommaa.I
open Go.Ideal

noncomputable instance (l : List Fire) (bf : List Int) (i : Int) : Decidable (NextP l bf i) := Classical.propDecidable _
end Go.Proofs.Ytpbadgghhiommaa.I
