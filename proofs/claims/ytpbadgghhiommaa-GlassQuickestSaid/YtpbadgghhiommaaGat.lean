/- Growth, mismatch and seals of valid stuffs. -/
import Derived.Test.YtpbadgghhiommaaGtruly
import Derived.Test.YtpbadgghhiommaaGawake
set_option linter.unusedVariables false
set_option maxHeartbeats 8000000
set_option linter.unusedSimpArgs false
namespace Go.Proofs.Ytpbadgghhiommaa.I
open Go.Ideal

theorem zif_0 (n : Int) : zif 0 n = n := if_pos rfl
end Go.Proofs.Ytpbadgghhiommaa.I
