/- What truly grows. -/
import Derived.Test.YtpbadgghhiommaaGseal
set_option linter.unusedVariables false
set_option maxHeartbeats 8000000
set_option linter.unusedSimpArgs false
namespace Go.Proofs.Ytpbadgghhiommaa.I
open Go.Ideal

end Go.Proofs.Ytpbadgghhiommaa.I
