/- Verdicts on programmes. -/
import Derived.Test.YtpbadgghhiommaaGjm
import Derived.Test.YtpbadgghhiommaaGat
set_option linter.unusedVariables false
set_option maxHeartbeats 32000000
set_option linter.unusedSimpArgs false
namespace Go.Proofs.Ytpbadgghhiommaa.I
open Go.Ideal

end Go.Proofs.Ytpbadgghhiommaa.I
