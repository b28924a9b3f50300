/- How long a strain takes to come down. -/
import Derived.Test.YtpbadgghhiommaaGref
set_option linter.unusedVariables false
set_option maxHeartbeats 16000000
set_option linter.unusedSimpArgs false
namespace Go.Proofs.Ytpbadgghhiommaa.I
open Go.Ideal

end Go.Proofs.Ytpbadgghhiommaa.I
