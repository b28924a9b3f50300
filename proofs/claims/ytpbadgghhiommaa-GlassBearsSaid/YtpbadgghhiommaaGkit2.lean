/- What the statements make of programmes; soaking, as the reference has it. -/
import Derived.Test.YtpbadgghhiommaaGjudge
import Derived.Test.YtpbadgghhiommaaGref2
import Derived.Test.YtpbadgghhiommaaGsoak
set_option linter.unusedVariables false
set_option maxHeartbeats 16000000
set_option linter.unusedSimpArgs false
namespace Go.Proofs.Ytpbadgghhiommaa.I
open Go.Ideal

end Go.Proofs.Ytpbadgghhiommaa.I
