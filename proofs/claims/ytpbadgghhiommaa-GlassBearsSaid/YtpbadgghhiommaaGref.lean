/- The reference's tick. -/
import Derived.Test.YtpbadgghhiommaaGstr
import Derived.Test.YtpbadgghhiommaaGin
set_option linter.unusedVariables false
set_option maxHeartbeats 8000000
set_option linter.unusedSimpArgs false
namespace Go.Proofs.Ytpbadgghhiommaa.I
open Go.Ideal

end Go.Proofs.Ytpbadgghhiommaa.I
