/- All lists of digits, as the reference makes them. -/
import Derived.Test.YtpbadgghhiommaaGfast1
import Derived.Test.YtpbadgghhiommaaGorders
import Derived.Test.YtpbadgghhiommaaGperm
set_option linter.unusedVariables false
set_option maxHeartbeats 16000000
set_option linter.unusedSimpArgs false
namespace Go.Proofs.Ytpbadgghhiommaa.I
open Go.Ideal

end Go.Proofs.Ytpbadgghhiommaa.I
