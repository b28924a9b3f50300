/- What truly grows, as the statements make it. -/
import Derived.Test.YtpbadgghhiommaaGtrue
import Derived.Test.YtpbadgghhiommaaGkit
import Derived.Test.YtpbadgghhiommaaGin
set_option linter.unusedVariables false
set_option maxHeartbeats 16000000
set_option maxRecDepth 20000
set_option linter.unusedSimpArgs false
namespace Go.Proofs.Ytpbadgghhiommaa.I
open Go.Ideal

end Go.Proofs.Ytpbadgghhiommaa.I
