/- The program's First. -/
import Derived.Test.YtpbadgghhiommaaGorders2
set_option linter.unusedVariables false
set_option maxHeartbeats 16000000
set_option linter.unusedSimpArgs false
namespace Go.Proofs.Ytpbadgghhiommaa.I
open Go.Ideal

end Go.Proofs.Ytpbadgghhiommaa.I
