/- Copies of stuffs, programmes and fires; equal ones. -/
import Derived.Test.YtpbadgghhiommaaGfire
import Derived.Test.YtpbadgghhiommaaGkit2
set_option linter.unusedVariables false
set_option maxHeartbeats 16000000
set_option linter.unusedSimpArgs false
namespace Go.Proofs.Ytpbadgghhiommaa.I
open Go.Ideal

end Go.Proofs.Ytpbadgghhiommaa.I
