/- The dice deal a One sooner or later. -/
import Derived.Test.YtpbadgghhiommaaGdice
set_option linter.unusedVariables false
set_option maxHeartbeats 400000
set_option linter.unusedSimpArgs false
namespace Go.Proofs.Ytpbadgghhiommaa.I
open Go.Ideal

end Go.Proofs.Ytpbadgghhiommaa.I
