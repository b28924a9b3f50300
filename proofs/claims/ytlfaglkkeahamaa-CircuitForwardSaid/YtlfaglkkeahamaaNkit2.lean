/- Nets made, and what is compared. -/
import Derived.Test.YtlfaglkkeahamaaNpair
import Derived.Test.YtlfaglkkeahamaaKmod
set_option linter.unusedVariables false
set_option maxHeartbeats 16000000
set_option linter.unusedSimpArgs false
namespace Go.Proofs.Ytlfaglkkeahamaa.I
open Go.Ideal

end Go.Proofs.Ytlfaglkkeahamaa.I
