/- Nets: are they valid? The reference's answer. -/
import Derived.Test.YtlfaglkkeahamaaNchk2
import Derived.Test.YtlfaglkkeahamaaKrat
set_option linter.unusedVariables false
set_option maxHeartbeats 16000000
set_option linter.unusedSimpArgs false
namespace Go.Proofs.Ytlfaglkkeahamaa.I
open Go.Ideal

end Go.Proofs.Ytlfaglkkeahamaa.I
