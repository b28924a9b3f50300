/- Nets: are they valid? The reference's answer. -/
import Derived.Test.YtlfaglkkeahamaaGreatNchk2
import Derived.Test.YtlfaglkkeahamaaGreatKrat
set_option linter.unusedVariables false
set_option maxHeartbeats 16000000
set_option linter.unusedSimpArgs false
namespace Go.Proofs.YtlfaglkkeahamaaGreat.I
open Go.Ideal

end Go.Proofs.YtlfaglkkeahamaaGreat.I
