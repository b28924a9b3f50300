/- Nets made, and what is compared. -/
import Derived.Test.YtlfaglkkeahamaaGreatNpair
import Derived.Test.YtlfaglkkeahamaaGreatKmod
set_option linter.unusedVariables false
set_option maxHeartbeats 16000000
set_option linter.unusedSimpArgs false
namespace Go.Proofs.YtlfaglkkeahamaaGreat.I
open Go.Ideal

end Go.Proofs.YtlfaglkkeahamaaGreat.I
