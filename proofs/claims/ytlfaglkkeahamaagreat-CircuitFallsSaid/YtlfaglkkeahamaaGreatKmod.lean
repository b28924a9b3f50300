/- Numbers, taken by a modulus; ranges within others. -/
import Derived.Test.YtlfaglkkeahamaaGreatKkit
set_option linter.unusedVariables false
set_option maxHeartbeats 4000000
set_option linter.unusedSimpArgs false
namespace Go.Proofs.YtlfaglkkeahamaaGreat.I
open Go.Ideal

end Go.Proofs.YtlfaglkkeahamaaGreat.I
