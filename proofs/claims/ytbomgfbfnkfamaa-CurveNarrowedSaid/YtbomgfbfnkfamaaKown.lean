/- Lists that are made. -/
import Derived.Test.YtbomgfbfnkfamaaKat
import Derived.Test.YtbomgfbfnkfamaaKkit
set_option linter.unusedVariables false
set_option maxHeartbeats 4000000
set_option linter.unusedSimpArgs false
namespace Go.Proofs.Ytbomgfbfnkfamaa.I
open Go.Ideal

end Go.Proofs.Ytbomgfbfnkfamaa.I
