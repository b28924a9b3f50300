/- The family of a law, as the program makes it. -/
import Derived.Test.YtbomgfbfnkfamaaKof
set_option linter.unusedVariables false
set_option maxHeartbeats 8000000
set_option linter.unusedSimpArgs false
namespace Go.Proofs.Ytbomgfbfnkfamaa.I
open Go.Ideal

end Go.Proofs.Ytbomgfbfnkfamaa.I
