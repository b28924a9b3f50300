/- The family of a law, as the reference makes it. -/
import Derived.Test.YtbomgfbfnkfamaaKown
import Derived.Test.YtbomgfbfnkfamaaKrat
set_option linter.unusedVariables false
set_option maxHeartbeats 8000000
set_option linter.unusedSimpArgs false
namespace Go.Proofs.Ytbomgfbfnkfamaa.I
open Go.Ideal

/-- A block with a law. -/
def SL (p0 p1 g0 g1 s0 s1 f0 f1 q0 q1 : Int) : Slot := .live 10 [[.int .i64 p0, .int .i64 p1, .int .i64 g0, .int .i64 g1, .int .i64 s0, .int .i64 s1, .int .i64 f0, .int .i64 f1, .int .i64 q0, .int .i64 q1]]
end Go.Proofs.Ytbomgfbfnkfamaa.I
