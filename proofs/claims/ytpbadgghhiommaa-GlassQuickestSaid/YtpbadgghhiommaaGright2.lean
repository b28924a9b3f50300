/- Right, the program's and the reference's. -/
import Derived.Test.YtpbadgghhiommaaGright
set_option linter.unusedVariables false
set_option maxHeartbeats 16000000
set_option linter.unusedSimpArgs false
namespace Go.Proofs.Ytpbadgghhiommaa.I
open Go.Ideal

def StepP (l : List Fire) (order : List Int) (j : Nat) : Prop := (0 ≤ at' order (j : Int) ∧ at' order (j : Int) < l.length) ∧ NextP l (order.take j) (at' order (j : Int))
def RightP (l : List Fire) (order : List Int) : Prop := firesE l = 0 ∧ order.length = l.length ∧ ∀ j : Nat, j < order.length → StepP l order j
end Go.Proofs.Ytpbadgghhiommaa.I
