/- All orders of the numbers below n, and those of them that are right. -/
import Derived.Test.YtpbadgghhiommaaGgood
import Derived.Test.YtpbadgghhiommaaGrord2
import Derived.Test.YtpbadgghhiommaaGterm
import Derived.Test.YtpbadgghhiommaaGown
set_option linter.unusedVariables false
set_option maxHeartbeats 16000000
set_option linter.unusedSimpArgs false
namespace Go.Proofs.Ytpbadgghhiommaa.I
open Go.Ideal

noncomputable instance (l : List Fire) (o : List Int) : Decidable (RightP l o) := Classical.propDecidable _
theorem el_no (a : List Int) : ∀ x ∈ el a, Noname x := nn_cons (sl_no _) nn_none

end Go.Proofs.Ytpbadgghhiommaa.I
