/- The reference's First and Count. -/
import Derived.Test.YtpbadgghhiommaaGrord
set_option linter.unusedVariables false
set_option maxHeartbeats 16000000
set_option linter.unusedSimpArgs false
namespace Go.Proofs.Ytpbadgghhiommaa.I
open Go.Ideal

noncomputable def allL (l : List Fire) : List (List Int) := ordL l l.length []
noncomputable def countR (l : List Fire) : Int × Int := if firesE l ≠ 0 then (0, firesE l) else ((allL l).length, 0)
end Go.Proofs.Ytpbadgghhiommaa.I
