/- Fires: are they valid? -/
import Derived.Test.YtpbadgghhiommaaGref
import Derived.Test.YtpbadgghhiommaaGin
import Derived.Test.YtpbadgghhiommaaGsame
set_option linter.unusedVariables false
set_option maxHeartbeats 16000000
set_option linter.unusedSimpArgs false
namespace Go.Proofs.Ytpbadgghhiommaa.I
open Go.Ideal

def aftE (m i : Int) (af : List Int) (k : Nat) : Int := if Outs (at' af (k : Int)) (m - 1) then 2 else if at' af (k : Int) = i then 12 else if 0 < k ∧ at' af (k : Int) ≤ at' af ((k : Int) - 1) then 11 else 0
def fireE (l : List Fire) (i : Nat) : Int := if Outs (at' l (i : Int)).heat 2000 ∨ Outs (at' l (i : Int)).hold 2000 then 2 else firstErr (aftE l.length i (at' l (i : Int)).aft) (at' l (i : Int)).aft.length
def firesE (l : List Fire) : Int := if 8 < l.length then 8 else firstErr (fireE l) l.length

end Go.Proofs.Ytpbadgghhiommaa.I
