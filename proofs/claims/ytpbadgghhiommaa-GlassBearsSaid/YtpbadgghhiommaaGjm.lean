/- Programmes, tick by tick: heats, strains, verdicts. -/
import Derived.Test.YtpbadgghhiommaaGstrain
import Derived.Test.YtpbadgghhiommaaGref
set_option linter.unusedVariables false
set_option maxHeartbeats 8000000
set_option linter.unusedSimpArgs false
namespace Go.Proofs.Ytpbadgghhiommaa.I
open Go.Ideal

def rs (zs : List Zone) (k : Int) (hs : List Int) : Nat → Int × Int
  | 0 => (0, 0)
  | i + 1 => (stepLo (zoneOf zs (at' hs ((i : Int) + 1))) k (rs zs k hs i).1 (max (at' hs ((i : Int) + 1) - at' hs i) (at' hs i - at' hs ((i : Int) + 1))),
      stepHi (zoneOf zs (at' hs ((i : Int) + 1))) k (rs zs k hs i).2 (max (at' hs ((i : Int) + 1) - at' hs i) (at' hs i - at' hs ((i : Int) + 1))))
end Go.Proofs.Ytpbadgghhiommaa.I
