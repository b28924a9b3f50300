/- Arguments, as lists. -/
import Derived.Test.YtpbadgghhiommaaGoven
import Derived.Test.YtpbadgghhiommaaI3
set_option linter.unusedVariables false
set_option linter.unusedSimpArgs false
namespace Go.Proofs.Ytpbadgghhiommaa.I
open Go.Ideal Go.RowKit

theorem condP.same1 {a : Int} {A B : Prop} (h : A) : condP (a == a) A B := condP.intro (fun _ => h) (fun q => absurd q (by simp))
structure Fire where
  heat : Int
  hold : Int
  aft : List Int
  deriving Inhabited
end Go.Proofs.Ytpbadgghhiommaa.I
