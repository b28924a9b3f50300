/- Arguments, as lists. -/
import Derived.Test.YtpbadgghhiommaaGoven
import Derived.Test.YtpbadgghhiommaaI3
set_option linter.unusedVariables false
set_option linter.unusedSimpArgs false
namespace Go.Proofs.Ytpbadgghhiommaa.I
open Go.Ideal Go.RowKit

theorem condP.same1 {a : Int} {A B : Prop} (h : A) : condP (a == a) A B := condP.intro (fun _ => h) (fun q => absurd q (by simp))
theorem condP.differ1 {a : Int} {A B : Prop} (h : B) : condP (a != a) A B := condP.intro (fun q => absurd q (by simp)) (fun _ => h)

structure Fire where
  heat : Int
  hold : Int
  aft : List Int
  deriving Inhabited
def frR (f : Fire) : List IV := [.int .i64 f.heat, .int .i64 f.hold, sl f.aft]
theorem frR_no (f : Fire) : ∀ x ∈ frR f, Noname x := nn_cons (.int _ _) (nn_cons (.int _ _) (nn_cons (sl_no _) nn_none))
def frsl (l : List Fire) : IV := .fslice (l.map frR)
theorem frsl_no (l : List Fire) : Noname (frsl l) := nn_fs (fun _ _ => frR_no _)
end Go.Proofs.Ytpbadgghhiommaa.I
