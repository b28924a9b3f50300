/- GlassFirst runs to true. -/
import Derived.Test.YtpbadgghhiommaaGperm
import Derived.Test.YtpbadgghhiommaaGcount
import Derived.Test.YtpbadgghhiommaaGfirst2
set_option linter.unusedVariables false
set_option maxHeartbeats 32000000
set_option linter.unusedSimpArgs false
namespace Go.Proofs.Ytpbadgghhiommaa.I
open Go.Ideal

theorem ascB_ge {n : Int} {af : List Int} (h : AscB n af) : ∀ k : Nat, k < af.length → (k : Int) ≤ at' af (k : Int)
  | 0, hk => (h 0 hk).1
  | k + 1, hk => by
    have h1 := ascB_ge h k (by omega)
    have h2 := (h (k + 1) hk).2.2 (by omega)
    rw [show ((k + 1 : Nat) : Int) - 1 = (k : Int) by omega] at h2
    omega
theorem ascB_len {n : Nat} {af : List Int} (h : AscB n af) : af.length ≤ n := by
  rcases Nat.lt_or_ge n af.length with q | q
  · have := ascB_ge h n q
    have := (h n q).2.1
    omega
  · exact q
end Go.Proofs.Ytpbadgghhiommaa.I
