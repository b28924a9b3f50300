/- Which fire may come next: sets as bits. -/
import Derived.Test.YtpbadgghhiommaaGfires
set_option linter.unusedVariables false
set_option maxHeartbeats 16000000
set_option linter.unusedSimpArgs false
namespace Go.Proofs.Ytpbadgghhiommaa.I
open Go.Ideal

/-- Fire i may come behind those of a list. -/
def NextP (l : List Fire) (bf : List Int) (i : Int) : Prop := (∀ k : Nat, k < (at' l i).aft.length → at' (at' l i).aft (k : Int) ∈ bf) ∧ (∀ b ∈ bf, (at' l i).heat ≤ (at' l b).hold) ∧ i ∉ bf
end Go.Proofs.Ytpbadgghhiommaa.I
