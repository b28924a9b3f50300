/- Rests: what they are, in short. -/
import Derived.Test.YtlfaglkkeahamaaGreatNkit2
set_option linter.unusedVariables false
set_option maxHeartbeats 16000000
set_option linter.unusedSimpArgs false
namespace Go.Proofs.YtlfaglkkeahamaaGreat.I
open Go.Ideal

theorem chkN {S : Nat → Prop} {sz : Nat} {r : List IV} {l : List Slot} (h : ∀ x ∈ r, Noname x) (k : chkS S l) : chkS S (.live sz [r] :: l) := ⟨inn_row (fun x hx => (h x hx).inn _), k⟩
theorem eqb (a b : Int) : (a == a && (b == b && true)) = true := by simp
end Go.Proofs.YtlfaglkkeahamaaGreat.I
