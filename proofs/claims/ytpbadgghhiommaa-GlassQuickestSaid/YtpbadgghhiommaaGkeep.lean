/- Calls that keep the memory they came with (loops in it too), and nothing of their own: for functions that call themselves and yield. -/
import Derived.Test.YtpbadgghhiommaaGrord2
set_option linter.unusedVariables false
set_option maxHeartbeats 4000000
set_option linter.unusedSimpArgs false
namespace Go.Proofs.Ytpbadgghhiommaa.I
open Go.Ideal

theorem named_of {L : List Slot} (h : chkS (· < L.length) L) : ∀ b, b < L.length → (Heap.of L).named b := fun b hb => by
  have e := Heap.of_get (List.getElem?_eq_getElem hb)
  unfold Heap.named
  rw [e]
  exact (chkS_get h b _ (List.getElem?_eq_getElem hb)).1

end Go.Proofs.Ytpbadgghhiommaa.I
