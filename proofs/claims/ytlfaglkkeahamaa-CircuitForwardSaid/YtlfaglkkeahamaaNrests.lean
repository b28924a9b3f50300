/- Rests: what they are, in short. -/
import Derived.Test.YtlfaglkkeahamaaNkit2
set_option linter.unusedVariables false
set_option maxHeartbeats 16000000
set_option linter.unusedSimpArgs false
namespace Go.Proofs.Ytlfaglkkeahamaa.I
open Go.Ideal

theorem Settle_any {n : Net} (hn : n.Ok) {l : List Rg} (hl : RgsOk l n.ins (-1000000) 1000000) {a : Int} (h0 : 0 ≤ a) (h1 : a ≤ 30) (H : Heap) :
    Ev T (.call (.func (.func 15) [] []) [n.I, ol Rg.R l, .int .i64 a] H) (.call (.tuple [setI (n.settle l a.toNat), .int .i64 0]) H) := by
  have hlen := hl.len
  have i1 := hn.i1
  have k := c9Settle_ok hn.sz (RArg.ol (l := l) (by omega)) a H
  have e := setE_zero.mpr ⟨hn, hl, h0, h1⟩
  unfold setV at k
  rw [e, if_pos rfl] at k
  exact k

end Go.Proofs.Ytlfaglkkeahamaa.I
