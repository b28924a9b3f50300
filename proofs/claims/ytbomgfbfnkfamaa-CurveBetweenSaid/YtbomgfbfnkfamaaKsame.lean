/- Families that are compared. -/
import Derived.Test.YtbomgfbfnkfamaaKcof
set_option linter.unusedVariables false
set_option maxHeartbeats 4000000
set_option linter.unusedSimpArgs false
namespace Go.Proofs.Ytbomgfbfnkfamaa.I
open Go.Ideal

theorem OwnF_ok (l : List Int) (hl : l.length ≤ 1000000) (H : Heap) : Ev T (.call (.func (.func 88) [] []) [sl l] H) (.call (sl l) H) := by
  refine run_pure T88 (sl_no _) (nn_cons (sl_no _) nn_none) ?_ H
  cases l with
  | nil =>
    conv => whnf
    refine .none rfl rfl rfl ?_
    conv => whnf
    exact .intro (.mslice 0 0 0 0 true) (.inl rfl) rfl (.ints (sz := 1) (l := []) rfl (fun _ _ h => by cases h) rfl)
  | cons a l =>
    conv => whnf
    refine .full rfl rfl rfl rfl (by simp) ei_len ei_ok (List.nil_append _) (List.length_map ..) (by simp only [List.length_cons] at hl ⊢; omega) ?_
    conv => whnf
    exact .intro (.mslice 1 0 (l.length + 1) (l.length + 1) false) (.inl rfl) rfl (.ints (sz := 1) rfl (fun _ _ h => by cases h) rfl)

end Go.Proofs.Ytbomgfbfnkfamaa.I
