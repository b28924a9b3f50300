/- Numbers, taken by a modulus; ranges within others. -/
import Derived.Test.YtbomgfbfnkfamaaKkit
set_option linter.unusedVariables false
set_option maxHeartbeats 4000000
set_option linter.unusedSimpArgs false
namespace Go.Proofs.Ytbomgfbfnkfamaa.I
open Go.Ideal

theorem Within_ok (a b c d : Int) (H : Heap) : Ev T (.call (.func (.func 30) [] []) [rgI a b, rgI c d] H) (.call (.bool (decide (c ≤ a ∧ b ≤ d))) H) := by
  refine run_pure T30 (nn_bool _) (nn_cons (rgI_no _ _) (nn_cons (rgI_no _ _) nn_none)) ?_ H
  repeat' ((conv => whnf); first | (first | refine condP.dec (fun h => ?_) (fun h => ?_) | refine condP.eq (fun h => ?_) (fun h => ?_) | refine condP.ne (fun h => ?_) (fun h => ?_)) | (refine .i64 (by omega) (by omega) ?_) | (refine onSome.intro (idx_fs rfl rfl (by omega) (by omega) (fun _ => rfl)) ?_) | (refine onSome.intro (load_fs rfl (by omega) (by omega) rfl) ?_) | (refine And.intro rfl ?_))
  all_goals conv => whnf
  all_goals first
    | exact .intro (.bool true) (.inl rfl) rfl (frz_bool (decide_eq_true (by omega)).symm)
    | exact .intro (.bool false) (.inl rfl) rfl (frz_bool (decide_eq_false (by omega)).symm)
end Go.Proofs.Ytbomgfbfnkfamaa.I
