/- The chapter's joins: their first order. -/
import Derived.Test.YtpbadgghhiommaaGseal
set_option linter.unusedVariables false
set_option maxHeartbeats 16000000
set_option linter.unusedSimpArgs false
namespace Go.Proofs.Ytpbadgghhiommaa.I
open Go.Ideal

def fr (a b : Int) (l : IV) : List IV := [.int .i64 a, .int .i64 b, l]
def joinsI : IV := .fslice [fr 900 950 .nilslice, fr 1000 1100 .nilslice, fr 950 950 (.fslice [[.int .i64 0]])]
theorem joinsI_no : Noname joinsI := by
  have h : ∀ e ∈ [fr 900 950 .nilslice, fr 1000 1100 .nilslice, fr 950 950 (.fslice [[.int .i64 0]])], ∀ x ∈ e, Noname x := by
    intro e he
    simp only [List.mem_cons, List.not_mem_nil, or_false] at he
    rcases he with rfl | rfl | rfl
    · exact nn_cons (.int _ _) (nn_cons (.int _ _) (nn_cons .nilslice nn_none))
    · exact nn_cons (.int _ _) (nn_cons (.int _ _) (nn_cons .nilslice nn_none))
    · exact nn_cons (.int _ _) (nn_cons (.int _ _) (nn_cons (sl_no [0]) nn_none))
  exact .fslice _ (fun j k hj hk => h _ (List.getElem_mem hj) _ (List.getElem_mem hk))
theorem joins_ok (H : Heap) : Ev T (.call (.func (.func 81) [] []) [.int .i64 950] H) (.call joinsI H) := by
  refine run_pure T81 joinsI_no (nn_cons (nn_int _ _) nn_none) ?_ H
  conv => whnf
  refine .intro (.mslice 1 0 3 3 true) (.inl rfl) rfl ?_
  exact .whole (sz := 3) rfl (fun _ _ h => by cases h) rfl (.cons (.refl _) (.cons (.refl _) (.cons (.cons (.refl _) (.cons (.refl _) (.cons (.whole (sz := 1) rfl (fun _ _ h => by cases h) rfl (.refl _)) .nil))) .nil)))
theorem joinsCheck_ok (H : Heap) : Ev T (.call (.func (.func 34) [] []) [joinsI] H) (.call (.int .i64 0) H) := by
  refine run_pure T34 (nn_int _ _) (nn_cons joinsI_no nn_none) ?_ H
  repeat' ((conv => whnf); first | (refine loop_step ?_) | (refine .i64 (by first | omega | decide) (by first | omega | decide) ?_) | (refine CallP.dec (outside_ok _ _) (fun h => absurd h (by decide)) (fun h => ?_)) | (refine And.intro rfl ?_))
  conv => whnf
  exact .intro (.int .i64 0) (.inl rfl) rfl (.refl _)
theorem may_0_0 (H : Heap) : Ev T (.call (.func (.func 103) [] []) [joinsI, .int .i64 0, .int .i64 0] H) (.call (.bool true) H) := by
  refine run_pure T103 (nn_bool _) (nn_cons joinsI_no (nn_cons (nn_int _ _) (nn_cons (nn_int _ _) nn_none))) ?_ H
  repeat' ((conv => whnf); first | (refine loop_step ?_) | (refine .i64 (by first | omega | decide) (by first | omega | decide) ?_) | (refine And.intro rfl ?_))
  conv => whnf
  exact .intro (.bool true) (.inl rfl) rfl (.refl _)
theorem may_1_0 (H : Heap) : Ev T (.call (.func (.func 103) [] []) [joinsI, .int .i64 1, .int .i64 0] H) (.call (.bool false) H) := by
  refine run_pure T103 (nn_bool _) (nn_cons joinsI_no (nn_cons (nn_int _ _) (nn_cons (nn_int _ _) nn_none))) ?_ H
  repeat' ((conv => whnf); first | (refine loop_step ?_) | (refine .i64 (by first | omega | decide) (by first | omega | decide) ?_) | (refine And.intro rfl ?_))
  conv => whnf
  exact .intro (.bool false) (.inl rfl) rfl (.refl _)
theorem may_1_1 (H : Heap) : Ev T (.call (.func (.func 103) [] []) [joinsI, .int .i64 1, .int .i64 1] H) (.call (.bool false) H) := by
  refine run_pure T103 (nn_bool _) (nn_cons joinsI_no (nn_cons (nn_int _ _) (nn_cons (nn_int _ _) nn_none))) ?_ H
  repeat' ((conv => whnf); first | (refine loop_step ?_) | (refine .i64 (by first | omega | decide) (by first | omega | decide) ?_) | (refine And.intro rfl ?_))
  conv => whnf
  exact .intro (.bool false) (.inl rfl) rfl (.refl _)
theorem may_1_2 (H : Heap) : Ev T (.call (.func (.func 103) [] []) [joinsI, .int .i64 1, .int .i64 2] H) (.call (.bool true) H) := by
  refine run_pure T103 (nn_bool _) (nn_cons joinsI_no (nn_cons (nn_int _ _) (nn_cons (nn_int _ _) nn_none))) ?_ H
  repeat' ((conv => whnf); first | (refine loop_step ?_) | (refine .i64 (by first | omega | decide) (by first | omega | decide) ?_) | (refine And.intro rfl ?_))
  conv => whnf
  exact .intro (.bool true) (.inl rfl) rfl (.refl _)
theorem may_5_0 (H : Heap) : Ev T (.call (.func (.func 103) [] []) [joinsI, .int .i64 5, .int .i64 0] H) (.call (.bool false) H) := by
  refine run_pure T103 (nn_bool _) (nn_cons joinsI_no (nn_cons (nn_int _ _) (nn_cons (nn_int _ _) nn_none))) ?_ H
  repeat' ((conv => whnf); first | (refine loop_step ?_) | (refine .i64 (by first | omega | decide) (by first | omega | decide) ?_) | (refine And.intro rfl ?_))
  conv => whnf
  exact .intro (.bool false) (.inl rfl) rfl (.refl _)
theorem may_5_1 (H : Heap) : Ev T (.call (.func (.func 103) [] []) [joinsI, .int .i64 5, .int .i64 1] H) (.call (.bool false) H) := by
  refine run_pure T103 (nn_bool _) (nn_cons joinsI_no (nn_cons (nn_int _ _) (nn_cons (nn_int _ _) nn_none))) ?_ H
  repeat' ((conv => whnf); first | (refine loop_step ?_) | (refine .i64 (by first | omega | decide) (by first | omega | decide) ?_) | (refine And.intro rfl ?_))
  conv => whnf
  exact .intro (.bool false) (.inl rfl) rfl (.refl _)
theorem may_5_2 (H : Heap) : Ev T (.call (.func (.func 103) [] []) [joinsI, .int .i64 5, .int .i64 2] H) (.call (.bool false) H) := by
  refine run_pure T103 (nn_bool _) (nn_cons joinsI_no (nn_cons (nn_int _ _) (nn_cons (nn_int _ _) nn_none))) ?_ H
  repeat' ((conv => whnf); first | (refine loop_step ?_) | (refine .i64 (by first | omega | decide) (by first | omega | decide) ?_) | (refine And.intro rfl ?_))
  conv => whnf
  exact .intro (.bool false) (.inl rfl) rfl (.refl _)
theorem may_0_1 (H : Heap) : Ev T (.call (.func (.func 103) [] []) [joinsI, .int .i64 0, .int .i64 1] H) (.call (.bool true) H) := by
  refine run_pure T103 (nn_bool _) (nn_cons joinsI_no (nn_cons (nn_int _ _) (nn_cons (nn_int _ _) nn_none))) ?_ H
  repeat' ((conv => whnf); first | (refine loop_step ?_) | (refine .i64 (by first | omega | decide) (by first | omega | decide) ?_) | (refine And.intro rfl ?_))
  conv => whnf
  exact .intro (.bool true) (.inl rfl) rfl (.refl _)
theorem may_2_0 (H : Heap) : Ev T (.call (.func (.func 103) [] []) [joinsI, .int .i64 2, .int .i64 0] H) (.call (.bool true) H) := by
  refine run_pure T103 (nn_bool _) (nn_cons joinsI_no (nn_cons (nn_int _ _) (nn_cons (nn_int _ _) nn_none))) ?_ H
  repeat' ((conv => whnf); first | (refine loop_step ?_) | (refine .i64 (by first | omega | decide) (by first | omega | decide) ?_) | (refine And.intro rfl ?_))
  conv => whnf
  exact .intro (.bool true) (.inl rfl) rfl (.refl _)
theorem may_3_0 (H : Heap) : Ev T (.call (.func (.func 103) [] []) [joinsI, .int .i64 3, .int .i64 0] H) (.call (.bool false) H) := by
  refine run_pure T103 (nn_bool _) (nn_cons joinsI_no (nn_cons (nn_int _ _) (nn_cons (nn_int _ _) nn_none))) ?_ H
  repeat' ((conv => whnf); first | (refine loop_step ?_) | (refine .i64 (by first | omega | decide) (by first | omega | decide) ?_) | (refine And.intro rfl ?_))
  conv => whnf
  exact .intro (.bool false) (.inl rfl) rfl (.refl _)
theorem may_3_1 (H : Heap) : Ev T (.call (.func (.func 103) [] []) [joinsI, .int .i64 3, .int .i64 1] H) (.call (.bool false) H) := by
  refine run_pure T103 (nn_bool _) (nn_cons joinsI_no (nn_cons (nn_int _ _) (nn_cons (nn_int _ _) nn_none))) ?_ H
  repeat' ((conv => whnf); first | (refine loop_step ?_) | (refine .i64 (by first | omega | decide) (by first | omega | decide) ?_) | (refine And.intro rfl ?_))
  conv => whnf
  exact .intro (.bool false) (.inl rfl) rfl (.refl _)
theorem may_3_2 (H : Heap) : Ev T (.call (.func (.func 103) [] []) [joinsI, .int .i64 3, .int .i64 2] H) (.call (.bool true) H) := by
  refine run_pure T103 (nn_bool _) (nn_cons joinsI_no (nn_cons (nn_int _ _) (nn_cons (nn_int _ _) nn_none))) ?_ H
  repeat' ((conv => whnf); first | (refine loop_step ?_) | (refine .i64 (by first | omega | decide) (by first | omega | decide) ?_) | (refine And.intro rfl ?_))
  conv => whnf
  exact .intro (.bool true) (.inl rfl) rfl (.refl _)
theorem First_ok (H : Heap) : Ev T (.call (.func (.func 59) [] []) [joinsI] H) (.call (.tuple [sl [1, 0, 2], .int .i64 0]) H) := by
  refine run_pure T59 (nn_tuple (nn_cons (sl_no _) (nn_cons (.int _ _) nn_none))) (nn_cons joinsI_no nn_none) ?_ H
  conv => whnf
  refine CallP.pure joinsCheck_ok ?_
  conv => whnf
  refine CallP.inl T101 rfl ?_
  conv => whnf
  refine range_rule [(2, .ptr 0 0 0), (3, .ptr 1 0 0)] ⟨rfl, rfl, trivial⟩ rfl T127 (fun ls hls => ?_)
  conv => whnf
  refine CallP.inl T127 (by simp [Slot.used, hls]) ?_
  repeat' ((conv => whnf); first | (refine loop_step ?_) | (refine .i64 (by first | omega | decide) (by first | omega | decide) ?_) | (refine CallP.pure may_0_0 ?_) | (refine CallP.pure may_1_0 ?_) | (refine CallP.pure may_1_1 ?_) | (refine CallP.pure may_1_2 ?_) | (refine CallP.pure may_5_0 ?_) | (refine CallP.pure may_5_1 ?_) | (refine CallP.pure may_5_2 ?_) | (refine CallP.pure may_0_1 ?_) | (refine CallP.pure may_2_0 ?_) | (refine CallP.pure may_3_0 ?_) | (refine CallP.pure may_3_1 ?_) | (refine CallP.pure may_3_2 ?_) | (refine OpP.nil (.inl rfl) rfl (by simp) (fun e he => by simp at he; subst he; rfl) (fun e he c hc => by simp at he; subst he; simp at hc; subst hc; rfl) (n' := 1) rfl (by omega) ?_) | (refine OpP.full rfl rfl rfl rfl (by simp) (fun e he => by simp at he; subst he; rfl) (fun e he c hc => by simp at he; subst he; simp at hc; subst hc; rfl) (n' := 1) rfl rfl (by omega) ?_) | (refine OpP.full rfl rfl rfl rfl (by simp) (fun e he => by simp at he; rcases he with rfl | rfl <;> rfl) (fun e he c hc => by simp at he; rcases he with rfl | rfl <;> (simp at hc; subst hc; rfl)) (n' := 2) rfl rfl (by omega) ?_) | (refine OpP.grow (n' := 2) rfl rfl rfl rfl (by simp) (fun e he => by simp at he; subst he; rfl) (fun e he c hc => by simp at he; subst he; simp at hc; subst hc; rfl) rfl rfl (by omega) ?_) | (refine OpP.grow (n' := 3) rfl rfl rfl rfl (by simp) (fun e he => by simp at he; subst he; rfl) (fun e he c hc => by simp at he; subst he; simp at hc; subst hc; rfl) rfl rfl (by omega) ?_) | (refine CallP.yield hls rfl rfl (by simp [Slot.used, hls]) rfl ?_) | (refine CallP.inl T128 (by simp [Slot.used, hls]) ?_) | (refine CallP.inl T115 (by simp [Slot.used, hls]) ?_) | (refine And.intro rfl ?_))
  conv => whnf
  refine .intro .done .ret rfl (by simp) ?_
  (repeat ((conv => whnf); refine And.intro rfl ?_)); conv => whnf
  exact .intro (.tuple [.mslice 21 0 3 3 false, .int .i64 0]) (.inl rfl) rfl (.tupleL (.cons (.whole (sz := 1) (es := [1, 0, 2].map ei) rfl (fun _ _ h => by cases h) rfl (.refl _)) (.cons (.refl _) .nil)))

end Go.Proofs.Ytpbadgghhiommaa.I
