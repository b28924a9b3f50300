/- The chapter's examples that are looked at each time. -/
import Derived.Test.YtbomgfbfnkfamaaKrat
import Derived.Test.YtbomgfbfnkfamaaMof
set_option linter.unusedVariables false
set_option maxHeartbeats 4000000
set_option linter.unusedSimpArgs false
namespace Go.Proofs.Ytbomgfbfnkfamaa.I
open Go.Ideal

theorem alone_ok (n : Int) (H : Heap) : Ev T (.call (.func (.func 77) [] []) [.int .i64 n] H) (.call (rgI n n) H) := by
  refine run_pure T77 (rgI_no _ _) (nn_cons (nn_int _ _) nn_none) ?_ H
  conv => whnf
  exact .intro (rgI n n) (.inl rfl) rfl (.refl _)
theorem law_ok (H : Heap) : Ev T (.call (.func (.func 63) [] []) [] H) (.call (lawI 60000 60000 20000 20000 0 0 100000 100000 1000000 1000000) H) := by
  refine run_pure T63 (lawI_no ..) nn_none ?_ H
  conv => whnf
  refine CallP.pure (alone_ok _) ?_
  conv => whnf
  refine CallP.pure (alone_ok _) ?_
  conv => whnf
  refine CallP.pure (alone_ok _) ?_
  conv => whnf
  refine CallP.pure (alone_ok _) ?_
  conv => whnf
  refine CallP.pure (alone_ok _) ?_
  conv => whnf
  exact .intro (lawI 60000 60000 20000 20000 0 0 100000 100000 1000000 1000000) (.inl rfl) rfl (.refl _)
abbrev xg : List Int := [-2000, 0]
abbrev xp : List Int := [0, 100000]
abbrev xl : List (List Int) := [[0, 10], [20, 60]]
abbrev xh : List (List Int) := [[5, 10], [20, 80]]
theorem family_ok (H : Heap) : Ev T (.call (.func (.func 64) [] []) [] H) (.call (famI xg xp xl xh) H) := by
  refine run_pure T64 (famI_no ..) nn_none ?_ H
  conv => whnf
  refine .intro (.agg [.mslice 1 0 2 2 true, .mslice 2 0 2 2 true, .mslice 5 0 2 2 true, .mslice 8 0 2 2 true]) (.inl rfl) rfl (.aggL (.cons ?_ (.cons ?_ (.cons ?_ (.cons ?_ .nil)))))
  · exact .ints (sz := 1) (l := [-2000, 0]) rfl (fun _ _ h => by cases h) rfl
  · exact .ints (sz := 1) (l := [0, 100000]) rfl (fun _ _ h => by cases h) rfl
  · exact .whole (sz := 1) (es := [[.mslice 3 0 2 2 true], [.mslice 4 0 2 2 true]]) rfl (fun _ _ h => by cases h) rfl
      (.cons (.cons (.ints (sz := 1) (l := [0, 10]) rfl (fun _ _ h => by cases h) rfl) .nil) (.cons (.cons (.ints (sz := 1) (l := [20, 60]) rfl (fun _ _ h => by cases h) rfl) .nil) .nil))
  · exact .whole (sz := 1) (es := [[.mslice 6 0 2 2 true], [.mslice 7 0 2 2 true]]) rfl (fun _ _ h => by cases h) rfl
      (.cons (.cons (.ints (sz := 1) (l := [5, 10]) rfl (fun _ _ h => by cases h) rfl) .nil) (.cons (.cons (.ints (sz := 1) (l := [20, 80]) rfl (fun _ _ h => by cases h) rfl) .nil) .nil))
theorem x_root : rt (4000 * 4000 * 4000) = 252982 := rt_eq ⟨by decide, by decide, by decide⟩
theorem x_cur : orErr (askErr 60000 60000 20000 20000 0 0 100000 100000 1000000 1000000 4000 0) (cLo 60000 20000 0 100000 1000000 4000 0) (cHi 60000 20000 0 100000 1000000 4000 0) = .tuple [rgI 15178 15179, .int .i64 0] := by
  have e0 : askErr 60000 60000 20000 20000 0 0 100000 100000 1000000 1000000 4000 0 = 0 := by decide
  have d1 : dLo 20000 0 4000 0 = 4000 := by decide
  have d2 : dHi 20000 0 4000 0 = 4000 := by decide
  have r2 : rtUp (4000 * 4000 * 4000) = 252983 := by unfold rtUp; rw [x_root]; decide
  have e1 : cLo 60000 20000 0 100000 1000000 4000 0 = 15178 := by unfold cLo; rw [d1, x_root]; decide
  have e2 : cHi 60000 20000 0 100000 1000000 4000 0 = 15179 := by unfold cHi; rw [d2, r2]; decide
  rw [e0, e1, e2, orErr, if_pos rfl]
theorem x_err : famErr xg xp xl xh = 0 := by decide
theorem x_at : orErr (atErr xg xp xl xh (-1000) 50000) (atLo xg xp xl (-1000) 50000) (atHi xg xp xh (-1000) 50000) = .tuple [rgI 22 29, .int .i64 0] := by
  have fo := famErr_zero x_err
  have sx : Spot xg (-1000) 0 1000 2000 := Spot.mid (l := xg) (v := -1000) 0 (by decide) (by decide) (by decide)
  have sy : Spot xp 50000 0 50000 100000 := Spot.mid (l := xp) (v := 50000) 0 (by decide) (by decide) (by decide)
  have e0 : atErr xg xp xl xh (-1000) 50000 = 0 := by unfold atErr; rw [x_err]; decide
  have e1 : atLo xg xp xl (-1000) 50000 = 22 := by rw [(at_spots fo sx sy xl).1]; decide
  have e2 : atHi xg xp xh (-1000) 50000 = 29 := by rw [(at_spots fo sx sy xh).2]; decide
  rw [e0, e1, e2, orErr, if_pos rfl]
theorem awake_ok (H : Heap) : Ev T (.call (.func (.func 17) [] []) [] H) (.call (.bool true) H) := by
  refine run_pure T17 (nn_bool _) nn_none ?_ H
  have h1 := Current_ok 60000 60000 20000 20000 0 0 100000 100000 1000000 1000000 4000 0
  rw [x_cur] at h1
  have h2 := At_ok xg xp xl xh (by decide) (by decide) (by decide) (by decide) (-1000) 50000
  rw [x_at] at h2
  have h3 := Check_ok xg xp xl xh (by decide) (by decide) (by decide) (by decide)
  rw [x_err] at h3
  conv => whnf
  refine CallP.pure law_ok ?_
  conv => whnf
  refine CallP.pure h1 ?_
  conv => whnf
  refine CallP.pure family_ok ?_
  conv => whnf
  refine CallP.pure h2 ?_
  conv => whnf
  refine CallP.pure family_ok ?_
  conv => whnf
  refine CallP.pure h3 ?_
  conv => whnf
  exact .intro (.bool true) (.inl rfl) rfl (.refl _)

end Go.Proofs.Ytbomgfbfnkfamaa.I
