/- The chapter's examples, at each law's end. -/
import Derived.Test.YtpbadgghhiommaaGstrain
import Derived.Test.YtpbadgghhiommaaGfirst
import Derived.Test.YtpbadgghhiommaaGsame
set_option linter.unusedVariables false
set_option maxHeartbeats 16000000
set_option maxRecDepth 100000
set_option linter.unusedSimpArgs false
namespace Go.Proofs.Ytpbadgghhiommaa.I
open Go.Ideal

def wallZ : List Zone := [⟨0, 9000, 10000, 0, 0⟩, ⟨700, 20000, 20000, 500000, 500000⟩]
def leadZ : List Zone := [⟨0, 9500, 9500, 0, 0⟩]
def legsL : List Leg := [⟨10, 700⟩, ⟨100, 300⟩]
theorem wall_ok (H : Heap) : Ev T (.call (.func (.func 79) [] []) [] H) (.call (stuffI 500000 wallZ) H) := by
  refine run_pure T79 (stuffI_no _ _) nn_none ?_ H
  repeat' ((conv => whnf); first | (refine CallP.inl T46 rfl ?_) | (refine And.intro rfl ?_))
  conv => whnf
  exact .intro (.agg [.int .i64 500000, .mslice 4 0 2 2 true]) (.inl rfl) rfl (.aggL (.cons (.refl _) (.cons (.whole (sz := 5) (es := wallZ.map zr) rfl (fun _ _ h => by cases h) rfl (.refl _)) .nil)))
theorem lead_ok (H : Heap) : Ev T (.call (.func (.func 80) [] []) [] H) (.call (stuffI 2000000 leadZ) H) := by
  refine run_pure T80 (stuffI_no _ _) nn_none ?_ H
  repeat' ((conv => whnf); first | (refine CallP.inl T46 rfl ?_) | (refine And.intro rfl ?_))
  conv => whnf
  exact .intro (.agg [.int .i64 2000000, .mslice 2 0 1 1 true]) (.inl rfl) rfl (.aggL (.cons (.refl _) (.cons (.whole (sz := 5) (es := leadZ.map zr) rfl (fun _ _ h => by cases h) rfl (.refl _)) .nil)))
theorem x_sealE : sealE 500000 wallZ 2000000 leadZ 800 300 = 0 := by decide
theorem x_seal : sealV 500000 wallZ 2000000 leadZ 800 300 = (2, 752) := by decide
theorem x_wall : wallE 500000 wallZ 100 800 legsL = 0 := by decide
theorem x_str : strL wallZ 100 800 legsL 2 = [(399609, 399610), (3999609, 4399610)] := by decide

theorem awake_ok (H : Heap) : Ev T (.call (.func (.func 20) [] []) [] H) (.call (.bool true) H) := by
  refine run_pure T20 (nn_bool _) nn_none ?_ H
  have h1 := Seal_ok 500000 wallZ 2000000 leadZ (by decide) (by decide) 800 300
  rw [x_sealE, x_seal] at h1
  have h2 := Strain_ok 500000 wallZ (by decide) 100 800 legsL (by decide)
  rw [x_wall, if_pos rfl] at h2
  have hs : legsL.length = 2 := rfl
  rw [hs, x_str] at h2
  conv => whnf
  refine CallP.pure wall_ok ?_
  conv => whnf
  refine CallP.pure lead_ok ?_
  conv => whnf
  refine CallP.pure h1 ?_
  conv => whnf
  refine CallP.pure wall_ok ?_
  conv => whnf
  refine CallP.frz [0] rfl [stuffI 500000 wallZ, .int .i64 100, ovenI 800 legsL] (.cons (.refl _) (.cons (.refl _) (.cons (.aggL (.cons (.refl _) (.cons (.whole (sz := 2) (es := legsL.map lr) rfl (fun _ _ h => by cases h) rfl (.refl _)) .nil))) .nil))) ?_
  conv => whnf
  refine CallP.pure h2 ?_
  conv => whnf
  refine CallP.pure joins_ok ?_
  conv => whnf
  refine CallP.pure First_ok ?_
  repeat' ((conv => whnf); first | (refine CallP.inl T46 (by simp [Slot.used]) ?_) | (refine And.intro rfl ?_))
  conv => whnf
  refine CallP.frz [3] rfl [sl [1, 0, 2], sl [1, 0, 2]] (.cons (.refl _) (.cons (.whole (sz := 1) (es := [1, 0, 2].map ei) rfl (fun _ _ h => by cases h) rfl (.refl _)) .nil)) ?_
  conv => whnf
  refine CallP.pure (Same_ok [1, 0, 2] [1, 0, 2] (by decide)) ?_
  repeat' ((conv => whnf); first | (refine And.intro rfl ?_))
  conv => whnf
  exact .intro (.bool true) (.inl rfl) rfl (.refl _)

end Go.Proofs.Ytpbadgghhiommaa.I
