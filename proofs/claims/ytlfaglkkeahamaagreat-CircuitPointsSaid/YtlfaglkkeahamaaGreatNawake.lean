/- The chapter's examples, at each law's end. -/
import Derived.Test.YtlfaglkkeahamaaGreatNsingle
set_option linter.unusedVariables false
set_option maxHeartbeats 16000000
set_option maxRecDepth 100000
set_option linter.unusedSimpArgs false
namespace Go.Proofs.YtlfaglkkeahamaaGreat.I
open Go.Ideal

theorem tubes0_ok (H : Heap) : Ev T (.call (.func (.func 129) [] []) [] H) (.call (famsI [fam0]) H) := by
  refine run_pure T129 (famsI_no _) nn_none ?_ H
  conv => whnf
  exact .intro (.mslice 8 0 1 1 true) (.inl rfl) rfl (.whole (sz := 4) (es := [[.mslice 0 0 2 2 true, .mslice 1 0 2 2 true, .mslice 4 0 2 2 true, .mslice 7 0 2 2 true]]) rfl (fun _ _ h => by cases h) rfl
    (.cons (.cons (.ints (sz := 1) (l := [-2000, 0]) rfl (fun _ _ h => by cases h) rfl) (.cons (.ints (sz := 1) (l := [0, 100000]) rfl (fun _ _ h => by cases h) rfl)
      (.cons (.whole (sz := 1) (es := [[.mslice 2 0 2 2 true], [.mslice 3 0 2 2 true]]) rfl (fun _ _ h => by cases h) rfl (.cons (.cons (.ints (sz := 1) (l := [0, 0]) rfl (fun _ _ h => by cases h) rfl) .nil) (.cons (.cons (.ints (sz := 1) (l := [0, 1000]) rfl (fun _ _ h => by cases h) rfl) .nil) .nil)))
      (.cons (.whole (sz := 1) (es := [[.mslice 5 0 2 2 true], [.mslice 6 0 2 2 true]]) rfl (fun _ _ h => by cases h) rfl (.cons (.cons (.ints (sz := 1) (l := [0, 0]) rfl (fun _ _ h => by cases h) rfl) .nil) (.cons (.cons (.ints (sz := 1) (l := [0, 1000]) rfl (fun _ _ h => by cases h) rfl) .nil) .nil))) .nil)))) .nil))
theorem single0_ok (H : Heap) : Ev T (.call (.func (.func 66) [] []) [] H) (.call net0.I H) := by
  refine run_pure T66 (Net.I_no _) nn_none ?_ H
  repeat' ((conv => whnf); first | (refine CallP.pure tubes0_ok ?_) | (refine CallP.inl T32 rfl ?_) | (refine And.intro rfl ?_))
  conv => whnf
  exact .intro (.agg [famsI [fam0], .int .i64 1, .mslice 4 0 1 1 true]) (.inl rfl) rfl (.aggL (.cons (.refl _) (.cons (.refl _) (.cons (.whole (sz := 8) (es := [[.int .i64 0, .int .i64 100000, .int .i64 100000, .int .i64 100000, .int .i64 100000, .int .i64 0, .int .i64 0, .mslice 3 0 1 1 true]]) rfl (fun _ _ h => by cases h) rfl
    (.cons (.cons (.refl _) (.cons (.refl _) (.cons (.refl _) (.cons (.refl _) (.cons (.refl _) (.cons (.refl _) (.cons (.refl _) (.cons (.whole (sz := 3) (es := [(⟨0, 1, 1⟩ : Tap)].map Tap.R) rfl (fun _ _ h => by cases h) rfl (.refl _)) .nil)))))))) .nil)) .nil))))
theorem one0_ok (a b : Int) (H : Heap) : Ev T (.call (.func (.func 67) [] []) [.int .i64 a, .int .i64 b] H) (.call (rgsI [⟨a, b⟩]) H) := by
  refine run_pure T67 (rgsI_no _) (nn_cons (.int _ _) (nn_cons (.int _ _) nn_none)) ?_ H
  repeat' ((conv => whnf); first | (refine CallP.inl T32 rfl ?_) | (refine And.intro rfl ?_))
  conv => whnf
  exact .intro (.mslice 1 0 1 1 true) (.inl rfl) rfl (.whole (sz := 2) (es := [⟨a, b⟩].map Rg.R) rfl (fun _ _ h => by cases h) rfl (.refl _))

def cas0 : Cas := ⟨[⟨0, 0⟩], [⟨1, ⟨60000, 70000⟩⟩]⟩
theorem in0_arg : RArg (rgsI [⟨0, 0⟩]) [⟨0, 0⟩] := RArg.ol (l := [⟨0, 0⟩]) (by decide)
theorem judge0_ok (H : Heap) : Ev T (.call (.func (.func 23) [] []) [net0.I, casI [cas0], .int .i64 9] H) (.call (.tuple [.int .i64 2, .int .i64 0, .int .i64 0, .int .i64 0]) H) := by
  refine run_pure T23 (nn_tuple (nn_cons (.int _ _) (nn_cons (.int _ _) (nn_cons (.int _ _) (nn_cons (.int _ _) nn_none))))) (nn_cons net0.I_no (nn_cons (casI_no _) (nn_cons (.int _ _) nn_none))) ?_ H
  have kC := c9check_ok net0 net0_ok.sz
  rw [netE_zero.mpr net0_ok] at kC
  have kV := in0_arg.volts 1 (-1000000)
  rw [show rgsE [⟨0, 0⟩] 1 (-1000000) 1000000 = 0 by decide] at kV
  have hT : ∀ i : Nat, i < net0.stages.length → Clones 170 3 Tap.R (tapsI (at' net0.stages (i : Int)).taps) (at' net0.stages (i : Int)).taps := fun i hi => by
    obtain rfl : i = 0 := by simp [net0] at hi; exact hi
    exact cloneT_ok [⟨0, 1, 1⟩] (by simp) (by decide)
  have kN := c9corner_ok net0_ok (l := [⟨0, 0⟩]) rfl in0_arg (c := 0) (by decide) hT
  rw [corner0, cornerIn0] at kN
  have kS := c9settle_ok net0_ok (l := [⟨0, 0⟩]) (rgsE_zero.mp (by decide)) in0_arg.no in0_arg.clone (sw := 9) (by decide)
  have hr := rest9 8
  generalize net0.settle [⟨0, 0⟩] 9 = q at *
  obtain ⟨y, cn, st⟩ := q
  dsimp only at hr
  subst hr
  repeat' ((conv => whnf); first | (refine CallP.inl T71 rfl ?_) | (refine CallP.inl T72 rfl ?_) | (refine CallP.inl T73 rfl ?_) | (refine CallP.inl T74 rfl ?_) | (refine CallP.inl T100 rfl ?_) | (refine CallP.inl T76 rfl ?_) | (refine CallP.inl T75 rfl ?_) | (refine CallP.inl T77 rfl ?_) | (refine CallP.pure kC ?_) | (refine CallP.pure kV ?_) | (refine .i64 (by first | omega | decide) (by first | omega | decide) ?_) | (refine loop_step ?_) | (refine And.intro rfl ?_))
  refine range_rule [(5, .ptr 2 0 0), (6, .ptr 3 0 0), (7, .ptr 4 0 0), (8, .ptr 5 0 0), (9, .ptr 6 0 0), (11, .ptr 14 0 0), (12, .ptr 15 0 0), (13, .ptr 16 0 0)] ⟨rfl, rfl, rfl, rfl, rfl, rfl, rfl, rfl, trivial⟩ rfl T133 (fun ls hls => ?_)
  conv => whnf
  refine CallP.inl T133 (by simp [Slot.used, hls]) ?_
  repeat' ((conv => whnf); first | (refine CallP.inl T76 (by simp [Slot.used, hls]) ?_) | (refine CallP.inl T78 (by simp [Slot.used, hls]) ?_) | (refine CallP.inl T134 (by simp [Slot.used, hls]) ?_) | (refine CallP.inl T174 (by simp [Slot.used, hls]) ?_) | (refine CallP.inl T135 (by simp [Slot.used, hls]) ?_) | (refine CallP.inl T128 (by simp [Slot.used, hls]) ?_) | (refine CallP.pure kN ?_) | (refine CallP.pure kS ?_) | (refine CallP.yield hls rfl rfl (by simp [Slot.used, hls]) rfl ?_) | (refine .i64 (by first | omega | decide) (by first | omega | decide) ?_) | (refine loop_step ?_) | (refine And.intro rfl ?_))
  conv => whnf
  refine .intro .done .ret rfl (by simp) ?_
  (repeat ((conv => whnf); refine And.intro rfl ?_)); conv => whnf
  exact .intro (.tuple [.int .i64 2, .int .i64 0, .int .i64 0, .int .i64 0]) (.inl rfl) rfl (.refl _)
theorem awake_ok (H : Heap) : Ev T (.call (.func (.func 19) [] []) [] H) (.call (.bool true) H) := by
  refine run_pure T19 (nn_bool _) nn_none ?_ H
  have kS := c9Settle_ok (n := net0) net0_ok.sz (v := rgsI [⟨-2000, 0⟩]) (l := [⟨-2000, 0⟩]) (RArg.ol (l := [⟨-2000, 0⟩]) (by decide)) 1
  have hE : setE net0 [⟨-2000, 0⟩] 1 = 0 := setE_zero.mpr ⟨net0_ok, rgsE_zero.mp (by decide), by decide, by decide⟩
  rw [hE, show setV net0 [⟨-2000, 0⟩] 1 = setI ([⟨-2000, 0⟩, ⟨50000, 100000⟩], 1, false) by unfold setV; rw [if_pos hE, show (1 : Int).toNat = 1 from rfl, rest0]] at kS
  repeat' ((conv => whnf); first | (refine CallP.pure single0_ok ?_) | (refine CallP.pure (one0_ok _ _) ?_) | (refine CallP.pure kS ?_) | (refine CallP.inl T32 rfl ?_) | (refine And.intro rfl ?_))
  conv => whnf
  refine CallP.frz [2, 3] rfl [net0.I, casI [cas0], .int .i64 9] (.cons (.refl _) (.cons (.whole (sz := 2) (es := [[rgsI [⟨0, 0⟩], .mslice 2 0 1 1 true]]) rfl (fun _ _ h => by cases h) rfl (.cons (.cons (.refl _) (.cons (.whole (sz := 3) (es := [(⟨1, ⟨60000, 70000⟩⟩ : Win)].map Win.R) rfl (fun _ _ h => by cases h) rfl (.refl _)) .nil)) .nil)) (.cons (.refl _) .nil))) ?_
  conv => whnf
  refine CallP.pure judge0_ok ?_
  repeat' ((conv => whnf); first | (refine CallP.inl T32 rfl ?_) | (refine CallP.inl T52 rfl ?_) | (refine And.intro rfl ?_))
  conv => whnf
  exact .intro (.bool true) (.inl rfl) rfl (.refl _)

end Go.Proofs.YtlfaglkkeahamaaGreat.I
