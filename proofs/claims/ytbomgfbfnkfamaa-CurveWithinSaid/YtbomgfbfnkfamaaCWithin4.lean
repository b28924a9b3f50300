/- What the functions of the claim compute, and that it is as the claim says: part 5 of 5. -/
import Derived.Test.YtbomgfbfnkfamaaCWithin3
import Derived.Test.YtbomgfbfnkfamaaCWithinWWords
import Derived.Test.YtbomgfbfnkfamaaCWithinWMore
import Derived.OpenShut
import Derived.Test.YtbomgfbfnkfamaaRows
import Derived.WalkKit
import Derived.ProofKit
import Derived.ShutString
import Derived.ChangeOld
import Derived.Below
import Derived.SizedLaws
import Derived.Test.YtbomgfbfnkfamaaCWithinWSized
section
namespace Go.Proofs.Ytbomgfbfnkfamaa.PAll
open Go.RowKit Go.Proofs.YtbomgfbfnkfamaaW.PrintWords Go.Proofs.YtbomgfbfnkfamaaW.PrintLast Go.Proofs.YtbomgfbfnkfamaaW.PrintMore
attribute [local go_sem] max2_int min2_int max_two min_two max_three min_three max_four min_four   -- for this text's walks alone
set_option linter.unusedVariables false
set_option linter.unusedSimpArgs false

/-! ### thermionlaw02_CurveWithin: function 5 -/
def thermionlaw02_CurveWithin.f (k : Nat) (l0 : List Int) (a1 : Int) (a2 : Int) (a3 : Bool) : Option (Bool) := (thermionkit_NewDice.f l0).bind fun t101 => ((thermionkit_LawOf.f k t101).bind fun bt103 => ((thermionkit_WithinLaw.f bt103.2.2.2.2.2.2.2.2.2.2 bt103.1 bt103.2.1 bt103.2.2.1 bt103.2.2.2.1 bt103.2.2.2.2.1 bt103.2.2.2.2.2.1 bt103.2.2.2.2.2.2.1 bt103.2.2.2.2.2.2.2.1 bt103.2.2.2.2.2.2.2.2.1 bt103.2.2.2.2.2.2.2.2.2.1 a3).bind fun bt115 => ((thermionkit_Mod.f a1 20000).bind fun t127 => ((thermionkit_Mod.f a2 400000).bind fun t128 => ((curve_Current.f k bt103.1 bt103.2.1 bt103.2.2.1 bt103.2.2.2.1 bt103.2.2.2.2.1 bt103.2.2.2.2.2.1 bt103.2.2.2.2.2.2.1 bt103.2.2.2.2.2.2.2.1 bt103.2.2.2.2.2.2.2.2.1 bt103.2.2.2.2.2.2.2.2.2.1 (wrap64 (t127 - 10000)) t128).bind fun bt129 => ((curve_Current.f k bt115.1 bt115.2.1 bt115.2.2.1 bt115.2.2.2.1 bt115.2.2.2.2.1 bt115.2.2.2.2.2.1 bt115.2.2.2.2.2.2.1 bt115.2.2.2.2.2.2.2.1 bt115.2.2.2.2.2.2.2.2.1 bt115.2.2.2.2.2.2.2.2.2.1 (wrap64 (t127 - 10000)) t128).bind fun bt133 => ((curve_Drive.f bt103.1 bt103.2.1 bt103.2.2.1 bt103.2.2.2.1 bt103.2.2.2.2.1 bt103.2.2.2.2.2.1 bt103.2.2.2.2.2.2.1 bt103.2.2.2.2.2.2.2.1 bt103.2.2.2.2.2.2.2.2.1 bt103.2.2.2.2.2.2.2.2.2.1 (wrap64 (t127 - 10000)) t128).bind fun bt137 => ((curve_Drive.f bt115.1 bt115.2.1 bt115.2.2.1 bt115.2.2.2.1 bt115.2.2.2.2.1 bt115.2.2.2.2.2.1 bt115.2.2.2.2.2.2.1 bt115.2.2.2.2.2.2.2.1 bt115.2.2.2.2.2.2.2.2.1 bt115.2.2.2.2.2.2.2.2.2.1 (wrap64 (t127 - 10000)) t128).bind fun bt141 => (if bt129.2.2 = 0 then (if bt133.2.2 = 0 then (if bt137.2.2 = 0 then (if bt141.2.2 = 0 then ((thermionkit_Within.f bt133.1 bt133.2.1 bt129.1 bt129.2.1).bind fun t145 => (if t145 = true then ((thermionkit_Within.f bt141.1 bt141.2.1 bt137.1 bt137.2.1).bind fun t146 => (if t146 = true then ((thermionlaw02_awake.f k).bind fun t147 => (some t147)) else (none))) else (none))) else (none)) else (none)) else (none)) else (none))))))))))
theorem thermionlaw02_CurveWithin.mono : ∀ a0 a1 a2 a3 k, LeO (thermionlaw02_CurveWithin.f k a0 a1 a2 a3) (thermionlaw02_CurveWithin.f (k + 1) a0 a1 a2 a3) := by
  intro a0 a1 a2 a3 k
  unfold thermionlaw02_CurveWithin.f
  repeat' first
      | (with_reducible exact curve_Current.mono _ _ _ _ _ _ _ _ _ _ _ _ _)
      | (with_reducible exact thermionkit_LawOf.mono _ _)
      | (with_reducible exact thermionlaw02_awake.mono _)
      | (with_reducible exact LeO.refl _)
      | (with_reducible exact LeO.none _)
      | (with_reducible refine LeO.ite ?_ ?_)
      | (with_reducible refine LeO.bind ?_ (fun _ => ?_))
      | exact curve_Current.mono _ _ _ _ _ _ _ _ _ _ _ _ _
      | exact thermionkit_LawOf.mono _ _
      | exact thermionlaw02_awake.mono _
      | exact LeO.none _
      | refine LeO.ite ?_ ?_
      | refine LeO.bind ?_ (fun _ => ?_)
set_option maxHeartbeats 8000000 in
set_option maxRecDepth 100000 in
theorem thermionlaw02_CurveWithin.calls (k : Nat) (A0 : Option Addr) (c0 : Nat) (l0 : List Int) (a1 : Int) (a2 : Int) (a3 : Bool) (r : Bool) (w : World) (hr0 : Kd.C (Kd.int .i64) w A0 l0.length l0) (hc0 : l0.length ≤ c0) (h : thermionlaw02_CurveWithin.f k l0 a1 a2 a3 = some r) :
    Calls Try.prog 5 #[.slice A0 l0.length c0, .int .i64 a1, .int .i64 a2, .bool a3] w fun e w' => e = .returned (.bool r) ∧ Below w.heap.size w w' := by
  have hu42 := Try.underlying42
  have hu35 := Try.underlying35
  have HR0 := Aside0.mk hr0
  have HC0 := Aside0.mk hc0
  clear hr0 hc0
  have HB := Aside0.mk (Below.refl w.heap.size w)
  have H : ((thermionkit_NewDice.f l0).bind fun t101 => ((thermionkit_LawOf.f k t101).bind fun bt103 => ((thermionkit_WithinLaw.f bt103.2.2.2.2.2.2.2.2.2.2 bt103.1 bt103.2.1 bt103.2.2.1 bt103.2.2.2.1 bt103.2.2.2.2.1 bt103.2.2.2.2.2.1 bt103.2.2.2.2.2.2.1 bt103.2.2.2.2.2.2.2.1 bt103.2.2.2.2.2.2.2.2.1 bt103.2.2.2.2.2.2.2.2.2.1 a3).bind fun bt115 => ((thermionkit_Mod.f a1 20000).bind fun t127 => ((thermionkit_Mod.f a2 400000).bind fun t128 => ((curve_Current.f k bt103.1 bt103.2.1 bt103.2.2.1 bt103.2.2.2.1 bt103.2.2.2.2.1 bt103.2.2.2.2.2.1 bt103.2.2.2.2.2.2.1 bt103.2.2.2.2.2.2.2.1 bt103.2.2.2.2.2.2.2.2.1 bt103.2.2.2.2.2.2.2.2.2.1 (wrap64 (t127 - 10000)) t128).bind fun bt129 => ((curve_Current.f k bt115.1 bt115.2.1 bt115.2.2.1 bt115.2.2.2.1 bt115.2.2.2.2.1 bt115.2.2.2.2.2.1 bt115.2.2.2.2.2.2.1 bt115.2.2.2.2.2.2.2.1 bt115.2.2.2.2.2.2.2.2.1 bt115.2.2.2.2.2.2.2.2.2.1 (wrap64 (t127 - 10000)) t128).bind fun bt133 => ((curve_Drive.f bt103.1 bt103.2.1 bt103.2.2.1 bt103.2.2.2.1 bt103.2.2.2.2.1 bt103.2.2.2.2.2.1 bt103.2.2.2.2.2.2.1 bt103.2.2.2.2.2.2.2.1 bt103.2.2.2.2.2.2.2.2.1 bt103.2.2.2.2.2.2.2.2.2.1 (wrap64 (t127 - 10000)) t128).bind fun bt137 => ((curve_Drive.f bt115.1 bt115.2.1 bt115.2.2.1 bt115.2.2.2.1 bt115.2.2.2.2.1 bt115.2.2.2.2.2.1 bt115.2.2.2.2.2.2.1 bt115.2.2.2.2.2.2.2.1 bt115.2.2.2.2.2.2.2.2.1 bt115.2.2.2.2.2.2.2.2.2.1 (wrap64 (t127 - 10000)) t128).bind fun bt141 => (if bt129.2.2 = 0 then (if bt133.2.2 = 0 then (if bt137.2.2 = 0 then (if bt141.2.2 = 0 then ((thermionkit_Within.f bt133.1 bt133.2.1 bt129.1 bt129.2.1).bind fun t145 => (if t145 = true then ((thermionkit_Within.f bt141.1 bt141.2.1 bt137.1 bt137.2.1).bind fun t146 => (if t146 = true then ((thermionlaw02_awake.f k).bind fun t147 => (some t147)) else (none))) else (none))) else (none)) else (none)) else (none)) else (none))))))))))) = some r := h
  clear h
  replace H := Option.bind_eq_some_iff.mp H
  obtain ⟨t101, A50, H⟩ := H
  replace H : ((thermionkit_LawOf.f k t101).bind fun bt103 => ((thermionkit_WithinLaw.f bt103.2.2.2.2.2.2.2.2.2.2 bt103.1 bt103.2.1 bt103.2.2.1 bt103.2.2.2.1 bt103.2.2.2.2.1 bt103.2.2.2.2.2.1 bt103.2.2.2.2.2.2.1 bt103.2.2.2.2.2.2.2.1 bt103.2.2.2.2.2.2.2.2.1 bt103.2.2.2.2.2.2.2.2.2.1 a3).bind fun bt115 => ((thermionkit_Mod.f a1 20000).bind fun t127 => ((thermionkit_Mod.f a2 400000).bind fun t128 => ((curve_Current.f k bt103.1 bt103.2.1 bt103.2.2.1 bt103.2.2.2.1 bt103.2.2.2.2.1 bt103.2.2.2.2.2.1 bt103.2.2.2.2.2.2.1 bt103.2.2.2.2.2.2.2.1 bt103.2.2.2.2.2.2.2.2.1 bt103.2.2.2.2.2.2.2.2.2.1 (wrap64 (t127 - 10000)) t128).bind fun bt129 => ((curve_Current.f k bt115.1 bt115.2.1 bt115.2.2.1 bt115.2.2.2.1 bt115.2.2.2.2.1 bt115.2.2.2.2.2.1 bt115.2.2.2.2.2.2.1 bt115.2.2.2.2.2.2.2.1 bt115.2.2.2.2.2.2.2.2.1 bt115.2.2.2.2.2.2.2.2.2.1 (wrap64 (t127 - 10000)) t128).bind fun bt133 => ((curve_Drive.f bt103.1 bt103.2.1 bt103.2.2.1 bt103.2.2.2.1 bt103.2.2.2.2.1 bt103.2.2.2.2.2.1 bt103.2.2.2.2.2.2.1 bt103.2.2.2.2.2.2.2.1 bt103.2.2.2.2.2.2.2.2.1 bt103.2.2.2.2.2.2.2.2.2.1 (wrap64 (t127 - 10000)) t128).bind fun bt137 => ((curve_Drive.f bt115.1 bt115.2.1 bt115.2.2.1 bt115.2.2.2.1 bt115.2.2.2.2.1 bt115.2.2.2.2.2.1 bt115.2.2.2.2.2.2.1 bt115.2.2.2.2.2.2.2.1 bt115.2.2.2.2.2.2.2.2.1 bt115.2.2.2.2.2.2.2.2.2.1 (wrap64 (t127 - 10000)) t128).bind fun bt141 => (if bt129.2.2 = 0 then (if bt133.2.2 = 0 then (if bt137.2.2 = 0 then (if bt141.2.2 = 0 then ((thermionkit_Within.f bt133.1 bt133.2.1 bt129.1 bt129.2.1).bind fun t145 => (if t145 = true then ((thermionkit_Within.f bt141.1 bt141.2.1 bt137.1 bt137.2.1).bind fun t146 => (if t146 = true then ((thermionlaw02_awake.f k).bind fun t147 => (some t147)) else (none))) else (none))) else (none)) else (none)) else (none)) else (none)))))))))) = some r := H
  have A5 := Aside0.mk A50
  clear A50
  replace H := Option.bind_eq_some_iff.mp H
  obtain ⟨⟨t103, t104, t105, t106, t107, t108, t109, t110, t111, t112, t113⟩, A60, H⟩ := H
  replace H : ((thermionkit_WithinLaw.f t113 t103 t104 t105 t106 t107 t108 t109 t110 t111 t112 a3).bind fun bt115 => ((thermionkit_Mod.f a1 20000).bind fun t127 => ((thermionkit_Mod.f a2 400000).bind fun t128 => ((curve_Current.f k t103 t104 t105 t106 t107 t108 t109 t110 t111 t112 (wrap64 (t127 - 10000)) t128).bind fun bt129 => ((curve_Current.f k bt115.1 bt115.2.1 bt115.2.2.1 bt115.2.2.2.1 bt115.2.2.2.2.1 bt115.2.2.2.2.2.1 bt115.2.2.2.2.2.2.1 bt115.2.2.2.2.2.2.2.1 bt115.2.2.2.2.2.2.2.2.1 bt115.2.2.2.2.2.2.2.2.2.1 (wrap64 (t127 - 10000)) t128).bind fun bt133 => ((curve_Drive.f t103 t104 t105 t106 t107 t108 t109 t110 t111 t112 (wrap64 (t127 - 10000)) t128).bind fun bt137 => ((curve_Drive.f bt115.1 bt115.2.1 bt115.2.2.1 bt115.2.2.2.1 bt115.2.2.2.2.1 bt115.2.2.2.2.2.1 bt115.2.2.2.2.2.2.1 bt115.2.2.2.2.2.2.2.1 bt115.2.2.2.2.2.2.2.2.1 bt115.2.2.2.2.2.2.2.2.2.1 (wrap64 (t127 - 10000)) t128).bind fun bt141 => (if bt129.2.2 = 0 then (if bt133.2.2 = 0 then (if bt137.2.2 = 0 then (if bt141.2.2 = 0 then ((thermionkit_Within.f bt133.1 bt133.2.1 bt129.1 bt129.2.1).bind fun t145 => (if t145 = true then ((thermionkit_Within.f bt141.1 bt141.2.1 bt137.1 bt137.2.1).bind fun t146 => (if t146 = true then ((thermionlaw02_awake.f k).bind fun t147 => (some t147)) else (none))) else (none))) else (none)) else (none)) else (none)) else (none))))))))) = some r := H
  have A6 := Aside0.mk A60
  clear A60
  replace H := Option.bind_eq_some_iff.mp H
  obtain ⟨⟨t115, t116, t117, t118, t119, t120, t121, t122, t123, t124, t125⟩, A70, H⟩ := H
  replace H : ((thermionkit_Mod.f a1 20000).bind fun t127 => ((thermionkit_Mod.f a2 400000).bind fun t128 => ((curve_Current.f k t103 t104 t105 t106 t107 t108 t109 t110 t111 t112 (wrap64 (t127 - 10000)) t128).bind fun bt129 => ((curve_Current.f k t115 t116 t117 t118 t119 t120 t121 t122 t123 t124 (wrap64 (t127 - 10000)) t128).bind fun bt133 => ((curve_Drive.f t103 t104 t105 t106 t107 t108 t109 t110 t111 t112 (wrap64 (t127 - 10000)) t128).bind fun bt137 => ((curve_Drive.f t115 t116 t117 t118 t119 t120 t121 t122 t123 t124 (wrap64 (t127 - 10000)) t128).bind fun bt141 => (if bt129.2.2 = 0 then (if bt133.2.2 = 0 then (if bt137.2.2 = 0 then (if bt141.2.2 = 0 then ((thermionkit_Within.f bt133.1 bt133.2.1 bt129.1 bt129.2.1).bind fun t145 => (if t145 = true then ((thermionkit_Within.f bt141.1 bt141.2.1 bt137.1 bt137.2.1).bind fun t146 => (if t146 = true then ((thermionlaw02_awake.f k).bind fun t147 => (some t147)) else (none))) else (none))) else (none)) else (none)) else (none)) else (none)))))))) = some r := H
  have A7 := Aside0.mk A70
  clear A70
  replace H := Option.bind_eq_some_iff.mp H
  obtain ⟨t127, A80, H⟩ := H
  replace H : ((thermionkit_Mod.f a2 400000).bind fun t128 => ((curve_Current.f k t103 t104 t105 t106 t107 t108 t109 t110 t111 t112 (wrap64 (t127 - 10000)) t128).bind fun bt129 => ((curve_Current.f k t115 t116 t117 t118 t119 t120 t121 t122 t123 t124 (wrap64 (t127 - 10000)) t128).bind fun bt133 => ((curve_Drive.f t103 t104 t105 t106 t107 t108 t109 t110 t111 t112 (wrap64 (t127 - 10000)) t128).bind fun bt137 => ((curve_Drive.f t115 t116 t117 t118 t119 t120 t121 t122 t123 t124 (wrap64 (t127 - 10000)) t128).bind fun bt141 => (if bt129.2.2 = 0 then (if bt133.2.2 = 0 then (if bt137.2.2 = 0 then (if bt141.2.2 = 0 then ((thermionkit_Within.f bt133.1 bt133.2.1 bt129.1 bt129.2.1).bind fun t145 => (if t145 = true then ((thermionkit_Within.f bt141.1 bt141.2.1 bt137.1 bt137.2.1).bind fun t146 => (if t146 = true then ((thermionlaw02_awake.f k).bind fun t147 => (some t147)) else (none))) else (none))) else (none)) else (none)) else (none)) else (none))))))) = some r := H
  have A8 := Aside0.mk A80
  clear A80
  replace H := Option.bind_eq_some_iff.mp H
  obtain ⟨t128, A90, H⟩ := H
  replace H : ((curve_Current.f k t103 t104 t105 t106 t107 t108 t109 t110 t111 t112 (wrap64 (t127 - 10000)) t128).bind fun bt129 => ((curve_Current.f k t115 t116 t117 t118 t119 t120 t121 t122 t123 t124 (wrap64 (t127 - 10000)) t128).bind fun bt133 => ((curve_Drive.f t103 t104 t105 t106 t107 t108 t109 t110 t111 t112 (wrap64 (t127 - 10000)) t128).bind fun bt137 => ((curve_Drive.f t115 t116 t117 t118 t119 t120 t121 t122 t123 t124 (wrap64 (t127 - 10000)) t128).bind fun bt141 => (if bt129.2.2 = 0 then (if bt133.2.2 = 0 then (if bt137.2.2 = 0 then (if bt141.2.2 = 0 then ((thermionkit_Within.f bt133.1 bt133.2.1 bt129.1 bt129.2.1).bind fun t145 => (if t145 = true then ((thermionkit_Within.f bt141.1 bt141.2.1 bt137.1 bt137.2.1).bind fun t146 => (if t146 = true then ((thermionlaw02_awake.f k).bind fun t147 => (some t147)) else (none))) else (none))) else (none)) else (none)) else (none)) else (none)))))) = some r := H
  have A9 := Aside0.mk A90
  clear A90
  replace H := Option.bind_eq_some_iff.mp H
  obtain ⟨⟨t129, t130, t131⟩, A100, H⟩ := H
  replace H : ((curve_Current.f k t115 t116 t117 t118 t119 t120 t121 t122 t123 t124 (wrap64 (t127 - 10000)) t128).bind fun bt133 => ((curve_Drive.f t103 t104 t105 t106 t107 t108 t109 t110 t111 t112 (wrap64 (t127 - 10000)) t128).bind fun bt137 => ((curve_Drive.f t115 t116 t117 t118 t119 t120 t121 t122 t123 t124 (wrap64 (t127 - 10000)) t128).bind fun bt141 => (if t131 = 0 then (if bt133.2.2 = 0 then (if bt137.2.2 = 0 then (if bt141.2.2 = 0 then ((thermionkit_Within.f bt133.1 bt133.2.1 t129 t130).bind fun t145 => (if t145 = true then ((thermionkit_Within.f bt141.1 bt141.2.1 bt137.1 bt137.2.1).bind fun t146 => (if t146 = true then ((thermionlaw02_awake.f k).bind fun t147 => (some t147)) else (none))) else (none))) else (none)) else (none)) else (none)) else (none))))) = some r := H
  have A10 := Aside0.mk A100
  clear A100
  replace H := Option.bind_eq_some_iff.mp H
  obtain ⟨⟨t133, t134, t135⟩, A110, H⟩ := H
  replace H : ((curve_Drive.f t103 t104 t105 t106 t107 t108 t109 t110 t111 t112 (wrap64 (t127 - 10000)) t128).bind fun bt137 => ((curve_Drive.f t115 t116 t117 t118 t119 t120 t121 t122 t123 t124 (wrap64 (t127 - 10000)) t128).bind fun bt141 => (if t131 = 0 then (if t135 = 0 then (if bt137.2.2 = 0 then (if bt141.2.2 = 0 then ((thermionkit_Within.f t133 t134 t129 t130).bind fun t145 => (if t145 = true then ((thermionkit_Within.f bt141.1 bt141.2.1 bt137.1 bt137.2.1).bind fun t146 => (if t146 = true then ((thermionlaw02_awake.f k).bind fun t147 => (some t147)) else (none))) else (none))) else (none)) else (none)) else (none)) else (none)))) = some r := H
  have A11 := Aside0.mk A110
  clear A110
  replace H := Option.bind_eq_some_iff.mp H
  obtain ⟨⟨t137, t138, t139⟩, A120, H⟩ := H
  replace H : ((curve_Drive.f t115 t116 t117 t118 t119 t120 t121 t122 t123 t124 (wrap64 (t127 - 10000)) t128).bind fun bt141 => (if t131 = 0 then (if t135 = 0 then (if t139 = 0 then (if bt141.2.2 = 0 then ((thermionkit_Within.f t133 t134 t129 t130).bind fun t145 => (if t145 = true then ((thermionkit_Within.f bt141.1 bt141.2.1 t137 t138).bind fun t146 => (if t146 = true then ((thermionlaw02_awake.f k).bind fun t147 => (some t147)) else (none))) else (none))) else (none)) else (none)) else (none)) else (none))) = some r := H
  have A12 := Aside0.mk A120
  clear A120
  replace H := Option.bind_eq_some_iff.mp H
  obtain ⟨⟨t141, t142, t143⟩, A130, H⟩ := H
  replace H : (if t131 = 0 then (if t135 = 0 then (if t139 = 0 then (if t143 = 0 then ((thermionkit_Within.f t133 t134 t129 t130).bind fun t145 => (if t145 = true then ((thermionkit_Within.f t141 t142 t137 t138).bind fun t146 => (if t146 = true then ((thermionlaw02_awake.f k).bind fun t147 => (some t147)) else (none))) else (none))) else (none)) else (none)) else (none)) else (none)) = some r := H
  have A13 := Aside0.mk A130
  clear A130
  by_cases c14 : t131 = 0
  · rw [if_pos c14] at H
    have c14b0 : (t131 == 0) = true := beq_iff_eq.mpr c14
    have c14b1 : (t131 != 0) = false := bne_eq_false_iff_eq.mpr c14
    clear c14
    by_cases c15 : t135 = 0
    · rw [if_pos c15] at H
      have c15b0 : (t135 == 0) = true := beq_iff_eq.mpr c15
      have c15b1 : (t135 != 0) = false := bne_eq_false_iff_eq.mpr c15
      clear c15
      by_cases c16 : t139 = 0
      · rw [if_pos c16] at H
        have c16b0 : (t139 == 0) = true := beq_iff_eq.mpr c16
        have c16b1 : (t139 != 0) = false := bne_eq_false_iff_eq.mpr c16
        clear c16
        by_cases c17 : t143 = 0
        · rw [if_pos c17] at H
          have c17b0 : (t143 == 0) = true := beq_iff_eq.mpr c17
          have c17b1 : (t143 != 0) = false := bne_eq_false_iff_eq.mpr c17
          clear c17
          replace H := Option.bind_eq_some_iff.mp H
          obtain ⟨t145, A180, H⟩ := H
          replace H : (if t145 = true then ((thermionkit_Within.f t141 t142 t137 t138).bind fun t146 => (if t146 = true then ((thermionlaw02_awake.f k).bind fun t147 => (some t147)) else (none))) else (none)) = some r := H
          have A18 := Aside0.mk A180
          clear A180
          by_cases c19 : t145 = true
          · subst c19
            have H1 : ((thermionkit_Within.f t141 t142 t137 t138).bind fun t146 => (if t146 = true then ((thermionlaw02_awake.f k).bind fun t147 => (some t147)) else (none))) = some r := by rw [if_pos rfl] at H; exact H
            clear H
            have H := H1
            clear H1
            replace H := Option.bind_eq_some_iff.mp H
            obtain ⟨t146, A200, H⟩ := H
            replace H : (if t146 = true then ((thermionlaw02_awake.f k).bind fun t147 => (some t147)) else (none)) = some r := H
            have A20 := Aside0.mk A200
            clear A200
            by_cases c21 : t146 = true
            · subst c21
              have H1 : ((thermionlaw02_awake.f k).bind fun t147 => (some t147)) = some r := by rw [if_pos rfl] at H; exact H
              clear H
              have H := H1
              clear H1
              replace H := Option.bind_eq_some_iff.mp H
              obtain ⟨t147, A220, H⟩ := H
              replace H : (some t147) = some r := H
              have A22 := Aside0.mk A220
              clear A220
              obtain rfl := Option.some.inj H
              go_enter Try.func5, Try.ntmps5
              go_wp2_with (first | ((with_reducible refine gate_callee (f := 18) rfl ?_); refine goesL_ (some 21) rfl rfl Try.func18 (by kernel_rfl) rfl #[.slice A0 l0.length c0] rfl (by (try simp only [List.map_toArray, List.map_cons, List.map_nil]); first | done | rfl | (simp only [List.length_drop, List.length_take]; rfl)) ?_; (with_reducible refine (thermionkit_NewDice.calls _ _ l0 t101 w _ ?side1 ?side2 ?side3 A5.out).mono ?_); (case side1 => repeat (first | (with_reducible first | exact HB.out | apply qA | apply qN | apply qD) | exact HB.out)); (case side2 => exact HR0.out); (case side3 => exact HC0.out); rintro e w23 ⟨g102, rfl, hi, hb, hb2⟩; refine ⟨_, rfl, ?_⟩; have n0_ := Aside0.mk (hb); have n1_ := Aside0.mk (hi); clear HB; have HB := n0_; have HI102 := n1_; clear n0_ n1_; (try clear hb); (try clear hb2); (try clear hk); (try clear hi)) | ((with_reducible refine gate_callee (f := 25) rfl ?_); refine goesL_ (some 23) rfl rfl Try.func25 (by kernel_rfl) rfl #[.pointer (some ⟨g102, 0, none⟩)] rfl (by (try simp only [List.map_toArray, List.map_cons, List.map_nil]); first | done | rfl | (simp only [List.length_drop, List.length_take]; rfl)) ?_; (with_reducible refine (thermionkit_LawOf.calls k g102 t101 t103 t104 t105 t106 t107 t108 t109 t110 t111 t112 t113 w _ ?side1 ?side2 A6.out).mono ?_); (case side1 => repeat (first | (with_reducible first | exact HI102.out | apply IsS83.alloc | apply IsS83.drewN | apply IsS83.drew | apply IsS83.set_0) | exact HI102.out)); (case side2 => repeat (first | (with_reducible first | exact HB.out | apply qA | apply qN | apply qD | refine below_set ?_ (IsS83.ge HI102.out)) | exact HB.out)); rintro e w24 ⟨rfl, hi, hb, hk⟩; refine ⟨_, rfl, ?_⟩; have n0_ := Aside0.mk (hb); have n1_ := Aside0.mk (hi); clear HB; clear HI102; have HB := n0_; have HI102 := n1_; clear n0_ n1_; (try clear hb); (try clear hb2); (try clear hk); (try clear hi)) | ((with_reducible refine gate_dst (N := 10) rfl ?_); refine box_event ?hg (N := 10) ?hd (cs := #[.int .i64 0, .int .i64 0, .int .i64 0, .int .i64 0, .int .i64 0, .int .i64 0, .int .i64 0, .int .i64 0, .int .i64 0, .int .i64 0]) (t := 42) ?hr ?_; (case hd => rfl); (case hg => rfl); (case hr => first | (go_simp; done) | (go_simp; rfl)); intro gb114 hg w25 hbox hb; have n0_ := Aside0.mk (IsS83.below (by repeat (first | (with_reducible first | exact HI102.out | apply IsS83.alloc | apply IsS83.drewN | apply IsS83.drew | apply IsS83.set_0) | exact HI102.out)) hb); have n1_ := Aside0.mk (below_step (by repeat (first | (with_reducible first | exact HB.out | apply qA | apply qN | apply qD | refine below_set ?_ (IsS83.ge HI102.out)) | exact HB.out)) hb); have n2_ := Aside0.mk (hbox); have n3_ := Aside0.mk ((by rw [hg]; exact (below_size (by repeat (first | (with_reducible first | exact HB.out | apply qA | apply qN | apply qD | refine below_set ?_ (IsS83.ge HI102.out)) | exact HB.out))) : w.heap.size ≤ gb114)); have n4_ := Aside0.mk ((by rw [hg]; exact (below_size (by repeat (first | (with_reducible first | exact HB.out | apply qA | apply qN | apply qD | refine below_set ?_ (IsS83.ge HI102.out)) | exact HB.out))) : w.heap.size ≤ gb114)); have n5_ := Aside0.mk ((by rw [hg]; exact Nat.ne_of_lt (IsS83.lt (show IsS83 w _ g102 t113 from by repeat (first | (with_reducible first | exact HI102.out | apply IsS83.alloc | apply IsS83.drewN | apply IsS83.drew | apply IsS83.set_0) | exact HI102.out))) : g102 ≠ gb114)); have n6_ := Aside0.mk ((by rw [hg]; exact Nat.ne_of_gt (IsS83.lt (show IsS83 w _ g102 t113 from by repeat (first | (with_reducible first | exact HI102.out | apply IsS83.alloc | apply IsS83.drewN | apply IsS83.drew | apply IsS83.set_0) | exact HI102.out))) : gb114 ≠ g102)); clear HI102; clear HB; have HI102 := n0_; have HB := n1_; have BK114 := n2_; have GW114 := n3_; have GE114 := n4_; have NB102_114 := n5_; have NB114_102 := n6_; clear n0_ n1_ n2_ n3_ n4_ n5_ n6_; clear hb hbox hg; have hnb26 := NB114_102.out; have hnc26 := NB102_114.out; have hcz27_0 : w25.cell? ⟨gb114, 0, none⟩ = some (.int .i64 0) := (blk_cell BK114.out 0).trans rfl; have hcz27_1 : w25.cell? ⟨gb114, 1, none⟩ = some (.int .i64 0) := (blk_cell BK114.out 1).trans rfl; have hcz27_2 : w25.cell? ⟨gb114, 2, none⟩ = some (.int .i64 0) := (blk_cell BK114.out 2).trans rfl; have hcz27_3 : w25.cell? ⟨gb114, 3, none⟩ = some (.int .i64 0) := (blk_cell BK114.out 3).trans rfl; have hcz27_4 : w25.cell? ⟨gb114, 4, none⟩ = some (.int .i64 0) := (blk_cell BK114.out 4).trans rfl; have hcz27_5 : w25.cell? ⟨gb114, 5, none⟩ = some (.int .i64 0) := (blk_cell BK114.out 5).trans rfl; have hcz27_6 : w25.cell? ⟨gb114, 6, none⟩ = some (.int .i64 0) := (blk_cell BK114.out 6).trans rfl; have hcz27_7 : w25.cell? ⟨gb114, 7, none⟩ = some (.int .i64 0) := (blk_cell BK114.out 7).trans rfl; have hcz27_8 : w25.cell? ⟨gb114, 8, none⟩ = some (.int .i64 0) := (blk_cell BK114.out 8).trans rfl; have hcz27_9 : w25.cell? ⟨gb114, 9, none⟩ = some (.int .i64 0) := (blk_cell BK114.out 9).trans rfl; have hfz27_0 := blk_frozen BK114.out 0; have hfz27_1 := blk_frozen BK114.out 1; have hfz27_2 := blk_frozen BK114.out 2; have hfz27_3 := blk_frozen BK114.out 3; have hfz27_4 := blk_frozen BK114.out 4; have hfz27_5 := blk_frozen BK114.out 5; have hfz27_6 := blk_frozen BK114.out 6; have hfz27_7 := blk_frozen BK114.out 7; have hfz27_8 := blk_frozen BK114.out 8; have hfz27_9 := blk_frozen BK114.out 9) | ((with_reducible refine gate_callee (f := 28) rfl ?_); refine goesL_ (some 27) rfl rfl Try.func28 (by kernel_rfl) rfl #[.pointer (some ⟨g102, 0, none⟩), .agg #[.int .i64 t103, .int .i64 t104, .int .i64 t105, .int .i64 t106, .int .i64 t107, .int .i64 t108, .int .i64 t109, .int .i64 t110, .int .i64 t111, .int .i64 t112], .bool a3] rfl (by (try simp only [List.map_toArray, List.map_cons, List.map_nil]); first | done | rfl | (simp only [List.length_drop, List.length_take]; rfl)) ?_; (with_reducible refine (thermionkit_WithinLaw.calls g102 t113 t103 t104 t105 t106 t107 t108 t109 t110 t111 t112 a3 t115 t116 t117 t118 t119 t120 t121 t122 t123 t124 t125 w _ ?side1 ?side2 A7.out).mono ?_); (case side1 => repeat (first | (with_reducible first | exact HI102.out | apply IsS83.alloc | apply IsS83.drewN | apply IsS83.drew | apply IsS83.set_0 | refine IsS83.far ?_ NB102_114.out _) | exact HI102.out)); (case side2 => repeat (first | (with_reducible first | exact HB.out | apply qA | apply qN | apply qD | refine below_set ?_ (IsS83.ge HI102.out) | refine below_set ?_ GE114.out) | exact HB.out)); rintro e w28 ⟨rfl, hi, hb, hk⟩; refine ⟨_, rfl, ?_⟩; have n0_ := Aside0.mk (KeepBut.blk hk (g' := gb114) (o := .cells #[.int .i64 t103, .int .i64 t104, .int .i64 t105, .int .i64 t106, .int .i64 t107, .int .i64 t108, .int .i64 t109, .int .i64 t110, .int .i64 t111, .int .i64 t112] 42 (0, 0)) (by (with_reducible repeat (first | refine qn ?_ _ | refine qd ?_ | refine qa ?_ _)); refine blk_put (cs := #[.int .i64 t103, .int .i64 t104, .int .i64 t105, .int .i64 t106, .int .i64 t107, .int .i64 t108, .int .i64 t109, .int .i64 t110, .int .i64 t111, .int .i64 0]) ?_ 9 _ rfl; (with_reducible repeat (first | refine qn ?_ _ | refine qd ?_ | refine qa ?_ _)); refine blk_put (cs := #[.int .i64 t103, .int .i64 t104, .int .i64 t105, .int .i64 t106, .int .i64 t107, .int .i64 t108, .int .i64 t109, .int .i64 t110, .int .i64 0, .int .i64 0]) ?_ 8 _ rfl; (with_reducible repeat (first | refine qn ?_ _ | refine qd ?_ | refine qa ?_ _)); refine blk_put (cs := #[.int .i64 t103, .int .i64 t104, .int .i64 t105, .int .i64 t106, .int .i64 t107, .int .i64 t108, .int .i64 t109, .int .i64 0, .int .i64 0, .int .i64 0]) ?_ 7 _ rfl; (with_reducible repeat (first | refine qn ?_ _ | refine qd ?_ | refine qa ?_ _)); refine blk_put (cs := #[.int .i64 t103, .int .i64 t104, .int .i64 t105, .int .i64 t106, .int .i64 t107, .int .i64 t108, .int .i64 0, .int .i64 0, .int .i64 0, .int .i64 0]) ?_ 6 _ rfl; (with_reducible repeat (first | refine qn ?_ _ | refine qd ?_ | refine qa ?_ _)); refine blk_put (cs := #[.int .i64 t103, .int .i64 t104, .int .i64 t105, .int .i64 t106, .int .i64 t107, .int .i64 0, .int .i64 0, .int .i64 0, .int .i64 0, .int .i64 0]) ?_ 5 _ rfl; (with_reducible repeat (first | refine qn ?_ _ | refine qd ?_ | refine qa ?_ _)); refine blk_put (cs := #[.int .i64 t103, .int .i64 t104, .int .i64 t105, .int .i64 t106, .int .i64 0, .int .i64 0, .int .i64 0, .int .i64 0, .int .i64 0, .int .i64 0]) ?_ 4 _ rfl; (with_reducible repeat (first | refine qn ?_ _ | refine qd ?_ | refine qa ?_ _)); refine blk_put (cs := #[.int .i64 t103, .int .i64 t104, .int .i64 t105, .int .i64 0, .int .i64 0, .int .i64 0, .int .i64 0, .int .i64 0, .int .i64 0, .int .i64 0]) ?_ 3 _ rfl; (with_reducible repeat (first | refine qn ?_ _ | refine qd ?_ | refine qa ?_ _)); refine blk_put (cs := #[.int .i64 t103, .int .i64 t104, .int .i64 0, .int .i64 0, .int .i64 0, .int .i64 0, .int .i64 0, .int .i64 0, .int .i64 0, .int .i64 0]) ?_ 2 _ rfl; (with_reducible repeat (first | refine qn ?_ _ | refine qd ?_ | refine qa ?_ _)); refine blk_put (cs := #[.int .i64 t103, .int .i64 0, .int .i64 0, .int .i64 0, .int .i64 0, .int .i64 0, .int .i64 0, .int .i64 0, .int .i64 0, .int .i64 0]) ?_ 1 _ rfl; (with_reducible repeat (first | refine qn ?_ _ | refine qd ?_ | refine qa ?_ _)); refine blk_put (cs := #[.int .i64 0, .int .i64 0, .int .i64 0, .int .i64 0, .int .i64 0, .int .i64 0, .int .i64 0, .int .i64 0, .int .i64 0, .int .i64 0]) ?_ 0 _ rfl; (with_reducible repeat (first | refine qn ?_ _ | refine qd ?_ | refine qa ?_ _)); exact BK114.out) NB114_102.out (by simp)); have n1_ := Aside0.mk (hb); have n2_ := Aside0.mk (hi); clear BK114; clear HB; clear HI102; have BK114 := n0_; have HB := n1_; have HI102 := n2_; clear n0_ n1_ n2_; (try clear hb); (try clear hb2); (try clear hk); (try clear hi)) | ((with_reducible refine gate_dst (N := 11) rfl ?_); refine box_event ?hg (N := 11) ?hd (cs := #[.int .i64 0, .int .i64 0, .int .i64 0, .int .i64 0, .int .i64 0, .int .i64 0, .int .i64 0, .int .i64 0, .int .i64 0, .int .i64 0]) (t := 42) ?hr ?_; (case hd => rfl); (case hg => rfl); (case hr => first | (go_simp; done) | (go_simp; rfl)); intro gb126 hg w29 hbox hb; have n0_ := Aside0.mk (IsS83.below (by repeat (first | (with_reducible first | exact HI102.out | apply IsS83.alloc | apply IsS83.drewN | apply IsS83.drew | apply IsS83.set_0 | refine IsS83.far ?_ NB102_114.out _) | exact HI102.out)) hb); have n1_ := Aside0.mk (blk_below (by (with_reducible repeat (first | refine qn ?_ _ | refine qd ?_ | refine qa ?_ _)); exact BK114.out) hb); have n2_ := Aside0.mk (below_step (by repeat (first | (with_reducible first | exact HB.out | apply qA | apply qN | apply qD | refine below_set ?_ (IsS83.ge HI102.out) | refine below_set ?_ GE114.out) | exact HB.out)) hb); have n3_ := Aside0.mk (hbox); have n4_ := Aside0.mk ((by rw [hg]; exact (below_size (by repeat (first | (with_reducible first | exact HB.out | apply qA | apply qN | apply qD | refine below_set ?_ (IsS83.ge HI102.out) | refine below_set ?_ GE114.out) | exact HB.out))) : w.heap.size ≤ gb126)); have n5_ := Aside0.mk ((by rw [hg]; exact (below_size (by repeat (first | (with_reducible first | exact HB.out | apply qA | apply qN | apply qD | refine below_set ?_ (IsS83.ge HI102.out) | refine below_set ?_ GE114.out) | exact HB.out))) : w.heap.size ≤ gb126)); have n6_ := Aside0.mk ((by rw [hg]; exact Nat.ne_of_lt (blk_lt (by (with_reducible repeat (first | refine qn ?_ _ | refine qd ?_ | refine qa ?_ _)); exact BK114.out)) : gb114 ≠ gb126)); have n7_ := Aside0.mk ((by rw [hg]; exact Nat.ne_of_gt (blk_lt (by (with_reducible repeat (first | refine qn ?_ _ | refine qd ?_ | refine qa ?_ _)); exact BK114.out)) : gb126 ≠ gb114)); have n8_ := Aside0.mk ((by rw [hg]; exact Nat.ne_of_lt (IsS83.lt (show IsS83 w _ g102 t125 from by repeat (first | (with_reducible first | exact HI102.out | apply IsS83.alloc | apply IsS83.drewN | apply IsS83.drew | apply IsS83.set_0 | refine IsS83.far ?_ NB102_114.out _) | exact HI102.out))) : g102 ≠ gb126)); have n9_ := Aside0.mk ((by rw [hg]; exact Nat.ne_of_gt (IsS83.lt (show IsS83 w _ g102 t125 from by repeat (first | (with_reducible first | exact HI102.out | apply IsS83.alloc | apply IsS83.drewN | apply IsS83.drew | apply IsS83.set_0 | refine IsS83.far ?_ NB102_114.out _) | exact HI102.out))) : gb126 ≠ g102)); clear HI102; clear BK114; clear HB; have HI102 := n0_; have BK114 := n1_; have HB := n2_; have BK126 := n3_; have GW126 := n4_; have GE126 := n5_; have NB114_126 := n6_; have NB126_114 := n7_; have NB102_126 := n8_; have NB126_102 := n9_; clear n0_ n1_ n2_ n3_ n4_ n5_ n6_ n7_ n8_ n9_; clear hb hbox hg; have hnb30 := NB126_114.out; have hnc30 := NB114_126.out; have hnb31 := NB126_102.out; have hnc31 := NB102_126.out; have hcz32_0 : w29.cell? ⟨gb126, 0, none⟩ = some (.int .i64 0) := (blk_cell BK126.out 0).trans rfl; have hcz32_1 : w29.cell? ⟨gb126, 1, none⟩ = some (.int .i64 0) := (blk_cell BK126.out 1).trans rfl; have hcz32_2 : w29.cell? ⟨gb126, 2, none⟩ = some (.int .i64 0) := (blk_cell BK126.out 2).trans rfl; have hcz32_3 : w29.cell? ⟨gb126, 3, none⟩ = some (.int .i64 0) := (blk_cell BK126.out 3).trans rfl; have hcz32_4 : w29.cell? ⟨gb126, 4, none⟩ = some (.int .i64 0) := (blk_cell BK126.out 4).trans rfl; have hcz32_5 : w29.cell? ⟨gb126, 5, none⟩ = some (.int .i64 0) := (blk_cell BK126.out 5).trans rfl; have hcz32_6 : w29.cell? ⟨gb126, 6, none⟩ = some (.int .i64 0) := (blk_cell BK126.out 6).trans rfl; have hcz32_7 : w29.cell? ⟨gb126, 7, none⟩ = some (.int .i64 0) := (blk_cell BK126.out 7).trans rfl; have hcz32_8 : w29.cell? ⟨gb126, 8, none⟩ = some (.int .i64 0) := (blk_cell BK126.out 8).trans rfl; have hcz32_9 : w29.cell? ⟨gb126, 9, none⟩ = some (.int .i64 0) := (blk_cell BK126.out 9).trans rfl; have hfz32_0 := blk_frozen BK126.out 0; have hfz32_1 := blk_frozen BK126.out 1; have hfz32_2 := blk_frozen BK126.out 2; have hfz32_3 := blk_frozen BK126.out 3; have hfz32_4 := blk_frozen BK126.out 4; have hfz32_5 := blk_frozen BK126.out 5; have hfz32_6 := blk_frozen BK126.out 6; have hfz32_7 := blk_frozen BK126.out 7; have hfz32_8 := blk_frozen BK126.out 8; have hfz32_9 := blk_frozen BK126.out 9) | ((with_reducible refine gate_callee (f := 26) rfl ?_); refine goesL_ (some 29) rfl rfl Try.func26 (by kernel_rfl) rfl #[.int .i64 a1, .int .i64 20000] rfl (by (try simp only [List.map_toArray, List.map_cons, List.map_nil]); first | done | rfl | (simp only [List.length_drop, List.length_take]; rfl)) ?_; (with_reducible refine (thermionkit_Mod.calls a1 20000 t127 _ A8.out).mono ?_); rintro e w' ⟨rfl, ⟨nd, rfl⟩⟩; refine ⟨_, rfl, ?_⟩) | ((with_reducible refine gate_callee (f := 26) rfl ?_); refine goesL_ (some 32) rfl rfl Try.func26 (by kernel_rfl) rfl #[.int .i64 a2, .int .i64 400000] rfl (by (try simp only [List.map_toArray, List.map_cons, List.map_nil]); first | done | rfl | (simp only [List.length_drop, List.length_take]; rfl)) ?_; (with_reducible refine (thermionkit_Mod.calls a2 400000 t128 _ A9.out).mono ?_); rintro e w' ⟨rfl, ⟨nd, rfl⟩⟩; refine ⟨_, rfl, ?_⟩; have hcz33_0 : w29.cell? ⟨gb114, 0, none⟩ = some (.int .i64 t103) := (blk_cell BK114.out 0).trans rfl; have hcz33_1 : w29.cell? ⟨gb114, 1, none⟩ = some (.int .i64 t104) := (blk_cell BK114.out 1).trans rfl; have hcz33_2 : w29.cell? ⟨gb114, 2, none⟩ = some (.int .i64 t105) := (blk_cell BK114.out 2).trans rfl; have hcz33_3 : w29.cell? ⟨gb114, 3, none⟩ = some (.int .i64 t106) := (blk_cell BK114.out 3).trans rfl; have hcz33_4 : w29.cell? ⟨gb114, 4, none⟩ = some (.int .i64 t107) := (blk_cell BK114.out 4).trans rfl; have hcz33_5 : w29.cell? ⟨gb114, 5, none⟩ = some (.int .i64 t108) := (blk_cell BK114.out 5).trans rfl; have hcz33_6 : w29.cell? ⟨gb114, 6, none⟩ = some (.int .i64 t109) := (blk_cell BK114.out 6).trans rfl; have hcz33_7 : w29.cell? ⟨gb114, 7, none⟩ = some (.int .i64 t110) := (blk_cell BK114.out 7).trans rfl; have hcz33_8 : w29.cell? ⟨gb114, 8, none⟩ = some (.int .i64 t111) := (blk_cell BK114.out 8).trans rfl; have hcz33_9 : w29.cell? ⟨gb114, 9, none⟩ = some (.int .i64 t112) := (blk_cell BK114.out 9).trans rfl; have hfz33_0 := blk_frozen BK114.out 0; have hfz33_1 := blk_frozen BK114.out 1; have hfz33_2 := blk_frozen BK114.out 2; have hfz33_3 := blk_frozen BK114.out 3; have hfz33_4 := blk_frozen BK114.out 4; have hfz33_5 := blk_frozen BK114.out 5; have hfz33_6 := blk_frozen BK114.out 6; have hfz33_7 := blk_frozen BK114.out 7; have hfz33_8 := blk_frozen BK114.out 8; have hfz33_9 := blk_frozen BK114.out 9) | ((with_reducible refine gate_callee (f := 27) rfl ?_); refine goesL_ (some 37) rfl rfl Try.func27 (by kernel_rfl) rfl #[.agg #[.int .i64 t103, .int .i64 t104, .int .i64 t105, .int .i64 t106, .int .i64 t107, .int .i64 t108, .int .i64 t109, .int .i64 t110, .int .i64 t111, .int .i64 t112], .int .i64 (wrap64 (t127 - 10000)), .int .i64 t128] rfl (by (try simp only [List.map_toArray, List.map_cons, List.map_nil]); first | done | rfl | (simp only [List.length_drop, List.length_take]; rfl)) ?_; (with_reducible refine (curve_Current.calls k t103 t104 t105 t106 t107 t108 t109 t110 t111 t112 (wrap64 (t127 - 10000)) t128 t129 t130 t131 _ A10.out).mono ?_); rintro e w34 ⟨rfl, hb⟩; refine ⟨_, rfl, ?_⟩; have n0_ := Aside0.mk (IsS83.below (show IsS83 w _ g102 t125 from by repeat (first | (with_reducible first | exact HI102.out | apply IsS83.alloc | apply IsS83.drewN | apply IsS83.drew | apply IsS83.set_0 | refine IsS83.far ?_ NB102_114.out _ | refine IsS83.far ?_ NB102_126.out _) | exact HI102.out)) hb); have n1_ := Aside0.mk (blk_below (g := gb114) (o := .cells #[.int .i64 t103, .int .i64 t104, .int .i64 t105, .int .i64 t106, .int .i64 t107, .int .i64 t108, .int .i64 t109, .int .i64 t110, .int .i64 t111, .int .i64 t112] 42 (0, 0)) (by (with_reducible repeat (first | refine qn ?_ _ | refine qd ?_ | refine qa ?_ _)); refine blk_far ?_ NB114_126.out _; (with_reducible repeat (first | refine qn ?_ _ | refine qd ?_ | refine qa ?_ _)); refine blk_far ?_ NB114_126.out _; (with_reducible repeat (first | refine qn ?_ _ | refine qd ?_ | refine qa ?_ _)); refine blk_far ?_ NB114_126.out _; (with_reducible repeat (first | refine qn ?_ _ | refine qd ?_ | refine qa ?_ _)); refine blk_far ?_ NB114_126.out _; (with_reducible repeat (first | refine qn ?_ _ | refine qd ?_ | refine qa ?_ _)); refine blk_far ?_ NB114_126.out _; (with_reducible repeat (first | refine qn ?_ _ | refine qd ?_ | refine qa ?_ _)); refine blk_far ?_ NB114_126.out _; (with_reducible repeat (first | refine qn ?_ _ | refine qd ?_ | refine qa ?_ _)); refine blk_far ?_ NB114_126.out _; (with_reducible repeat (first | refine qn ?_ _ | refine qd ?_ | refine qa ?_ _)); refine blk_far ?_ NB114_126.out _; (with_reducible repeat (first | refine qn ?_ _ | refine qd ?_ | refine qa ?_ _)); refine blk_far ?_ NB114_126.out _; (with_reducible repeat (first | refine qn ?_ _ | refine qd ?_ | refine qa ?_ _)); refine blk_far ?_ NB114_126.out _; (with_reducible repeat (first | refine qn ?_ _ | refine qd ?_ | refine qa ?_ _)); exact BK114.out) hb); have n2_ := Aside0.mk (blk_below (g := gb126) (o := .cells #[.int .i64 t115, .int .i64 t116, .int .i64 t117, .int .i64 t118, .int .i64 t119, .int .i64 t120, .int .i64 t121, .int .i64 t122, .int .i64 t123, .int .i64 t124] 42 (0, 0)) (by (with_reducible repeat (first | refine qn ?_ _ | refine qd ?_ | refine qa ?_ _)); refine blk_put (cs := #[.int .i64 t115, .int .i64 t116, .int .i64 t117, .int .i64 t118, .int .i64 t119, .int .i64 t120, .int .i64 t121, .int .i64 t122, .int .i64 t123, .int .i64 0]) ?_ 9 _ rfl; (with_reducible repeat (first | refine qn ?_ _ | refine qd ?_ | refine qa ?_ _)); refine blk_put (cs := #[.int .i64 t115, .int .i64 t116, .int .i64 t117, .int .i64 t118, .int .i64 t119, .int .i64 t120, .int .i64 t121, .int .i64 t122, .int .i64 0, .int .i64 0]) ?_ 8 _ rfl; (with_reducible repeat (first | refine qn ?_ _ | refine qd ?_ | refine qa ?_ _)); refine blk_put (cs := #[.int .i64 t115, .int .i64 t116, .int .i64 t117, .int .i64 t118, .int .i64 t119, .int .i64 t120, .int .i64 t121, .int .i64 0, .int .i64 0, .int .i64 0]) ?_ 7 _ rfl; (with_reducible repeat (first | refine qn ?_ _ | refine qd ?_ | refine qa ?_ _)); refine blk_put (cs := #[.int .i64 t115, .int .i64 t116, .int .i64 t117, .int .i64 t118, .int .i64 t119, .int .i64 t120, .int .i64 0, .int .i64 0, .int .i64 0, .int .i64 0]) ?_ 6 _ rfl; (with_reducible repeat (first | refine qn ?_ _ | refine qd ?_ | refine qa ?_ _)); refine blk_put (cs := #[.int .i64 t115, .int .i64 t116, .int .i64 t117, .int .i64 t118, .int .i64 t119, .int .i64 0, .int .i64 0, .int .i64 0, .int .i64 0, .int .i64 0]) ?_ 5 _ rfl; (with_reducible repeat (first | refine qn ?_ _ | refine qd ?_ | refine qa ?_ _)); refine blk_put (cs := #[.int .i64 t115, .int .i64 t116, .int .i64 t117, .int .i64 t118, .int .i64 0, .int .i64 0, .int .i64 0, .int .i64 0, .int .i64 0, .int .i64 0]) ?_ 4 _ rfl; (with_reducible repeat (first | refine qn ?_ _ | refine qd ?_ | refine qa ?_ _)); refine blk_put (cs := #[.int .i64 t115, .int .i64 t116, .int .i64 t117, .int .i64 0, .int .i64 0, .int .i64 0, .int .i64 0, .int .i64 0, .int .i64 0, .int .i64 0]) ?_ 3 _ rfl; (with_reducible repeat (first | refine qn ?_ _ | refine qd ?_ | refine qa ?_ _)); refine blk_put (cs := #[.int .i64 t115, .int .i64 t116, .int .i64 0, .int .i64 0, .int .i64 0, .int .i64 0, .int .i64 0, .int .i64 0, .int .i64 0, .int .i64 0]) ?_ 2 _ rfl; (with_reducible repeat (first | refine qn ?_ _ | refine qd ?_ | refine qa ?_ _)); refine blk_put (cs := #[.int .i64 t115, .int .i64 0, .int .i64 0, .int .i64 0, .int .i64 0, .int .i64 0, .int .i64 0, .int .i64 0, .int .i64 0, .int .i64 0]) ?_ 1 _ rfl; (with_reducible repeat (first | refine qn ?_ _ | refine qd ?_ | refine qa ?_ _)); refine blk_put (cs := #[.int .i64 0, .int .i64 0, .int .i64 0, .int .i64 0, .int .i64 0, .int .i64 0, .int .i64 0, .int .i64 0, .int .i64 0, .int .i64 0]) ?_ 0 _ rfl; (with_reducible repeat (first | refine qn ?_ _ | refine qd ?_ | refine qa ?_ _)); exact BK126.out) hb); have n3_ := Aside0.mk (below_step (by repeat (first | (with_reducible first | exact HB.out | apply qA | apply qN | apply qD | refine below_set ?_ (IsS83.ge HI102.out) | refine below_set ?_ GE114.out | refine below_set ?_ GE126.out) | exact HB.out)) hb); clear HI102; clear BK114; clear BK126; clear HB; have HI102 := n0_; have BK114 := n1_; have BK126 := n2_; have HB := n3_; clear n0_ n1_ n2_ n3_; (try clear hb); (try clear hb2); (try clear hk); (try clear hi)) | ((with_reducible refine gate_dst (N := 12) rfl ?_); refine box_event ?hg (N := 12) ?hd (cs := #[.int .i64 0, .int .i64 0]) (t := 35) ?hr ?_; (case hd => rfl); (case hg => rfl); (case hr => first | (go_simp; done) | (go_simp; rfl)); intro gb132 hg w35 hbox hb; have n0_ := Aside0.mk (IsS83.below (by repeat (first | (with_reducible first | exact HI102.out | apply IsS83.alloc | apply IsS83.drewN | apply IsS83.drew | apply IsS83.set_0 | refine IsS83.far ?_ NB102_114.out _ | refine IsS83.far ?_ NB102_126.out _) | exact HI102.out)) hb); have n1_ := Aside0.mk (blk_below (by (with_reducible repeat (first | refine qn ?_ _ | refine qd ?_ | refine qa ?_ _)); exact BK114.out) hb); have n2_ := Aside0.mk (blk_below (by (with_reducible repeat (first | refine qn ?_ _ | refine qd ?_ | refine qa ?_ _)); exact BK126.out) hb); have n3_ := Aside0.mk (below_step (by repeat (first | (with_reducible first | exact HB.out | apply qA | apply qN | apply qD | refine below_set ?_ (IsS83.ge HI102.out) | refine below_set ?_ GE114.out | refine below_set ?_ GE126.out) | exact HB.out)) hb); have n4_ := Aside0.mk (hbox); have n5_ := Aside0.mk ((by rw [hg]; exact (below_size (by repeat (first | (with_reducible first | exact HB.out | apply qA | apply qN | apply qD | refine below_set ?_ (IsS83.ge HI102.out) | refine below_set ?_ GE114.out | refine below_set ?_ GE126.out) | exact HB.out))) : w.heap.size ≤ gb132)); have n6_ := Aside0.mk ((by rw [hg]; exact (below_size (by repeat (first | (with_reducible first | exact HB.out | apply qA | apply qN | apply qD | refine below_set ?_ (IsS83.ge HI102.out) | refine below_set ?_ GE114.out | refine below_set ?_ GE126.out) | exact HB.out))) : w.heap.size ≤ gb132)); have n7_ := Aside0.mk ((by rw [hg]; exact Nat.ne_of_lt (blk_lt (by (with_reducible repeat (first | refine qn ?_ _ | refine qd ?_ | refine qa ?_ _)); exact BK114.out)) : gb114 ≠ gb132)); have n8_ := Aside0.mk ((by rw [hg]; exact Nat.ne_of_gt (blk_lt (by (with_reducible repeat (first | refine qn ?_ _ | refine qd ?_ | refine qa ?_ _)); exact BK114.out)) : gb132 ≠ gb114)); have n9_ := Aside0.mk ((by rw [hg]; exact Nat.ne_of_lt (blk_lt (by (with_reducible repeat (first | refine qn ?_ _ | refine qd ?_ | refine qa ?_ _)); exact BK126.out)) : gb126 ≠ gb132)); have n10_ := Aside0.mk ((by rw [hg]; exact Nat.ne_of_gt (blk_lt (by (with_reducible repeat (first | refine qn ?_ _ | refine qd ?_ | refine qa ?_ _)); exact BK126.out)) : gb132 ≠ gb126)); have n11_ := Aside0.mk ((by rw [hg]; exact Nat.ne_of_lt (IsS83.lt (show IsS83 w _ g102 t125 from by repeat (first | (with_reducible first | exact HI102.out | apply IsS83.alloc | apply IsS83.drewN | apply IsS83.drew | apply IsS83.set_0 | refine IsS83.far ?_ NB102_114.out _ | refine IsS83.far ?_ NB102_126.out _) | exact HI102.out))) : g102 ≠ gb132)); have n12_ := Aside0.mk ((by rw [hg]; exact Nat.ne_of_gt (IsS83.lt (show IsS83 w _ g102 t125 from by repeat (first | (with_reducible first | exact HI102.out | apply IsS83.alloc | apply IsS83.drewN | apply IsS83.drew | apply IsS83.set_0 | refine IsS83.far ?_ NB102_114.out _ | refine IsS83.far ?_ NB102_126.out _) | exact HI102.out))) : gb132 ≠ g102)); clear HI102; clear BK114; clear BK126; clear HB; have HI102 := n0_; have BK114 := n1_; have BK126 := n2_; have HB := n3_; have BK132 := n4_; have GW132 := n5_; have GE132 := n6_; have NB114_132 := n7_; have NB132_114 := n8_; have NB126_132 := n9_; have NB132_126 := n10_; have NB102_132 := n11_; have NB132_102 := n12_; clear n0_ n1_ n2_ n3_ n4_ n5_ n6_ n7_ n8_ n9_ n10_ n11_ n12_; clear hb hbox hg; have hnb36 := NB132_114.out; have hnc36 := NB114_132.out; have hnb37 := NB132_126.out; have hnc37 := NB126_132.out; have hnb38 := NB132_102.out; have hnc38 := NB102_132.out; have hcz39_0 : w35.cell? ⟨gb132, 0, none⟩ = some (.int .i64 0) := (blk_cell BK132.out 0).trans rfl; have hcz39_1 : w35.cell? ⟨gb132, 1, none⟩ = some (.int .i64 0) := (blk_cell BK132.out 1).trans rfl; have hfz39_0 := blk_frozen BK132.out 0; have hfz39_1 := blk_frozen BK132.out 1; have hcz40_0 : w35.cell? ⟨gb126, 0, none⟩ = some (.int .i64 t115) := (blk_cell BK126.out 0).trans rfl; have hcz40_1 : w35.cell? ⟨gb126, 1, none⟩ = some (.int .i64 t116) := (blk_cell BK126.out 1).trans rfl; have hcz40_2 : w35.cell? ⟨gb126, 2, none⟩ = some (.int .i64 t117) := (blk_cell BK126.out 2).trans rfl; have hcz40_3 : w35.cell? ⟨gb126, 3, none⟩ = some (.int .i64 t118) := (blk_cell BK126.out 3).trans rfl; have hcz40_4 : w35.cell? ⟨gb126, 4, none⟩ = some (.int .i64 t119) := (blk_cell BK126.out 4).trans rfl; have hcz40_5 : w35.cell? ⟨gb126, 5, none⟩ = some (.int .i64 t120) := (blk_cell BK126.out 5).trans rfl; have hcz40_6 : w35.cell? ⟨gb126, 6, none⟩ = some (.int .i64 t121) := (blk_cell BK126.out 6).trans rfl; have hcz40_7 : w35.cell? ⟨gb126, 7, none⟩ = some (.int .i64 t122) := (blk_cell BK126.out 7).trans rfl; have hcz40_8 : w35.cell? ⟨gb126, 8, none⟩ = some (.int .i64 t123) := (blk_cell BK126.out 8).trans rfl; have hcz40_9 : w35.cell? ⟨gb126, 9, none⟩ = some (.int .i64 t124) := (blk_cell BK126.out 9).trans rfl; have hfz40_0 := blk_frozen BK126.out 0; have hfz40_1 := blk_frozen BK126.out 1; have hfz40_2 := blk_frozen BK126.out 2; have hfz40_3 := blk_frozen BK126.out 3; have hfz40_4 := blk_frozen BK126.out 4; have hfz40_5 := blk_frozen BK126.out 5; have hfz40_6 := blk_frozen BK126.out 6; have hfz40_7 := blk_frozen BK126.out 7; have hfz40_8 := blk_frozen BK126.out 8; have hfz40_9 := blk_frozen BK126.out 9) | ((with_reducible refine gate_callee (f := 27) rfl ?_); refine goesL_ (some 44) rfl rfl Try.func27 (by kernel_rfl) rfl #[.agg #[.int .i64 t115, .int .i64 t116, .int .i64 t117, .int .i64 t118, .int .i64 t119, .int .i64 t120, .int .i64 t121, .int .i64 t122, .int .i64 t123, .int .i64 t124], .int .i64 (wrap64 (t127 - 10000)), .int .i64 t128] rfl (by (try simp only [List.map_toArray, List.map_cons, List.map_nil]); first | done | rfl | (simp only [List.length_drop, List.length_take]; rfl)) ?_; (with_reducible refine (curve_Current.calls k t115 t116 t117 t118 t119 t120 t121 t122 t123 t124 (wrap64 (t127 - 10000)) t128 t133 t134 t135 _ A11.out).mono ?_); rintro e w41 ⟨rfl, hb⟩; refine ⟨_, rfl, ?_⟩; have n0_ := Aside0.mk (IsS83.below (show IsS83 w _ g102 t125 from by repeat (first | (with_reducible first | exact HI102.out | apply IsS83.alloc | apply IsS83.drewN | apply IsS83.drew | apply IsS83.set_0 | refine IsS83.far ?_ NB102_114.out _ | refine IsS83.far ?_ NB102_126.out _ | refine IsS83.far ?_ NB102_132.out _) | exact HI102.out)) hb); have n1_ := Aside0.mk (blk_below (g := gb114) (o := .cells #[.int .i64 t103, .int .i64 t104, .int .i64 t105, .int .i64 t106, .int .i64 t107, .int .i64 t108, .int .i64 t109, .int .i64 t110, .int .i64 t111, .int .i64 t112] 42 (0, 0)) (by (with_reducible repeat (first | refine qn ?_ _ | refine qd ?_ | refine qa ?_ _)); refine blk_far ?_ NB114_132.out _; (with_reducible repeat (first | refine qn ?_ _ | refine qd ?_ | refine qa ?_ _)); refine blk_far ?_ NB114_132.out _; (with_reducible repeat (first | refine qn ?_ _ | refine qd ?_ | refine qa ?_ _)); exact BK114.out) hb); have n2_ := Aside0.mk (blk_below (g := gb126) (o := .cells #[.int .i64 t115, .int .i64 t116, .int .i64 t117, .int .i64 t118, .int .i64 t119, .int .i64 t120, .int .i64 t121, .int .i64 t122, .int .i64 t123, .int .i64 t124] 42 (0, 0)) (by (with_reducible repeat (first | refine qn ?_ _ | refine qd ?_ | refine qa ?_ _)); refine blk_far ?_ NB126_132.out _; (with_reducible repeat (first | refine qn ?_ _ | refine qd ?_ | refine qa ?_ _)); refine blk_far ?_ NB126_132.out _; (with_reducible repeat (first | refine qn ?_ _ | refine qd ?_ | refine qa ?_ _)); exact BK126.out) hb); have n3_ := Aside0.mk (blk_below (g := gb132) (o := .cells #[.int .i64 t129, .int .i64 t130] 35 (0, 0)) (by (with_reducible repeat (first | refine qn ?_ _ | refine qd ?_ | refine qa ?_ _)); refine blk_put (cs := #[.int .i64 t129, .int .i64 0]) ?_ 1 _ rfl; (with_reducible repeat (first | refine qn ?_ _ | refine qd ?_ | refine qa ?_ _)); refine blk_put (cs := #[.int .i64 0, .int .i64 0]) ?_ 0 _ rfl; (with_reducible repeat (first | refine qn ?_ _ | refine qd ?_ | refine qa ?_ _)); exact BK132.out) hb); have n4_ := Aside0.mk (below_step (by repeat (first | (with_reducible first | exact HB.out | apply qA | apply qN | apply qD | refine below_set ?_ (IsS83.ge HI102.out) | refine below_set ?_ GE114.out | refine below_set ?_ GE126.out | refine below_set ?_ GE132.out) | exact HB.out)) hb); clear HI102; clear BK114; clear BK126; clear BK132; clear HB; have HI102 := n0_; have BK114 := n1_; have BK126 := n2_; have BK132 := n3_; have HB := n4_; clear n0_ n1_ n2_ n3_ n4_; (try clear hb); (try clear hb2); (try clear hk); (try clear hi)) | ((with_reducible refine gate_dst (N := 14) rfl ?_); refine box_event ?hg (N := 14) ?hd (cs := #[.int .i64 0, .int .i64 0]) (t := 35) ?hr ?_; (case hd => rfl); (case hg => rfl); (case hr => first | (go_simp; done) | (go_simp; rfl)); intro gb136 hg w42 hbox hb; have n0_ := Aside0.mk (IsS83.below (by repeat (first | (with_reducible first | exact HI102.out | apply IsS83.alloc | apply IsS83.drewN | apply IsS83.drew | apply IsS83.set_0 | refine IsS83.far ?_ NB102_114.out _ | refine IsS83.far ?_ NB102_126.out _ | refine IsS83.far ?_ NB102_132.out _) | exact HI102.out)) hb); have n1_ := Aside0.mk (blk_below (by (with_reducible repeat (first | refine qn ?_ _ | refine qd ?_ | refine qa ?_ _)); exact BK114.out) hb); have n2_ := Aside0.mk (blk_below (by (with_reducible repeat (first | refine qn ?_ _ | refine qd ?_ | refine qa ?_ _)); exact BK126.out) hb); have n3_ := Aside0.mk (blk_below (by (with_reducible repeat (first | refine qn ?_ _ | refine qd ?_ | refine qa ?_ _)); exact BK132.out) hb); have n4_ := Aside0.mk (below_step (by repeat (first | (with_reducible first | exact HB.out | apply qA | apply qN | apply qD | refine below_set ?_ (IsS83.ge HI102.out) | refine below_set ?_ GE114.out | refine below_set ?_ GE126.out | refine below_set ?_ GE132.out) | exact HB.out)) hb); have n5_ := Aside0.mk (hbox); have n6_ := Aside0.mk ((by rw [hg]; exact (below_size (by repeat (first | (with_reducible first | exact HB.out | apply qA | apply qN | apply qD | refine below_set ?_ (IsS83.ge HI102.out) | refine below_set ?_ GE114.out | refine below_set ?_ GE126.out | refine below_set ?_ GE132.out) | exact HB.out))) : w.heap.size ≤ gb136)); have n7_ := Aside0.mk ((by rw [hg]; exact (below_size (by repeat (first | (with_reducible first | exact HB.out | apply qA | apply qN | apply qD | refine below_set ?_ (IsS83.ge HI102.out) | refine below_set ?_ GE114.out | refine below_set ?_ GE126.out | refine below_set ?_ GE132.out) | exact HB.out))) : w.heap.size ≤ gb136)); have n8_ := Aside0.mk ((by rw [hg]; exact Nat.ne_of_lt (blk_lt (by (with_reducible repeat (first | refine qn ?_ _ | refine qd ?_ | refine qa ?_ _)); exact BK114.out)) : gb114 ≠ gb136)); have n9_ := Aside0.mk ((by rw [hg]; exact Nat.ne_of_gt (blk_lt (by (with_reducible repeat (first | refine qn ?_ _ | refine qd ?_ | refine qa ?_ _)); exact BK114.out)) : gb136 ≠ gb114)); have n10_ := Aside0.mk ((by rw [hg]; exact Nat.ne_of_lt (blk_lt (by (with_reducible repeat (first | refine qn ?_ _ | refine qd ?_ | refine qa ?_ _)); exact BK126.out)) : gb126 ≠ gb136)); have n11_ := Aside0.mk ((by rw [hg]; exact Nat.ne_of_gt (blk_lt (by (with_reducible repeat (first | refine qn ?_ _ | refine qd ?_ | refine qa ?_ _)); exact BK126.out)) : gb136 ≠ gb126)); have n12_ := Aside0.mk ((by rw [hg]; exact Nat.ne_of_lt (blk_lt (by (with_reducible repeat (first | refine qn ?_ _ | refine qd ?_ | refine qa ?_ _)); exact BK132.out)) : gb132 ≠ gb136)); have n13_ := Aside0.mk ((by rw [hg]; exact Nat.ne_of_gt (blk_lt (by (with_reducible repeat (first | refine qn ?_ _ | refine qd ?_ | refine qa ?_ _)); exact BK132.out)) : gb136 ≠ gb132)); have n14_ := Aside0.mk ((by rw [hg]; exact Nat.ne_of_lt (IsS83.lt (show IsS83 w _ g102 t125 from by repeat (first | (with_reducible first | exact HI102.out | apply IsS83.alloc | apply IsS83.drewN | apply IsS83.drew | apply IsS83.set_0 | refine IsS83.far ?_ NB102_114.out _ | refine IsS83.far ?_ NB102_126.out _ | refine IsS83.far ?_ NB102_132.out _) | exact HI102.out))) : g102 ≠ gb136)); have n15_ := Aside0.mk ((by rw [hg]; exact Nat.ne_of_gt (IsS83.lt (show IsS83 w _ g102 t125 from by repeat (first | (with_reducible first | exact HI102.out | apply IsS83.alloc | apply IsS83.drewN | apply IsS83.drew | apply IsS83.set_0 | refine IsS83.far ?_ NB102_114.out _ | refine IsS83.far ?_ NB102_126.out _ | refine IsS83.far ?_ NB102_132.out _) | exact HI102.out))) : gb136 ≠ g102)); clear HI102; clear BK114; clear BK126; clear BK132; clear HB; have HI102 := n0_; have BK114 := n1_; have BK126 := n2_; have BK132 := n3_; have HB := n4_; have BK136 := n5_; have GW136 := n6_; have GE136 := n7_; have NB114_136 := n8_; have NB136_114 := n9_; have NB126_136 := n10_; have NB136_126 := n11_; have NB132_136 := n12_; have NB136_132 := n13_; have NB102_136 := n14_; have NB136_102 := n15_; clear n0_ n1_ n2_ n3_ n4_ n5_ n6_ n7_ n8_ n9_ n10_ n11_ n12_ n13_ n14_ n15_; clear hb hbox hg; have hnb43 := NB136_114.out; have hnc43 := NB114_136.out; have hnb44 := NB136_126.out; have hnc44 := NB126_136.out; have hnb45 := NB136_132.out; have hnc45 := NB132_136.out; have hnb46 := NB136_102.out; have hnc46 := NB102_136.out; have hcz47_0 : w42.cell? ⟨gb136, 0, none⟩ = some (.int .i64 0) := (blk_cell BK136.out 0).trans rfl; have hcz47_1 : w42.cell? ⟨gb136, 1, none⟩ = some (.int .i64 0) := (blk_cell BK136.out 1).trans rfl; have hfz47_0 := blk_frozen BK136.out 0; have hfz47_1 := blk_frozen BK136.out 1; have hcz48_0 : w42.cell? ⟨gb114, 0, none⟩ = some (.int .i64 t103) := (blk_cell BK114.out 0).trans rfl; have hcz48_1 : w42.cell? ⟨gb114, 1, none⟩ = some (.int .i64 t104) := (blk_cell BK114.out 1).trans rfl; have hcz48_2 : w42.cell? ⟨gb114, 2, none⟩ = some (.int .i64 t105) := (blk_cell BK114.out 2).trans rfl; have hcz48_3 : w42.cell? ⟨gb114, 3, none⟩ = some (.int .i64 t106) := (blk_cell BK114.out 3).trans rfl; have hcz48_4 : w42.cell? ⟨gb114, 4, none⟩ = some (.int .i64 t107) := (blk_cell BK114.out 4).trans rfl; have hcz48_5 : w42.cell? ⟨gb114, 5, none⟩ = some (.int .i64 t108) := (blk_cell BK114.out 5).trans rfl; have hcz48_6 : w42.cell? ⟨gb114, 6, none⟩ = some (.int .i64 t109) := (blk_cell BK114.out 6).trans rfl; have hcz48_7 : w42.cell? ⟨gb114, 7, none⟩ = some (.int .i64 t110) := (blk_cell BK114.out 7).trans rfl; have hcz48_8 : w42.cell? ⟨gb114, 8, none⟩ = some (.int .i64 t111) := (blk_cell BK114.out 8).trans rfl; have hcz48_9 : w42.cell? ⟨gb114, 9, none⟩ = some (.int .i64 t112) := (blk_cell BK114.out 9).trans rfl; have hfz48_0 := blk_frozen BK114.out 0; have hfz48_1 := blk_frozen BK114.out 1; have hfz48_2 := blk_frozen BK114.out 2; have hfz48_3 := blk_frozen BK114.out 3; have hfz48_4 := blk_frozen BK114.out 4; have hfz48_5 := blk_frozen BK114.out 5; have hfz48_6 := blk_frozen BK114.out 6; have hfz48_7 := blk_frozen BK114.out 7; have hfz48_8 := blk_frozen BK114.out 8; have hfz48_9 := blk_frozen BK114.out 9) | ((with_reducible refine gate_callee (f := 29) rfl ?_); refine goesL_ (some 51) rfl rfl Try.func29 (by kernel_rfl) rfl #[.agg #[.int .i64 t103, .int .i64 t104, .int .i64 t105, .int .i64 t106, .int .i64 t107, .int .i64 t108, .int .i64 t109, .int .i64 t110, .int .i64 t111, .int .i64 t112], .int .i64 (wrap64 (t127 - 10000)), .int .i64 t128] rfl (by (try simp only [List.map_toArray, List.map_cons, List.map_nil]); first | done | rfl | (simp only [List.length_drop, List.length_take]; rfl)) ?_; (with_reducible refine (curve_Drive.calls t103 t104 t105 t106 t107 t108 t109 t110 t111 t112 (wrap64 (t127 - 10000)) t128 t137 t138 t139 _ A12.out).mono ?_); rintro e w49 ⟨rfl, hb⟩; refine ⟨_, rfl, ?_⟩; have n0_ := Aside0.mk (IsS83.below (show IsS83 w _ g102 t125 from by repeat (first | (with_reducible first | exact HI102.out | apply IsS83.alloc | apply IsS83.drewN | apply IsS83.drew | apply IsS83.set_0 | refine IsS83.far ?_ NB102_114.out _ | refine IsS83.far ?_ NB102_126.out _ | refine IsS83.far ?_ NB102_132.out _ | refine IsS83.far ?_ NB102_136.out _) | exact HI102.out)) hb); have n1_ := Aside0.mk (blk_below (g := gb114) (o := .cells #[.int .i64 t103, .int .i64 t104, .int .i64 t105, .int .i64 t106, .int .i64 t107, .int .i64 t108, .int .i64 t109, .int .i64 t110, .int .i64 t111, .int .i64 t112] 42 (0, 0)) (by (with_reducible repeat (first | refine qn ?_ _ | refine qd ?_ | refine qa ?_ _)); refine blk_far ?_ NB114_136.out _; (with_reducible repeat (first | refine qn ?_ _ | refine qd ?_ | refine qa ?_ _)); refine blk_far ?_ NB114_136.out _; (with_reducible repeat (first | refine qn ?_ _ | refine qd ?_ | refine qa ?_ _)); exact BK114.out) hb); have n2_ := Aside0.mk (blk_below (g := gb126) (o := .cells #[.int .i64 t115, .int .i64 t116, .int .i64 t117, .int .i64 t118, .int .i64 t119, .int .i64 t120, .int .i64 t121, .int .i64 t122, .int .i64 t123, .int .i64 t124] 42 (0, 0)) (by (with_reducible repeat (first | refine qn ?_ _ | refine qd ?_ | refine qa ?_ _)); refine blk_far ?_ NB126_136.out _; (with_reducible repeat (first | refine qn ?_ _ | refine qd ?_ | refine qa ?_ _)); refine blk_far ?_ NB126_136.out _; (with_reducible repeat (first | refine qn ?_ _ | refine qd ?_ | refine qa ?_ _)); exact BK126.out) hb); have n3_ := Aside0.mk (blk_below (g := gb132) (o := .cells #[.int .i64 t129, .int .i64 t130] 35 (0, 0)) (by (with_reducible repeat (first | refine qn ?_ _ | refine qd ?_ | refine qa ?_ _)); refine blk_far ?_ NB132_136.out _; (with_reducible repeat (first | refine qn ?_ _ | refine qd ?_ | refine qa ?_ _)); refine blk_far ?_ NB132_136.out _; (with_reducible repeat (first | refine qn ?_ _ | refine qd ?_ | refine qa ?_ _)); exact BK132.out) hb); have n4_ := Aside0.mk (blk_below (g := gb136) (o := .cells #[.int .i64 t133, .int .i64 t134] 35 (0, 0)) (by (with_reducible repeat (first | refine qn ?_ _ | refine qd ?_ | refine qa ?_ _)); refine blk_put (cs := #[.int .i64 t133, .int .i64 0]) ?_ 1 _ rfl; (with_reducible repeat (first | refine qn ?_ _ | refine qd ?_ | refine qa ?_ _)); refine blk_put (cs := #[.int .i64 0, .int .i64 0]) ?_ 0 _ rfl; (with_reducible repeat (first | refine qn ?_ _ | refine qd ?_ | refine qa ?_ _)); exact BK136.out) hb); have n5_ := Aside0.mk (below_step (by repeat (first | (with_reducible first | exact HB.out | apply qA | apply qN | apply qD | refine below_set ?_ (IsS83.ge HI102.out) | refine below_set ?_ GE114.out | refine below_set ?_ GE126.out | refine below_set ?_ GE132.out | refine below_set ?_ GE136.out) | exact HB.out)) hb); clear HI102; clear BK114; clear BK126; clear BK132; clear BK136; clear HB; have HI102 := n0_; have BK114 := n1_; have BK126 := n2_; have BK132 := n3_; have BK136 := n4_; have HB := n5_; clear n0_ n1_ n2_ n3_ n4_ n5_; (try clear hb); (try clear hb2); (try clear hk); (try clear hi)) | ((with_reducible refine gate_dst (N := 16) rfl ?_); refine box_event ?hg (N := 16) ?hd (cs := #[.int .i64 0, .int .i64 0]) (t := 35) ?hr ?_; (case hd => rfl); (case hg => rfl); (case hr => first | (go_simp; done) | (go_simp; rfl)); intro gb140 hg w50 hbox hb; have n0_ := Aside0.mk (IsS83.below (by repeat (first | (with_reducible first | exact HI102.out | apply IsS83.alloc | apply IsS83.drewN | apply IsS83.drew | apply IsS83.set_0 | refine IsS83.far ?_ NB102_114.out _ | refine IsS83.far ?_ NB102_126.out _ | refine IsS83.far ?_ NB102_132.out _ | refine IsS83.far ?_ NB102_136.out _) | exact HI102.out)) hb); have n1_ := Aside0.mk (blk_below (by (with_reducible repeat (first | refine qn ?_ _ | refine qd ?_ | refine qa ?_ _)); exact BK114.out) hb); have n2_ := Aside0.mk (blk_below (by (with_reducible repeat (first | refine qn ?_ _ | refine qd ?_ | refine qa ?_ _)); exact BK126.out) hb); have n3_ := Aside0.mk (blk_below (by (with_reducible repeat (first | refine qn ?_ _ | refine qd ?_ | refine qa ?_ _)); exact BK132.out) hb); have n4_ := Aside0.mk (blk_below (by (with_reducible repeat (first | refine qn ?_ _ | refine qd ?_ | refine qa ?_ _)); exact BK136.out) hb); have n5_ := Aside0.mk (below_step (by repeat (first | (with_reducible first | exact HB.out | apply qA | apply qN | apply qD | refine below_set ?_ (IsS83.ge HI102.out) | refine below_set ?_ GE114.out | refine below_set ?_ GE126.out | refine below_set ?_ GE132.out | refine below_set ?_ GE136.out) | exact HB.out)) hb); have n6_ := Aside0.mk (hbox); have n7_ := Aside0.mk ((by rw [hg]; exact (below_size (by repeat (first | (with_reducible first | exact HB.out | apply qA | apply qN | apply qD | refine below_set ?_ (IsS83.ge HI102.out) | refine below_set ?_ GE114.out | refine below_set ?_ GE126.out | refine below_set ?_ GE132.out | refine below_set ?_ GE136.out) | exact HB.out))) : w.heap.size ≤ gb140)); have n8_ := Aside0.mk ((by rw [hg]; exact (below_size (by repeat (first | (with_reducible first | exact HB.out | apply qA | apply qN | apply qD | refine below_set ?_ (IsS83.ge HI102.out) | refine below_set ?_ GE114.out | refine below_set ?_ GE126.out | refine below_set ?_ GE132.out | refine below_set ?_ GE136.out) | exact HB.out))) : w.heap.size ≤ gb140)); have n9_ := Aside0.mk ((by rw [hg]; exact Nat.ne_of_lt (blk_lt (by (with_reducible repeat (first | refine qn ?_ _ | refine qd ?_ | refine qa ?_ _)); exact BK114.out)) : gb114 ≠ gb140)); have n10_ := Aside0.mk ((by rw [hg]; exact Nat.ne_of_gt (blk_lt (by (with_reducible repeat (first | refine qn ?_ _ | refine qd ?_ | refine qa ?_ _)); exact BK114.out)) : gb140 ≠ gb114)); have n11_ := Aside0.mk ((by rw [hg]; exact Nat.ne_of_lt (blk_lt (by (with_reducible repeat (first | refine qn ?_ _ | refine qd ?_ | refine qa ?_ _)); exact BK126.out)) : gb126 ≠ gb140)); have n12_ := Aside0.mk ((by rw [hg]; exact Nat.ne_of_gt (blk_lt (by (with_reducible repeat (first | refine qn ?_ _ | refine qd ?_ | refine qa ?_ _)); exact BK126.out)) : gb140 ≠ gb126)); have n13_ := Aside0.mk ((by rw [hg]; exact Nat.ne_of_lt (blk_lt (by (with_reducible repeat (first | refine qn ?_ _ | refine qd ?_ | refine qa ?_ _)); exact BK132.out)) : gb132 ≠ gb140)); have n14_ := Aside0.mk ((by rw [hg]; exact Nat.ne_of_gt (blk_lt (by (with_reducible repeat (first | refine qn ?_ _ | refine qd ?_ | refine qa ?_ _)); exact BK132.out)) : gb140 ≠ gb132)); have n15_ := Aside0.mk ((by rw [hg]; exact Nat.ne_of_lt (blk_lt (by (with_reducible repeat (first | refine qn ?_ _ | refine qd ?_ | refine qa ?_ _)); exact BK136.out)) : gb136 ≠ gb140)); have n16_ := Aside0.mk ((by rw [hg]; exact Nat.ne_of_gt (blk_lt (by (with_reducible repeat (first | refine qn ?_ _ | refine qd ?_ | refine qa ?_ _)); exact BK136.out)) : gb140 ≠ gb136)); have n17_ := Aside0.mk ((by rw [hg]; exact Nat.ne_of_lt (IsS83.lt (show IsS83 w _ g102 t125 from by repeat (first | (with_reducible first | exact HI102.out | apply IsS83.alloc | apply IsS83.drewN | apply IsS83.drew | apply IsS83.set_0 | refine IsS83.far ?_ NB102_114.out _ | refine IsS83.far ?_ NB102_126.out _ | refine IsS83.far ?_ NB102_132.out _ | refine IsS83.far ?_ NB102_136.out _) | exact HI102.out))) : g102 ≠ gb140)); have n18_ := Aside0.mk ((by rw [hg]; exact Nat.ne_of_gt (IsS83.lt (show IsS83 w _ g102 t125 from by repeat (first | (with_reducible first | exact HI102.out | apply IsS83.alloc | apply IsS83.drewN | apply IsS83.drew | apply IsS83.set_0 | refine IsS83.far ?_ NB102_114.out _ | refine IsS83.far ?_ NB102_126.out _ | refine IsS83.far ?_ NB102_132.out _ | refine IsS83.far ?_ NB102_136.out _) | exact HI102.out))) : gb140 ≠ g102)); clear HI102; clear BK114; clear BK126; clear BK132; clear BK136; clear HB; have HI102 := n0_; have BK114 := n1_; have BK126 := n2_; have BK132 := n3_; have BK136 := n4_; have HB := n5_; have BK140 := n6_; have GW140 := n7_; have GE140 := n8_; have NB114_140 := n9_; have NB140_114 := n10_; have NB126_140 := n11_; have NB140_126 := n12_; have NB132_140 := n13_; have NB140_132 := n14_; have NB136_140 := n15_; have NB140_136 := n16_; have NB102_140 := n17_; have NB140_102 := n18_; clear n0_ n1_ n2_ n3_ n4_ n5_ n6_ n7_ n8_ n9_ n10_ n11_ n12_ n13_ n14_ n15_ n16_ n17_ n18_; clear hb hbox hg; have hnb51 := NB140_114.out; have hnc51 := NB114_140.out; have hnb52 := NB140_126.out; have hnc52 := NB126_140.out; have hnb53 := NB140_132.out; have hnc53 := NB132_140.out; have hnb54 := NB140_136.out; have hnc54 := NB136_140.out; have hnb55 := NB140_102.out; have hnc55 := NB102_140.out; have hcz56_0 : w50.cell? ⟨gb140, 0, none⟩ = some (.int .i64 0) := (blk_cell BK140.out 0).trans rfl; have hcz56_1 : w50.cell? ⟨gb140, 1, none⟩ = some (.int .i64 0) := (blk_cell BK140.out 1).trans rfl; have hfz56_0 := blk_frozen BK140.out 0; have hfz56_1 := blk_frozen BK140.out 1; have hcz57_0 : w50.cell? ⟨gb126, 0, none⟩ = some (.int .i64 t115) := (blk_cell BK126.out 0).trans rfl; have hcz57_1 : w50.cell? ⟨gb126, 1, none⟩ = some (.int .i64 t116) := (blk_cell BK126.out 1).trans rfl; have hcz57_2 : w50.cell? ⟨gb126, 2, none⟩ = some (.int .i64 t117) := (blk_cell BK126.out 2).trans rfl; have hcz57_3 : w50.cell? ⟨gb126, 3, none⟩ = some (.int .i64 t118) := (blk_cell BK126.out 3).trans rfl; have hcz57_4 : w50.cell? ⟨gb126, 4, none⟩ = some (.int .i64 t119) := (blk_cell BK126.out 4).trans rfl; have hcz57_5 : w50.cell? ⟨gb126, 5, none⟩ = some (.int .i64 t120) := (blk_cell BK126.out 5).trans rfl; have hcz57_6 : w50.cell? ⟨gb126, 6, none⟩ = some (.int .i64 t121) := (blk_cell BK126.out 6).trans rfl; have hcz57_7 : w50.cell? ⟨gb126, 7, none⟩ = some (.int .i64 t122) := (blk_cell BK126.out 7).trans rfl; have hcz57_8 : w50.cell? ⟨gb126, 8, none⟩ = some (.int .i64 t123) := (blk_cell BK126.out 8).trans rfl; have hcz57_9 : w50.cell? ⟨gb126, 9, none⟩ = some (.int .i64 t124) := (blk_cell BK126.out 9).trans rfl; have hfz57_0 := blk_frozen BK126.out 0; have hfz57_1 := blk_frozen BK126.out 1; have hfz57_2 := blk_frozen BK126.out 2; have hfz57_3 := blk_frozen BK126.out 3; have hfz57_4 := blk_frozen BK126.out 4; have hfz57_5 := blk_frozen BK126.out 5; have hfz57_6 := blk_frozen BK126.out 6; have hfz57_7 := blk_frozen BK126.out 7; have hfz57_8 := blk_frozen BK126.out 8; have hfz57_9 := blk_frozen BK126.out 9) | ((with_reducible refine gate_callee (f := 29) rfl ?_); refine goesL_ (some 58) rfl rfl Try.func29 (by kernel_rfl) rfl #[.agg #[.int .i64 t115, .int .i64 t116, .int .i64 t117, .int .i64 t118, .int .i64 t119, .int .i64 t120, .int .i64 t121, .int .i64 t122, .int .i64 t123, .int .i64 t124], .int .i64 (wrap64 (t127 - 10000)), .int .i64 t128] rfl (by (try simp only [List.map_toArray, List.map_cons, List.map_nil]); first | done | rfl | (simp only [List.length_drop, List.length_take]; rfl)) ?_; (with_reducible refine (curve_Drive.calls t115 t116 t117 t118 t119 t120 t121 t122 t123 t124 (wrap64 (t127 - 10000)) t128 t141 t142 t143 _ A13.out).mono ?_); rintro e w58 ⟨rfl, hb⟩; refine ⟨_, rfl, ?_⟩; have n0_ := Aside0.mk (IsS83.below (show IsS83 w _ g102 t125 from by repeat (first | (with_reducible first | exact HI102.out | apply IsS83.alloc | apply IsS83.drewN | apply IsS83.drew | apply IsS83.set_0 | refine IsS83.far ?_ NB102_114.out _ | refine IsS83.far ?_ NB102_126.out _ | refine IsS83.far ?_ NB102_132.out _ | refine IsS83.far ?_ NB102_136.out _ | refine IsS83.far ?_ NB102_140.out _) | exact HI102.out)) hb); have n1_ := Aside0.mk (blk_below (g := gb114) (o := .cells #[.int .i64 t103, .int .i64 t104, .int .i64 t105, .int .i64 t106, .int .i64 t107, .int .i64 t108, .int .i64 t109, .int .i64 t110, .int .i64 t111, .int .i64 t112] 42 (0, 0)) (by (with_reducible repeat (first | refine qn ?_ _ | refine qd ?_ | refine qa ?_ _)); refine blk_far ?_ NB114_140.out _; (with_reducible repeat (first | refine qn ?_ _ | refine qd ?_ | refine qa ?_ _)); refine blk_far ?_ NB114_140.out _; (with_reducible repeat (first | refine qn ?_ _ | refine qd ?_ | refine qa ?_ _)); exact BK114.out) hb); have n2_ := Aside0.mk (blk_below (g := gb126) (o := .cells #[.int .i64 t115, .int .i64 t116, .int .i64 t117, .int .i64 t118, .int .i64 t119, .int .i64 t120, .int .i64 t121, .int .i64 t122, .int .i64 t123, .int .i64 t124] 42 (0, 0)) (by (with_reducible repeat (first | refine qn ?_ _ | refine qd ?_ | refine qa ?_ _)); refine blk_far ?_ NB126_140.out _; (with_reducible repeat (first | refine qn ?_ _ | refine qd ?_ | refine qa ?_ _)); refine blk_far ?_ NB126_140.out _; (with_reducible repeat (first | refine qn ?_ _ | refine qd ?_ | refine qa ?_ _)); exact BK126.out) hb); have n3_ := Aside0.mk (blk_below (g := gb132) (o := .cells #[.int .i64 t129, .int .i64 t130] 35 (0, 0)) (by (with_reducible repeat (first | refine qn ?_ _ | refine qd ?_ | refine qa ?_ _)); refine blk_far ?_ NB132_140.out _; (with_reducible repeat (first | refine qn ?_ _ | refine qd ?_ | refine qa ?_ _)); refine blk_far ?_ NB132_140.out _; (with_reducible repeat (first | refine qn ?_ _ | refine qd ?_ | refine qa ?_ _)); exact BK132.out) hb); have n4_ := Aside0.mk (blk_below (g := gb136) (o := .cells #[.int .i64 t133, .int .i64 t134] 35 (0, 0)) (by (with_reducible repeat (first | refine qn ?_ _ | refine qd ?_ | refine qa ?_ _)); refine blk_far ?_ NB136_140.out _; (with_reducible repeat (first | refine qn ?_ _ | refine qd ?_ | refine qa ?_ _)); refine blk_far ?_ NB136_140.out _; (with_reducible repeat (first | refine qn ?_ _ | refine qd ?_ | refine qa ?_ _)); exact BK136.out) hb); have n5_ := Aside0.mk (blk_below (g := gb140) (o := .cells #[.int .i64 t137, .int .i64 t138] 35 (0, 0)) (by (with_reducible repeat (first | refine qn ?_ _ | refine qd ?_ | refine qa ?_ _)); refine blk_put (cs := #[.int .i64 t137, .int .i64 0]) ?_ 1 _ rfl; (with_reducible repeat (first | refine qn ?_ _ | refine qd ?_ | refine qa ?_ _)); refine blk_put (cs := #[.int .i64 0, .int .i64 0]) ?_ 0 _ rfl; (with_reducible repeat (first | refine qn ?_ _ | refine qd ?_ | refine qa ?_ _)); exact BK140.out) hb); have n6_ := Aside0.mk (below_step (by repeat (first | (with_reducible first | exact HB.out | apply qA | apply qN | apply qD | refine below_set ?_ (IsS83.ge HI102.out) | refine below_set ?_ GE114.out | refine below_set ?_ GE126.out | refine below_set ?_ GE132.out | refine below_set ?_ GE136.out | refine below_set ?_ GE140.out) | exact HB.out)) hb); clear HI102; clear BK114; clear BK126; clear BK132; clear BK136; clear BK140; clear HB; have HI102 := n0_; have BK114 := n1_; have BK126 := n2_; have BK132 := n3_; have BK136 := n4_; have BK140 := n5_; have HB := n6_; clear n0_ n1_ n2_ n3_ n4_ n5_ n6_; (try clear hb); (try clear hb2); (try clear hk); (try clear hi)) | ((with_reducible refine gate_dst (N := 18) rfl ?_); refine box_event ?hg (N := 18) ?hd (cs := #[.int .i64 0, .int .i64 0]) (t := 35) ?hr ?_; (case hd => rfl); (case hg => rfl); (case hr => first | (go_simp; done) | (go_simp; rfl)); intro gb144 hg w59 hbox hb; have n0_ := Aside0.mk (IsS83.below (by repeat (first | (with_reducible first | exact HI102.out | apply IsS83.alloc | apply IsS83.drewN | apply IsS83.drew | apply IsS83.set_0 | refine IsS83.far ?_ NB102_114.out _ | refine IsS83.far ?_ NB102_126.out _ | refine IsS83.far ?_ NB102_132.out _ | refine IsS83.far ?_ NB102_136.out _ | refine IsS83.far ?_ NB102_140.out _) | exact HI102.out)) hb); have n1_ := Aside0.mk (blk_below (by (with_reducible repeat (first | refine qn ?_ _ | refine qd ?_ | refine qa ?_ _)); exact BK114.out) hb); have n2_ := Aside0.mk (blk_below (by (with_reducible repeat (first | refine qn ?_ _ | refine qd ?_ | refine qa ?_ _)); exact BK126.out) hb); have n3_ := Aside0.mk (blk_below (by (with_reducible repeat (first | refine qn ?_ _ | refine qd ?_ | refine qa ?_ _)); exact BK132.out) hb); have n4_ := Aside0.mk (blk_below (by (with_reducible repeat (first | refine qn ?_ _ | refine qd ?_ | refine qa ?_ _)); exact BK136.out) hb); have n5_ := Aside0.mk (blk_below (by (with_reducible repeat (first | refine qn ?_ _ | refine qd ?_ | refine qa ?_ _)); exact BK140.out) hb); have n6_ := Aside0.mk (below_step (by repeat (first | (with_reducible first | exact HB.out | apply qA | apply qN | apply qD | refine below_set ?_ (IsS83.ge HI102.out) | refine below_set ?_ GE114.out | refine below_set ?_ GE126.out | refine below_set ?_ GE132.out | refine below_set ?_ GE136.out | refine below_set ?_ GE140.out) | exact HB.out)) hb); have n7_ := Aside0.mk (hbox); have n8_ := Aside0.mk ((by rw [hg]; exact (below_size (by repeat (first | (with_reducible first | exact HB.out | apply qA | apply qN | apply qD | refine below_set ?_ (IsS83.ge HI102.out) | refine below_set ?_ GE114.out | refine below_set ?_ GE126.out | refine below_set ?_ GE132.out | refine below_set ?_ GE136.out | refine below_set ?_ GE140.out) | exact HB.out))) : w.heap.size ≤ gb144)); have n9_ := Aside0.mk ((by rw [hg]; exact (below_size (by repeat (first | (with_reducible first | exact HB.out | apply qA | apply qN | apply qD | refine below_set ?_ (IsS83.ge HI102.out) | refine below_set ?_ GE114.out | refine below_set ?_ GE126.out | refine below_set ?_ GE132.out | refine below_set ?_ GE136.out | refine below_set ?_ GE140.out) | exact HB.out))) : w.heap.size ≤ gb144)); have n10_ := Aside0.mk ((by rw [hg]; exact Nat.ne_of_lt (blk_lt (by (with_reducible repeat (first | refine qn ?_ _ | refine qd ?_ | refine qa ?_ _)); exact BK114.out)) : gb114 ≠ gb144)); have n11_ := Aside0.mk ((by rw [hg]; exact Nat.ne_of_gt (blk_lt (by (with_reducible repeat (first | refine qn ?_ _ | refine qd ?_ | refine qa ?_ _)); exact BK114.out)) : gb144 ≠ gb114)); have n12_ := Aside0.mk ((by rw [hg]; exact Nat.ne_of_lt (blk_lt (by (with_reducible repeat (first | refine qn ?_ _ | refine qd ?_ | refine qa ?_ _)); exact BK126.out)) : gb126 ≠ gb144)); have n13_ := Aside0.mk ((by rw [hg]; exact Nat.ne_of_gt (blk_lt (by (with_reducible repeat (first | refine qn ?_ _ | refine qd ?_ | refine qa ?_ _)); exact BK126.out)) : gb144 ≠ gb126)); have n14_ := Aside0.mk ((by rw [hg]; exact Nat.ne_of_lt (blk_lt (by (with_reducible repeat (first | refine qn ?_ _ | refine qd ?_ | refine qa ?_ _)); exact BK132.out)) : gb132 ≠ gb144)); have n15_ := Aside0.mk ((by rw [hg]; exact Nat.ne_of_gt (blk_lt (by (with_reducible repeat (first | refine qn ?_ _ | refine qd ?_ | refine qa ?_ _)); exact BK132.out)) : gb144 ≠ gb132)); have n16_ := Aside0.mk ((by rw [hg]; exact Nat.ne_of_lt (blk_lt (by (with_reducible repeat (first | refine qn ?_ _ | refine qd ?_ | refine qa ?_ _)); exact BK136.out)) : gb136 ≠ gb144)); have n17_ := Aside0.mk ((by rw [hg]; exact Nat.ne_of_gt (blk_lt (by (with_reducible repeat (first | refine qn ?_ _ | refine qd ?_ | refine qa ?_ _)); exact BK136.out)) : gb144 ≠ gb136)); have n18_ := Aside0.mk ((by rw [hg]; exact Nat.ne_of_lt (blk_lt (by (with_reducible repeat (first | refine qn ?_ _ | refine qd ?_ | refine qa ?_ _)); exact BK140.out)) : gb140 ≠ gb144)); have n19_ := Aside0.mk ((by rw [hg]; exact Nat.ne_of_gt (blk_lt (by (with_reducible repeat (first | refine qn ?_ _ | refine qd ?_ | refine qa ?_ _)); exact BK140.out)) : gb144 ≠ gb140)); have n20_ := Aside0.mk ((by rw [hg]; exact Nat.ne_of_lt (IsS83.lt (show IsS83 w _ g102 t125 from by repeat (first | (with_reducible first | exact HI102.out | apply IsS83.alloc | apply IsS83.drewN | apply IsS83.drew | apply IsS83.set_0 | refine IsS83.far ?_ NB102_114.out _ | refine IsS83.far ?_ NB102_126.out _ | refine IsS83.far ?_ NB102_132.out _ | refine IsS83.far ?_ NB102_136.out _ | refine IsS83.far ?_ NB102_140.out _) | exact HI102.out))) : g102 ≠ gb144)); have n21_ := Aside0.mk ((by rw [hg]; exact Nat.ne_of_gt (IsS83.lt (show IsS83 w _ g102 t125 from by repeat (first | (with_reducible first | exact HI102.out | apply IsS83.alloc | apply IsS83.drewN | apply IsS83.drew | apply IsS83.set_0 | refine IsS83.far ?_ NB102_114.out _ | refine IsS83.far ?_ NB102_126.out _ | refine IsS83.far ?_ NB102_132.out _ | refine IsS83.far ?_ NB102_136.out _ | refine IsS83.far ?_ NB102_140.out _) | exact HI102.out))) : gb144 ≠ g102)); clear HI102; clear BK114; clear BK126; clear BK132; clear BK136; clear BK140; clear HB; have HI102 := n0_; have BK114 := n1_; have BK126 := n2_; have BK132 := n3_; have BK136 := n4_; have BK140 := n5_; have HB := n6_; have BK144 := n7_; have GW144 := n8_; have GE144 := n9_; have NB114_144 := n10_; have NB144_114 := n11_; have NB126_144 := n12_; have NB144_126 := n13_; have NB132_144 := n14_; have NB144_132 := n15_; have NB136_144 := n16_; have NB144_136 := n17_; have NB140_144 := n18_; have NB144_140 := n19_; have NB102_144 := n20_; have NB144_102 := n21_; clear n0_ n1_ n2_ n3_ n4_ n5_ n6_ n7_ n8_ n9_ n10_ n11_ n12_ n13_ n14_ n15_ n16_ n17_ n18_ n19_ n20_ n21_; clear hb hbox hg; have hnb60 := NB144_114.out; have hnc60 := NB114_144.out; have hnb61 := NB144_126.out; have hnc61 := NB126_144.out; have hnb62 := NB144_132.out; have hnc62 := NB132_144.out; have hnb63 := NB144_136.out; have hnc63 := NB136_144.out; have hnb64 := NB144_140.out; have hnc64 := NB140_144.out; have hnb65 := NB144_102.out; have hnc65 := NB102_144.out; have hcz66_0 : w59.cell? ⟨gb144, 0, none⟩ = some (.int .i64 0) := (blk_cell BK144.out 0).trans rfl; have hcz66_1 : w59.cell? ⟨gb144, 1, none⟩ = some (.int .i64 0) := (blk_cell BK144.out 1).trans rfl; have hfz66_0 := blk_frozen BK144.out 0; have hfz66_1 := blk_frozen BK144.out 1; have hcz67_0 : w59.cell? ⟨gb136, 0, none⟩ = some (.int .i64 t133) := (blk_cell BK136.out 0).trans rfl; have hcz67_1 : w59.cell? ⟨gb136, 1, none⟩ = some (.int .i64 t134) := (blk_cell BK136.out 1).trans rfl; have hfz67_0 := blk_frozen BK136.out 0; have hfz67_1 := blk_frozen BK136.out 1; have hcz68_0 : w59.cell? ⟨gb132, 0, none⟩ = some (.int .i64 t129) := (blk_cell BK132.out 0).trans rfl; have hcz68_1 : w59.cell? ⟨gb132, 1, none⟩ = some (.int .i64 t130) := (blk_cell BK132.out 1).trans rfl; have hfz68_0 := blk_frozen BK132.out 0; have hfz68_1 := blk_frozen BK132.out 1) | (go_at_call 30; (with_reducible refine (thermionkit_Within.calls t133 t134 t129 t130 true _ A18.out).mono ?_); rintro e w69 ⟨rfl, hb⟩; have n0_ := Aside0.mk (IsS83.below (show IsS83 w _ g102 t125 from by repeat (first | (with_reducible first | exact HI102.out | apply IsS83.alloc | apply IsS83.drewN | apply IsS83.drew | apply IsS83.set_0 | refine IsS83.far ?_ NB102_114.out _ | refine IsS83.far ?_ NB102_126.out _ | refine IsS83.far ?_ NB102_132.out _ | refine IsS83.far ?_ NB102_136.out _ | refine IsS83.far ?_ NB102_140.out _ | refine IsS83.far ?_ NB102_144.out _) | exact HI102.out)) hb); have n1_ := Aside0.mk (blk_below (g := gb114) (o := .cells #[.int .i64 t103, .int .i64 t104, .int .i64 t105, .int .i64 t106, .int .i64 t107, .int .i64 t108, .int .i64 t109, .int .i64 t110, .int .i64 t111, .int .i64 t112] 42 (0, 0)) (by (with_reducible repeat (first | refine qn ?_ _ | refine qd ?_ | refine qa ?_ _)); refine blk_far ?_ NB114_144.out _; (with_reducible repeat (first | refine qn ?_ _ | refine qd ?_ | refine qa ?_ _)); refine blk_far ?_ NB114_144.out _; (with_reducible repeat (first | refine qn ?_ _ | refine qd ?_ | refine qa ?_ _)); exact BK114.out) hb); have n2_ := Aside0.mk (blk_below (g := gb126) (o := .cells #[.int .i64 t115, .int .i64 t116, .int .i64 t117, .int .i64 t118, .int .i64 t119, .int .i64 t120, .int .i64 t121, .int .i64 t122, .int .i64 t123, .int .i64 t124] 42 (0, 0)) (by (with_reducible repeat (first | refine qn ?_ _ | refine qd ?_ | refine qa ?_ _)); refine blk_far ?_ NB126_144.out _; (with_reducible repeat (first | refine qn ?_ _ | refine qd ?_ | refine qa ?_ _)); refine blk_far ?_ NB126_144.out _; (with_reducible repeat (first | refine qn ?_ _ | refine qd ?_ | refine qa ?_ _)); exact BK126.out) hb); have n3_ := Aside0.mk (blk_below (g := gb132) (o := .cells #[.int .i64 t129, .int .i64 t130] 35 (0, 0)) (by (with_reducible repeat (first | refine qn ?_ _ | refine qd ?_ | refine qa ?_ _)); refine blk_far ?_ NB132_144.out _; (with_reducible repeat (first | refine qn ?_ _ | refine qd ?_ | refine qa ?_ _)); refine blk_far ?_ NB132_144.out _; (with_reducible repeat (first | refine qn ?_ _ | refine qd ?_ | refine qa ?_ _)); exact BK132.out) hb); have n4_ := Aside0.mk (blk_below (g := gb136) (o := .cells #[.int .i64 t133, .int .i64 t134] 35 (0, 0)) (by (with_reducible repeat (first | refine qn ?_ _ | refine qd ?_ | refine qa ?_ _)); refine blk_far ?_ NB136_144.out _; (with_reducible repeat (first | refine qn ?_ _ | refine qd ?_ | refine qa ?_ _)); refine blk_far ?_ NB136_144.out _; (with_reducible repeat (first | refine qn ?_ _ | refine qd ?_ | refine qa ?_ _)); exact BK136.out) hb); have n5_ := Aside0.mk (blk_below (g := gb140) (o := .cells #[.int .i64 t137, .int .i64 t138] 35 (0, 0)) (by (with_reducible repeat (first | refine qn ?_ _ | refine qd ?_ | refine qa ?_ _)); refine blk_far ?_ NB140_144.out _; (with_reducible repeat (first | refine qn ?_ _ | refine qd ?_ | refine qa ?_ _)); refine blk_far ?_ NB140_144.out _; (with_reducible repeat (first | refine qn ?_ _ | refine qd ?_ | refine qa ?_ _)); exact BK140.out) hb); have n6_ := Aside0.mk (blk_below (g := gb144) (o := .cells #[.int .i64 t141, .int .i64 t142] 35 (0, 0)) (by (with_reducible repeat (first | refine qn ?_ _ | refine qd ?_ | refine qa ?_ _)); refine blk_put (cs := #[.int .i64 t141, .int .i64 0]) ?_ 1 _ rfl; (with_reducible repeat (first | refine qn ?_ _ | refine qd ?_ | refine qa ?_ _)); refine blk_put (cs := #[.int .i64 0, .int .i64 0]) ?_ 0 _ rfl; (with_reducible repeat (first | refine qn ?_ _ | refine qd ?_ | refine qa ?_ _)); exact BK144.out) hb); have n7_ := Aside0.mk (below_step (by repeat (first | (with_reducible first | exact HB.out | apply qA | apply qN | apply qD | refine below_set ?_ (IsS83.ge HI102.out) | refine below_set ?_ GE114.out | refine below_set ?_ GE126.out | refine below_set ?_ GE132.out | refine below_set ?_ GE136.out | refine below_set ?_ GE140.out | refine below_set ?_ GE144.out) | exact HB.out)) hb); clear HI102; clear BK114; clear BK126; clear BK132; clear BK136; clear BK140; clear BK144; clear HB; have HI102 := n0_; have BK114 := n1_; have BK126 := n2_; have BK132 := n3_; have BK136 := n4_; have BK140 := n5_; have BK144 := n6_; have HB := n7_; clear n0_ n1_ n2_ n3_ n4_ n5_ n6_ n7_; (try clear hb); (try clear hb2); (try clear hk); (try clear hi); have hcz70_0 : w69.cell? ⟨gb144, 0, none⟩ = some (.int .i64 t141) := (blk_cell BK144.out 0).trans rfl; have hcz70_1 : w69.cell? ⟨gb144, 1, none⟩ = some (.int .i64 t142) := (blk_cell BK144.out 1).trans rfl; have hfz70_0 := blk_frozen BK144.out 0; have hfz70_1 := blk_frozen BK144.out 1; have hcz71_0 : w69.cell? ⟨gb140, 0, none⟩ = some (.int .i64 t137) := (blk_cell BK140.out 0).trans rfl; have hcz71_1 : w69.cell? ⟨gb140, 1, none⟩ = some (.int .i64 t138) := (blk_cell BK140.out 1).trans rfl; have hfz71_0 := blk_frozen BK140.out 0; have hfz71_1 := blk_frozen BK140.out 1) | (go_at_call 30; (with_reducible refine (thermionkit_Within.calls t141 t142 t137 t138 true _ A20.out).mono ?_); rintro e w72 ⟨rfl, hb⟩; have n0_ := Aside0.mk (IsS83.below (by repeat (first | (with_reducible first | exact HI102.out | apply IsS83.alloc | apply IsS83.drewN | apply IsS83.drew | apply IsS83.set_0 | refine IsS83.far ?_ NB102_114.out _ | refine IsS83.far ?_ NB102_126.out _ | refine IsS83.far ?_ NB102_132.out _ | refine IsS83.far ?_ NB102_136.out _ | refine IsS83.far ?_ NB102_140.out _ | refine IsS83.far ?_ NB102_144.out _) | exact HI102.out)) hb); have n1_ := Aside0.mk (blk_below (by (with_reducible repeat (first | refine qn ?_ _ | refine qd ?_ | refine qa ?_ _)); exact BK114.out) hb); have n2_ := Aside0.mk (blk_below (by (with_reducible repeat (first | refine qn ?_ _ | refine qd ?_ | refine qa ?_ _)); exact BK126.out) hb); have n3_ := Aside0.mk (blk_below (by (with_reducible repeat (first | refine qn ?_ _ | refine qd ?_ | refine qa ?_ _)); exact BK132.out) hb); have n4_ := Aside0.mk (blk_below (by (with_reducible repeat (first | refine qn ?_ _ | refine qd ?_ | refine qa ?_ _)); exact BK136.out) hb); have n5_ := Aside0.mk (blk_below (by (with_reducible repeat (first | refine qn ?_ _ | refine qd ?_ | refine qa ?_ _)); exact BK140.out) hb); have n6_ := Aside0.mk (blk_below (by (with_reducible repeat (first | refine qn ?_ _ | refine qd ?_ | refine qa ?_ _)); exact BK144.out) hb); have n7_ := Aside0.mk (below_step (by repeat (first | (with_reducible first | exact HB.out | apply qA | apply qN | apply qD | refine below_set ?_ (IsS83.ge HI102.out) | refine below_set ?_ GE114.out | refine below_set ?_ GE126.out | refine below_set ?_ GE132.out | refine below_set ?_ GE136.out | refine below_set ?_ GE140.out | refine below_set ?_ GE144.out) | exact HB.out)) hb); clear HI102; clear BK114; clear BK126; clear BK132; clear BK136; clear BK140; clear BK144; clear HB; have HI102 := n0_; have BK114 := n1_; have BK126 := n2_; have BK132 := n3_; have BK136 := n4_; have BK140 := n5_; have BK144 := n6_; have HB := n7_; clear n0_ n1_ n2_ n3_ n4_ n5_ n6_ n7_; (try clear hb); (try clear hb2); (try clear hk); (try clear hi)) | (go_at_call 17; (with_reducible refine (thermionlaw02_awake.calls k  t147 _ A22.out).mono ?_); rintro e w73 ⟨rfl, hb⟩; have n0_ := Aside0.mk (IsS83.below (by repeat (first | (with_reducible first | exact HI102.out | apply IsS83.alloc | apply IsS83.drewN | apply IsS83.drew | apply IsS83.set_0 | refine IsS83.far ?_ NB102_114.out _ | refine IsS83.far ?_ NB102_126.out _ | refine IsS83.far ?_ NB102_132.out _ | refine IsS83.far ?_ NB102_136.out _ | refine IsS83.far ?_ NB102_140.out _ | refine IsS83.far ?_ NB102_144.out _) | exact HI102.out)) hb); have n1_ := Aside0.mk (blk_below (by (with_reducible repeat (first | refine qn ?_ _ | refine qd ?_ | refine qa ?_ _)); exact BK114.out) hb); have n2_ := Aside0.mk (blk_below (by (with_reducible repeat (first | refine qn ?_ _ | refine qd ?_ | refine qa ?_ _)); exact BK126.out) hb); have n3_ := Aside0.mk (blk_below (by (with_reducible repeat (first | refine qn ?_ _ | refine qd ?_ | refine qa ?_ _)); exact BK132.out) hb); have n4_ := Aside0.mk (blk_below (by (with_reducible repeat (first | refine qn ?_ _ | refine qd ?_ | refine qa ?_ _)); exact BK136.out) hb); have n5_ := Aside0.mk (blk_below (by (with_reducible repeat (first | refine qn ?_ _ | refine qd ?_ | refine qa ?_ _)); exact BK140.out) hb); have n6_ := Aside0.mk (blk_below (by (with_reducible repeat (first | refine qn ?_ _ | refine qd ?_ | refine qa ?_ _)); exact BK144.out) hb); have n7_ := Aside0.mk (below_step (by repeat (first | (with_reducible first | exact HB.out | apply qA | apply qN | apply qD | refine below_set ?_ (IsS83.ge HI102.out) | refine below_set ?_ GE114.out | refine below_set ?_ GE126.out | refine below_set ?_ GE132.out | refine below_set ?_ GE136.out | refine below_set ?_ GE140.out | refine below_set ?_ GE144.out) | exact HB.out)) hb); clear HI102; clear BK114; clear BK126; clear BK132; clear BK136; clear BK140; clear BK144; clear HB; have HI102 := n0_; have BK114 := n1_; have BK126 := n2_; have BK132 := n3_; have BK136 := n4_; have BK140 := n5_; have BK144 := n6_; have HB := n7_; clear n0_ n1_ n2_ n3_ n4_ n5_ n6_ n7_; (try clear hb); (try clear hb2); (try clear hk); (try clear hi)))
              go_ret
              exact ⟨by first | rfl | (simp [errW_none, errW_some] <;> rfl) | (simp [*, errW_none, errW_some] <;> rfl), by repeat (first | (with_reducible first | exact HB.out | apply qA | apply qN | apply qD | refine below_set ?_ (IsS83.ge HI102.out) | refine below_set ?_ GE114.out | refine below_set ?_ GE126.out | refine below_set ?_ GE132.out | refine below_set ?_ GE136.out | refine below_set ?_ GE140.out | refine below_set ?_ GE144.out) | exact HB.out)⟩
            · replace c21 := Bool.eq_false_iff.mpr c21
              subst c21
              have H1 : (none) = some r := by rw [if_neg (show ¬ (false = true) by decide)] at H; exact H
              clear H
              have H := H1
              clear H1
              exact absurd H (by simp)
          · replace c19 := Bool.eq_false_iff.mpr c19
            subst c19
            have H1 : (none) = some r := by rw [if_neg (show ¬ (false = true) by decide)] at H; exact H
            clear H
            have H := H1
            clear H1
            exact absurd H (by simp)
        · rw [if_neg c17] at H
          exact absurd H (by simp)
      · rw [if_neg c16] at H
        exact absurd H (by simp)
    · rw [if_neg c15] at H
      exact absurd H (by simp)
  · rw [if_neg c14] at H
    exact absurd H (by simp)

/-- THE ONE PURE STATEMENT of thermionlaw02_CurveWithin: yours. -/
def thermionlaw02_CurveWithin.Pure : Prop := ∀ (l0 : List Int) (a1 : Int) (a2 : Int) (a3 : Bool), l0.length ≤ maxLen → l0.length * 8 ≤ 140737488351232 → (∀ x ∈ l0, (Lit.int .i64 x).wf = true) → (Lit.int .i64 a1).wf = true → (Lit.int .i64 a2).wf = true → ∃ k, thermionlaw02_CurveWithin.f k l0 a1 a2 a3 = some true
theorem thermionlaw02_CurveWithin.walk (P : thermionlaw02_CurveWithin.Pure) (a0 : Option Addr) (len0 cap0 : Nat) (z0 : List Int) (a1 : Int) (a2 : Int) (a3 : Bool) (w : World) (w0 : (a0 = none ∧ len0 = 0 ∧ cap0 = 0 ∧ z0 = []) ∨ ∃ x, a0 = some x ∧ len0 ≤ cap0 ∧ cap0 ≤ maxLen ∧ z0.length = cap0 ∧ (∀ i, i < z0.length → w.cell? (x.add i) = some (.int .i64 (z0.getD i 0))) ∧ ∀ n ∈ z0, (Lit.int .i64 n).wf = true) (y0 : len0 * 8 ≤ 140737488351232) (w1 : (Lit.int .i64 a1).wf = true) (w2 : (Lit.int .i64 a2).wf = true) :
    Calls Try.prog 5 #[.slice a0 len0 cap0, .int .i64 a1, .int .i64 a2, .bool a3] w fun e w' => e = .returned (.bool true) ∧ Below w.heap.size w w' := by
  obtain ⟨l0, rfl, hr0, hm0, hw0, hc0⟩ := ReadsInt.ofRowC w0
  obtain ⟨k, h⟩ := P l0 a1 a2 a3 hm0 y0 hw0 w1 w2
  refine (thermionlaw02_CurveWithin.calls k _ _ l0 a1 a2 a3 true w (Kd.C_of_reads (d := (0 : Int)) (h1 := fun _ => rfl) hr0) hc0 h).mono ?_
  rintro e w' ⟨rfl, hd⟩
  exact ⟨rfl, hd⟩

end Go.Proofs.Ytbomgfbfnkfamaa.PAll
end
section
set_option linter.unusedVariables false
namespace Go.Proofs.Ytbomgfbfnkfamaa.Mp
open Go.RowKit Go.Proofs.YtbomgfbfnkfamaaW.PrintWords

theorem wrap64_id {x : Int} (h0 : -9223372036854775808 ≤ x) (h1 : x ≤ 9223372036854775807) : wrap64 x = x := by
  unfold wrap64; omega

/-- r is the root of x, rounded down. -/
def IsRoot (r x : Int) : Prop := 0 ≤ r ∧ r * r ≤ x ∧ x < (r + 1) * (r + 1)

theorem sq_lt {a b : Int} (h0 : 0 ≤ a) (h : a < b) : a * a < b * b := by
  have h1 : a * a ≤ a * b := Int.mul_le_mul_of_nonneg_left (by omega) h0
  have h2 : a * b < b * b := Int.mul_lt_mul_of_pos_right h (by omega)
  omega
theorem sq_le {a b : Int} (h0 : 0 ≤ a) (h : a ≤ b) : a * a ≤ b * b := by
  have h1 : a * a ≤ a * b := Int.mul_le_mul_of_nonneg_left h h0
  have h2 : a * b ≤ b * b := Int.mul_le_mul_of_nonneg_right h (by omega)
  omega
theorem lt_of_sq {a b : Int} (h0 : 0 ≤ b) (h : a * a < b * b) : a < b := by
  by_cases h1 : a < b
  · exact h1
  · have := sq_le h0 (Int.not_lt.1 h1); omega
theorem root_unique {r s x : Int} (hr : IsRoot r x) (hs : IsRoot s x) : r = s := by
  obtain ⟨r0, r1, r2⟩ := hr
  obtain ⟨s0, s1, s2⟩ := hs
  have a : r < s + 1 := lt_of_sq (by omega) (by omega)
  have b : s < r + 1 := lt_of_sq (by omega) (by omega)
  omega
theorem root_mono {r s x y : Int} (hr : IsRoot r x) (hs : IsRoot s y) (h : x ≤ y) : r ≤ s := by
  obtain ⟨r0, r1, r2⟩ := hr
  obtain ⟨s0, s1, s2⟩ := hs
  have a : r < s + 1 := lt_of_sq (by omega) (by omega)
  omega

/-- A step of Newton's from above. -/
theorem newton_above {x r : Int} (hr : 0 < r) (hx : 0 ≤ x) : x < ((r + x / r) / 2 + 1) * ((r + x / r) / 2 + 1) := by
  have hq : x < (x / r + 1) * r := Int.lt_ediv_add_one_mul_self x hr
  generalize x / r = q at *
  have hn : r + q ≤ 2 * ((r + q) / 2) + 1 := by omega
  generalize (r + q) / 2 = n at *
  have h1 : (q + 1) * r ≤ (2 * n + 2 - r) * r := Int.mul_le_mul_of_nonneg_right (by omega) (by omega)
  have h2 : 0 ≤ (n + 1 - r) * (n + 1 - r) := by
    rcases Int.le_total 0 (n + 1 - r) with h | h
    · exact Int.mul_nonneg h h
    · exact Int.mul_nonneg_of_nonpos_of_nonpos h h
  have h3 : (n + 1) * (n + 1) - (2 * n + 2 - r) * r = (n + 1 - r) * (n + 1 - r) := by grind
  omega
theorem newton_ends {x r : Int} (hr : 0 < r) (h : r ≤ (r + x / r) / 2) : r * r ≤ x := by
  have h1 : r ≤ x / r := by omega
  have h2 : r * r ≤ (x / r) * r := Int.mul_le_mul_of_nonneg_right h1 (by omega)
  have h3 : (x / r) * r ≤ x := Int.ediv_mul_le x (by omega)
  omega
/-- Rounded up. -/
def up (n d : Int) : Int := -((-n) / d)
theorem up_ge (n : Int) {d : Int} (hd : 0 < d) : n ≤ up n d * d := by
  have := Int.ediv_mul_le (-n) (Int.ne_of_gt hd)
  unfold up
  rw [Int.neg_mul]; omega
theorem up_lt (n : Int) {d : Int} (hd : 0 < d) : (up n d - 1) * d < n := by
  have := Int.lt_ediv_add_one_mul_self (-n) hd
  unfold up
  have h : (-((-n) / d) - 1) * d = -(((-n) / d + 1) * d) := by rw [← Int.neg_mul]; congr 1; omega
  rw [h]; omega
theorem down_le_up (n : Int) {d : Int} (hd : 0 < d) : n / d ≤ up n d := by
  have h1 := Int.ediv_mul_le n (Int.ne_of_gt hd)
  have h2 := up_ge n hd
  exact Int.le_of_mul_le_mul_right (by omega) hd
theorem le_down {a n d : Int} (hd : 0 < d) : a ≤ n / d ↔ a * d ≤ n := Int.le_ediv_iff_mul_le hd
theorem up_le {a n d : Int} (hd : 0 < d) : up n d ≤ a ↔ n ≤ a * d := by
  unfold up
  have : -a ≤ (-n) / d ↔ (-a) * d ≤ -n := Int.le_ediv_iff_mul_le hd
  rw [Int.neg_mul] at this
  omega
theorem down_mono {a b d : Int} (hd : 0 < d) (h : a ≤ b) : a / d ≤ b / d := Int.ediv_le_ediv hd h
theorem up_mono {a b d : Int} (hd : 0 < d) (h : a ≤ b) : up a d ≤ up b d := by
  unfold up
  have := Int.ediv_le_ediv hd (show -b ≤ -a by omega)
  omega
theorem down_frac {a b c d : Int} (hb : 0 < b) (hd : 0 < d) (h : a * d ≤ c * b) : a / b ≤ c / d := by
  rw [le_down hd]
  have h1 := Int.ediv_mul_le a (Int.ne_of_gt hb)
  have h2 : (a / b * d) * b ≤ c * b := by
    have h3 : (a / b * b) * d ≤ a * d := Int.mul_le_mul_of_nonneg_right h1 (by omega)
    have h4 : (a / b * d) * b = (a / b * b) * d := by rw [Int.mul_assoc, Int.mul_comm d b, ← Int.mul_assoc]
    omega
  exact Int.le_of_mul_le_mul_right h2 hb
theorem up_frac {a b c d : Int} (hb : 0 < b) (hd : 0 < d) (h : a * d ≤ c * b) : up a b ≤ up c d := by
  have := down_frac (a := -c) (b := d) (c := -a) (d := b) hd hb (by rw [Int.neg_mul, Int.neg_mul]; omega)
  unfold up
  omega
/-- Go's division of a number by one above 0, put right downwards. -/
theorem tdiv_floor {n d : Int} (hd : 0 < d) : n / d = if (n.tdiv d) * d > n then n.tdiv d - 1 else n.tdiv d := by
  have h1 := Int.mul_tdiv_add_tmod n d
  have h2 := Int.tmod_lt_of_pos n hd
  have h3 : -d < n.tmod d := by
    have := Int.tmod_lt_of_pos (-n) hd
    rw [Int.neg_tmod] at this; omega
  generalize n.tdiv d = q at *
  generalize n.tmod d = r at *
  rw [Int.mul_comm] at h1
  have key : ∀ p, p * d ≤ n → n < (p + 1) * d → n / d = p := fun p ha hb => by
    have c1 : p ≤ n / d := (le_down hd).2 ha
    have c2 : n / d < p + 1 := Int.ediv_lt_of_lt_mul hd hb
    omega
  split
  · apply key
    · rw [Int.sub_mul]; omega
    · rw [Int.sub_add_cancel]; omega
  · apply key
    · omega
    · rw [Int.add_mul]; omega
theorem tdiv_bounds {n d : Int} (hd : 0 < d) {m : Int} (h0 : -m ≤ n) (h1 : n ≤ m) : -m ≤ n.tdiv d ∧ n.tdiv d ≤ m := by
  by_cases h : 0 ≤ n
  · rw [Int.tdiv_eq_ediv_of_nonneg h]
    have a := Int.ediv_nonneg h (Int.le_of_lt hd)
    have b := Int.ediv_le_self d h
    omega
  · have e : n.tdiv d = -((-n).tdiv d) := by rw [Int.neg_tdiv]; omega
    rw [e, Int.tdiv_eq_ediv_of_nonneg (by omega)]
    have a := Int.ediv_nonneg (show 0 ≤ -n by omega) (Int.le_of_lt hd)
    have b := Int.ediv_le_self (a := -n) d (by omega)
    omega
theorem tdiv_mul_bounds {n d : Int} (hd : 0 < d) {m : Int} (h0 : -m ≤ n) (h1 : n ≤ m) : -m ≤ n.tdiv d * d ∧ n.tdiv d * d ≤ m := by
  by_cases h : 0 ≤ n
  · rw [Int.tdiv_eq_ediv_of_nonneg h]
    have a := Int.mul_nonneg (Int.ediv_nonneg h (Int.le_of_lt hd)) (Int.le_of_lt hd)
    have b := Int.ediv_mul_le n (Int.ne_of_gt hd)
    omega
  · have e : n.tdiv d = -((-n).tdiv d) := by rw [Int.neg_tdiv]; omega
    rw [e, Int.tdiv_eq_ediv_of_nonneg (by omega), Int.neg_mul]
    have a := Int.mul_nonneg (Int.ediv_nonneg (show 0 ≤ -n by omega) (Int.le_of_lt hd)) (Int.le_of_lt hd)
    have b := Int.ediv_mul_le (-n) (Int.ne_of_gt hd)
    omega
end Go.Proofs.Ytbomgfbfnkfamaa.Mp
end
section
set_option linter.unusedVariables false
namespace Go.Proofs.Ytbomgfbfnkfamaa.Mp
open Go.RowKit Go.Proofs.YtbomgfbfnkfamaaW.PrintWords Go.Proofs.YtbomgfbfnkfamaaW.PrintMore Go.Proofs.Ytbomgfbfnkfamaa.PAll

theorem floor_f {n d : Int} (hd : 0 < d) (h0 : -9000000000000000000 ≤ n) (h1 : n ≤ 9000000000000000000) : curve_floor.f n d = some (n / d) := by
  have a := tdiv_bounds hd h0 h1
  have b := tdiv_mul_bounds hd h0 h1
  unfold curve_floor.f
  rw [if_neg (by omega), wrap64_id (x := Int.tdiv n d) (by omega) (by omega), wrap64_id (x := Int.tdiv n d * d) (by omega) (by omega), tdiv_floor hd, wrap64_id (by omega) (by omega)]
  split <;> rfl
theorem ceil_f {n d : Int} (hd : 0 < d) (h0 : -9000000000000000000 ≤ n) (h1 : n ≤ 9000000000000000000) : curve_ceil.f n d = some (up n d) := by
  have a := tdiv_bounds hd h0 h1
  have b := tdiv_mul_bounds hd h0 h1
  have e := tdiv_floor (n := -n) hd
  rw [Int.neg_tdiv, Int.neg_mul] at e
  unfold curve_ceil.f up
  rw [if_neg (by omega), wrap64_id (x := Int.tdiv n d) (by omega) (by omega), wrap64_id (x := Int.tdiv n d * d) (by omega) (by omega), e, wrap64_id (by omega) (by omega)]
  by_cases h : Int.tdiv n d * d < n
  · rw [if_pos h, if_pos (by omega)]; congr 1; omega
  · rw [if_neg h, if_neg (by omega)]; congr 1; omega
/-- A drive within its bounds. -/
def clamp (n : Int) : Int := if n < 0 then 0 else if 1000000 < n then 1000000 else n
theorem clamp_bounds (n : Int) : 0 ≤ clamp n ∧ clamp n ≤ 1000000 := by unfold clamp; split <;> (try split) <;> omega
theorem clamp_mono {a b : Int} (h : a ≤ b) : clamp a ≤ clamp b := by unfold clamp; split <;> split <;> (try split) <;> (try split) <;> omega
theorem brought_f (n : Int) : curve_brought.f n = some (clamp n) := by
  unfold curve_brought.f mx mn clamp; congr 1
  split <;> split <;> (try split) <;> (try split) <;> omega

/-- A law of right numbers. -/
structure LawOk (p0 p1 g0 g1 s0 s1 f0 f1 q0 q1 : Int) : Prop where
  p : 0 ≤ p0 ∧ p0 ≤ p1 ∧ p1 ≤ 1000000
  g : 1 ≤ g0 ∧ g0 ≤ g1 ∧ g1 ≤ 1000000
  s : -1000000 ≤ s0 ∧ s0 ≤ s1 ∧ s1 ≤ 1000000
  f : 0 ≤ f0 ∧ f0 ≤ f1 ∧ f1 ≤ 1000000
  q : 0 ≤ q0 ∧ q0 ≤ q1 ∧ q1 ≤ 1000000
def Volts (grid plate : Int) : Prop := -1000000 ≤ grid ∧ grid ≤ 1000000 ∧ 0 ≤ plate ∧ plate ≤ 1000000
def dLo (g1 s0 grid plate : Int) : Int := clamp (grid + s0 + 1000 * plate / g1)
def dHi (g0 s1 grid plate : Int) : Int := clamp (grid + s1 + up (1000 * plate) g0)
theorem quot_bounds {plate g : Int} (hg : 1 ≤ g) (h0 : 0 ≤ plate) (h1 : plate ≤ 1000000) : 0 ≤ 1000 * plate / g ∧ 1000 * plate / g ≤ 1000000000 ∧ 0 ≤ up (1000 * plate) g ∧ up (1000 * plate) g ≤ 1000000000 := by
  have a := Int.ediv_nonneg (show 0 ≤ 1000 * plate by omega) (show 0 ≤ g by omega)
  have b := Int.ediv_le_self (a := 1000 * plate) g (by omega)
  have c := down_le_up (1000 * plate) (show 0 < g by omega)
  have d : up (1000 * plate) g ≤ 1000 * plate := (up_le (show 0 < g by omega)).2 (by
    have := Int.mul_le_mul_of_nonneg_left hg (show 0 ≤ 1000 * plate by omega); omega)
  omega
theorem drive_f {p0 p1 g0 g1 s0 s1 f0 f1 q0 q1 grid plate : Int} (h : LawOk p0 p1 g0 g1 s0 s1 f0 f1 q0 q1) (hv : Volts grid plate) :
    curve_drive.f p0 p1 g0 g1 s0 s1 f0 f1 q0 q1 grid plate = some (dLo g1 s0 grid plate, dHi g0 s1 grid plate) := by
  obtain ⟨h1, h2, h3, h4⟩ := hv
  obtain ⟨_, hg, hs, _, _⟩ := h
  have b1 := quot_bounds (g := g1) (by omega) h3 h4
  have b0 := quot_bounds (g := g0) (by omega) h3 h4
  unfold curve_drive.f
  rw [wrap64_id (x := 1000 * plate) (by omega) (by omega), floor_f (by omega) (by omega) (by omega), ceil_f (by omega) (by omega) (by omega)]
  simp only [Option.bind_some, brought_f]
  rw [wrap64_id (x := grid + s0) (by omega) (by omega), wrap64_id (x := grid + s1) (by omega) (by omega), wrap64_id (by omega) (by omega), wrap64_id (by omega) (by omega)]
  rfl

/-! ### roots -/
theorem cube_bounds {n : Int} (h0 : 0 ≤ n) (h1 : n ≤ 1000000) : 0 ≤ n * n ∧ n * n ≤ 1000000000000 ∧ 0 ≤ n * n * n ∧ n * n * n ≤ 1000000000000000000 := by
  have a := Int.mul_nonneg h0 h0
  have b : n * n ≤ 1000000 * 1000000 := Int.mul_le_mul h1 h1 h0 (by omega)
  have c := Int.mul_nonneg a h0
  have d : n * n * n ≤ 1000000000000 * 1000000 := Int.mul_le_mul (by omega) h1 h0 (by omega)
  omega
theorem cube_mono {a b : Int} (h0 : 0 ≤ a) (h : a ≤ b) : a * a * a ≤ b * b * b :=
  Int.mul_le_mul (sq_le h0 h) h h0 (Int.mul_nonneg (by omega) (by omega))
theorem newton_loop (x : Int) (hx : 0 < x) (hx1 : x ≤ 1000000000000000000) (d : Nat) : ∀ (r : Int), 0 < r → r ≤ 4294967296 → r.toNat ≤ d → x < (r + 1) * (r + 1) →
    ∃ s, IsRoot s x ∧ ∀ k, d < k → curve_cubed.l0 k x r = some (s, decide (s * s = x)) := by
  induction d with
  | zero => intro r h0 _ h; omega
  | succ d ih =>
    intro r h0 h1 hd hr
    have hq := Int.ediv_nonneg (show 0 ≤ x by omega) (show 0 ≤ r by omega)
    have hq1 := Int.ediv_le_self (a := x) r (by omega)
    have e1 : Int.tdiv x r = x / r := Int.tdiv_eq_ediv_of_nonneg (by omega)
    have e2 : wrap64 (x / r) = x / r := wrap64_id (by omega) (by omega)
    have e3 : wrap64 (r + x / r) = r + x / r := wrap64_id (by omega) (by omega)
    have e4 : Int.tdiv (r + x / r) 2 = (r + x / r) / 2 := Int.tdiv_eq_ediv_of_nonneg (by omega)
    have e5 : wrap64 ((r + x / r) / 2) = (r + x / r) / 2 := wrap64_id (by omega) (by omega)
    have hn := newton_above h0 (show 0 ≤ x by omega)
    by_cases hge : r ≤ (r + x / r) / 2
    · have hrr := newton_ends h0 hge
      refine ⟨r, ⟨by omega, hrr, hr⟩, fun k hk => ?_⟩
      obtain ⟨k, rfl⟩ : ∃ m, k = m + 1 := ⟨k - 1, by omega⟩
      simp only [curve_cubed.l0]
      rw [if_neg (by omega), e1, e2, e3, e4, e5, if_pos hge, wrap64_id (x := r * r) (by have := Int.mul_nonneg (show 0 ≤ r by omega) (show 0 ≤ r by omega); omega) (by omega)]
      congr 2
    · have hpos : 0 < (r + x / r) / 2 := by
        by_cases hz : 0 < (r + x / r) / 2
        · exact hz
        · have hz' : (r + x / r) / 2 = 0 := by omega
          rw [hz'] at hn; omega
      obtain ⟨s, hs, hk⟩ := ih ((r + x / r) / 2) hpos (by omega) (by omega) hn
      refine ⟨s, hs, fun k hk' => ?_⟩
      obtain ⟨k, rfl⟩ : ∃ m, k = m + 1 := ⟨k - 1, by omega⟩
      simp only [curve_cubed.l0]
      rw [if_neg (by omega), e1, e2, e3, e4, e5, if_neg (by omega)]
      exact hk k (by omega)

/-! ### how many binary digits a number has -/
theorem pow_shift (a : Nat) (t : Int) (h : 0 ≤ t) : (2 : Int) ^ (t + (a : Int)).toNat = 2 ^ a * 2 ^ t.toNat := by
  rw [show (t + (a : Int)).toNat = a + t.toNat by omega, Int.pow_add]
theorem len32_ok {x n : Int} (h0 : 0 ≤ x) (h1 : x < 4294967296) : ∃ r, len32 x n = n + r ∧ 0 ≤ r ∧ r ≤ 32 ∧ x < 2 ^ r.toNat := by
  unfold len32
  by_cases c1 : 65536 ≤ x
  · rw [if_pos c1]
    by_cases c2 : 256 ≤ x / 65536
    · obtain ⟨b1, b2, b3⟩ := lt8_at (v := x / 65536 / 256) (by omega) (by omega)
      rw [if_pos c2]
      generalize lt8 (x / 65536 / 256) = t at *
      refine ⟨t + 24, by omega, by omega, by omega, ?_⟩
      rw [show t + 24 = t + ((24 : Nat) : Int) by omega, pow_shift 24 t b2]
      generalize (2 : Int) ^ t.toNat = P at *; omega
    · obtain ⟨b1, b2, b3⟩ := lt8_at (v := x / 65536) (by omega) (by omega)
      rw [if_neg c2]
      generalize lt8 (x / 65536) = t at *
      refine ⟨t + 16, by omega, by omega, by omega, ?_⟩
      rw [show t + 16 = t + ((16 : Nat) : Int) by omega, pow_shift 16 t b2]
      generalize (2 : Int) ^ t.toNat = P at *; omega
  · rw [if_neg c1]
    by_cases c2 : 256 ≤ x
    · obtain ⟨b1, b2, b3⟩ := lt8_at (v := x / 256) (by omega) (by omega)
      rw [if_pos c2]
      generalize lt8 (x / 256) = t at *
      refine ⟨t + 8, by omega, by omega, by omega, ?_⟩
      rw [show t + 8 = t + ((8 : Nat) : Int) by omega, pow_shift 8 t b2]
      generalize (2 : Int) ^ t.toNat = P at *; omega
    · obtain ⟨b1, b2, b3⟩ := lt8_at (v := x) (by omega) (by omega)
      rw [if_neg c2]
      exact ⟨lt8 x, rfl, by omega, by omega, b3⟩
theorem len_f {x : Int} (h0 : 0 ≤ x) (h1 : x < 18446744073709551616) : ∃ r, bits_Len.f x = some r ∧ 0 ≤ r ∧ r ≤ 64 ∧ x < 2 ^ r.toNat := by
  unfold bits_Len.f bits_Len64.f
  rw [if_pos ⟨h0, h1⟩]
  by_cases c : 4294967296 ≤ x
  · obtain ⟨r, e, b0, b1, b2⟩ := len32_ok (x := x / 4294967296) (n := 32) (by omega) (by omega)
    rw [if_pos c, e]
    refine ⟨32 + r, rfl, by omega, by omega, ?_⟩
    rw [show 32 + r = r + ((32 : Nat) : Int) by omega, pow_shift 32 r b0]
    generalize (2 : Int) ^ r.toNat = P at *; omega
  · obtain ⟨r, e, b0, b1, b2⟩ := len32_ok (x := x) (n := 0) h0 (by omega)
    rw [if_neg c, e]
    exact ⟨0 + r, rfl, by omega, by omega, by rw [Int.zero_add]; exact b2⟩
/-- The root of a cube, rounded down, and whether it is exact. -/
theorem cubed_f {n : Int} (h0 : 0 ≤ n) (h1 : n ≤ 1000000) : ∃ r, IsRoot r (n * n * n) ∧ ∃ K, ∀ k, K ≤ k → curve_cubed.f k n = some (r, decide (r * r = n * n * n)) := by
  obtain ⟨b1, b2, b3, b4⟩ := cube_bounds h0 h1
  have e1 : wrap64 (n * n) = n * n := wrap64_id (by omega) (by omega)
  have e2 : wrap64 (n * n * n) = n * n * n := wrap64_id (by omega) (by omega)
  by_cases hz : n * n * n = 0
  · exact ⟨0, ⟨by omega, by omega, by omega⟩, 0, fun k _ => by unfold curve_cubed.f; rw [e1, e2, if_pos hz, hz]; rfl⟩
  · have hu : IntKind.u64.wrap (n * n * n) = n * n * n := by rw [IntKind.wrap_u64]; omega
    obtain ⟨t, ht, t0, t1, t2⟩ := len_f (x := n * n * n) b3 (by omega)
    have m1 : wrap64 (Int.tdiv (wrap64 (t + 1)) 2) = (t + 1) / 2 := by
      rw [wrap64_id (x := t + 1) (by omega) (by omega), Int.tdiv_eq_ediv_of_nonneg (by omega), wrap64_id (by omega) (by omega)]
    obtain ⟨m, hm⟩ : ∃ m : Nat, ((m : Nat) : Int) = (t + 1) / 2 := ⟨((t + 1) / 2).toNat, by omega⟩
    have hm32 : m ≤ 32 := by omega
    have hP : (2 : Int) ^ m ≤ 4294967296 := by
      have := Nat.pow_le_pow_right (show 0 < 2 by omega) hm32
      have h2 : ((2 ^ m : Nat) : Int) ≤ ((2 ^ 32 : Nat) : Int) := Int.ofNat_le.2 this
      simpa using h2
    have hP0 : 0 < (2 : Int) ^ m := Int.pow_pos (by omega)
    have hs : shl .i64 1 ((t + 1) / 2) = 2 ^ m := by
      unfold shl
      rw [← hm, Int.one_mul, show min (((m : Nat) : Int)).toNat (IntKind.i64).bits = m by simp [IntKind.bits]; omega, IntKind.wrap_i64]
      omega
    have hx : n * n * n < ((2 : Int) ^ m + 1) * (2 ^ m + 1) := by
      have h1 : (2 : Int) ^ t.toNat ≤ 2 ^ (m + m) := by
        have := Nat.pow_le_pow_right (show 0 < 2 by omega) (show t.toNat ≤ m + m by omega)
        have h2 : ((2 ^ t.toNat : Nat) : Int) ≤ ((2 ^ (m + m) : Nat) : Int) := Int.ofNat_le.2 this
        simpa using h2
      rw [Int.pow_add] at h1
      generalize (2 : Int) ^ m = P at *
      have h3 : (P + 1) * (P + 1) = P * P + 2 * P + 1 := by grind
      omega
    obtain ⟨s, hs1, hs2⟩ := newton_loop (n * n * n) (by omega) b4 (2 ^ m : Int).toNat (2 ^ m) hP0 hP (Nat.le_refl _) hx
    refine ⟨s, hs1, (2 ^ m : Int).toNat + 1, fun k hk => ?_⟩
    obtain ⟨k, rfl⟩ : ∃ j, k = j + 1 := ⟨k - 1, by omega⟩
    unfold curve_cubed.f
    rw [e1, e2, if_neg hz, hu, ht]
    simp only [Option.bind_some]
    rw [m1, if_pos (by omega), hs]
    exact hs2 (k + 1) (by omega)

open Classical in
/-- The root, rounded down (of a number that has one). -/
noncomputable def rt (x : Int) : Int := if h : ∃ r, IsRoot r x then Classical.choose h else 0
theorem rt_eq {r x : Int} (h : IsRoot r x) : rt x = r := by
  have hx : ∃ r, IsRoot r x := ⟨r, h⟩
  unfold rt
  rw [dif_pos hx]
  exact root_unique (Classical.choose_spec hx) h
theorem rt_is {n : Int} (h0 : 0 ≤ n) (h1 : n ≤ 1000000) : IsRoot (rt (n * n * n)) (n * n * n) := by
  obtain ⟨r, hr, _⟩ := cubed_f h0 h1
  rw [rt_eq hr]; exact hr
/-- .. rounded up. -/
noncomputable def rtUp (x : Int) : Int := if rt x * rt x = x then rt x else rt x + 1
theorem rt_le {n : Int} (h0 : 0 ≤ n) (h1 : n ≤ 1000000) : 0 ≤ rt (n * n * n) ∧ rt (n * n * n) ≤ 1000000000 := by
  obtain ⟨a, b, c⟩ := rt_is h0 h1
  have hc := (cube_bounds h0 h1).2.2.2
  refine ⟨a, ?_⟩
  have := lt_of_sq (a := rt (n * n * n)) (b := 1000000001) (by omega) (by omega)
  omega
theorem rtUp_bounds {n : Int} (h0 : 0 ≤ n) (h1 : n ≤ 1000000) : rt (n * n * n) ≤ rtUp (n * n * n) ∧ rtUp (n * n * n) ≤ rt (n * n * n) + 1 ∧ n * n * n ≤ rtUp (n * n * n) * rtUp (n * n * n) ∧ rtUp (n * n * n) ≤ 1000000000 := by
  obtain ⟨a, b, c⟩ := rt_is h0 h1
  have hl := rt_le h0 h1
  have hc := (cube_bounds h0 h1).2.2.2
  unfold rtUp
  split
  · rename_i h; exact ⟨by omega, by omega, by omega, hl.2⟩
  · rename_i h
    refine ⟨by omega, by omega, by omega, ?_⟩
    generalize rt (n * n * n) = r at *
    have : r * r < 1000000000 * 1000000000 := by omega
    have := lt_of_sq (a := r) (b := 1000000000) (by omega) this
    omega
theorem rt_mono {a b : Int} (h0 : 0 ≤ a) (h : a ≤ b) (h1 : b ≤ 1000000) : rt (a * a * a) ≤ rt (b * b * b) :=
  root_mono (rt_is h0 (by omega)) (rt_is (by omega) h1) (cube_mono h0 h)
theorem rtUp_mono {a b : Int} (h0 : 0 ≤ a) (h : a ≤ b) (h1 : b ≤ 1000000) : rtUp (a * a * a) ≤ rtUp (b * b * b) := by
  have hm := rt_mono h0 h h1
  have hc := cube_mono h0 h
  obtain ⟨a1, a2, a3⟩ := rt_is h0 (show a ≤ 1000000 by omega)
  obtain ⟨b1, b2, b3⟩ := rt_is (show 0 ≤ b by omega) h1
  unfold rtUp
  generalize rt (a * a * a) = r at *
  generalize rt (b * b * b) = s at *
  split
  · split <;> omega
  · rename_i hne
    split
    · rename_i he
      by_cases hrs : r = s
      · subst hrs; omega
      · omega
    · omega
theorem cubedUp_f {n : Int} (h0 : 0 ≤ n) (h1 : n ≤ 1000000) : ∃ K, ∀ k, K ≤ k → curve_cubed.f k n = some (rt (n * n * n), decide (rt (n * n * n) * rt (n * n * n) = n * n * n)) := by
  obtain ⟨r, hr, hk⟩ := cubed_f h0 h1
  rw [rt_eq hr]; exact hk
/-- The ends of a current, of the roots. -/
def endLo (p f q r : Int) : Int := q * mn (p * r / 1000000) f / 1000000
def endHi (p f q s : Int) : Int := up (q * mn (up (p * s) 1000000) f) 1000000
noncomputable def cLo (p0 g1 s0 f0 q0 grid plate : Int) : Int := endLo p0 f0 q0 (rt (dLo g1 s0 grid plate * dLo g1 s0 grid plate * dLo g1 s0 grid plate))
noncomputable def cHi (p1 g0 s1 f1 q1 grid plate : Int) : Int := endHi p1 f1 q1 (rtUp (dHi g0 s1 grid plate * dHi g0 s1 grid plate * dHi g0 s1 grid plate))
theorem mul_bounds {a b m n : Int} (ha0 : 0 ≤ a) (ha : a ≤ m) (hb0 : 0 ≤ b) (hb : b ≤ n) : 0 ≤ a * b ∧ a * b ≤ m * n :=
  ⟨Int.mul_nonneg ha0 hb0, Int.mul_le_mul ha hb hb0 (by omega)⟩
theorem mn_bounds {a b n : Int} (ha : 0 ≤ a) (hb : 0 ≤ b) (hn : b ≤ n) : 0 ≤ mn a b ∧ mn a b ≤ n := by unfold mn; split <;> omega
theorem mn_mono {a b c d : Int} (h : a ≤ c) (k : b ≤ d) : mn a b ≤ mn c d := by unfold mn; split <;> split <;> omega
theorem endLo_bounds {p f q r : Int} (hp0 : 0 ≤ p) (hp : p ≤ 1000000) (hf0 : 0 ≤ f) (hf : f ≤ 1000000) (hq0 : 0 ≤ q) (hq : q ≤ 1000000) (hr0 : 0 ≤ r) (hr : r ≤ 1000000000) :
    0 ≤ p * r ∧ p * r ≤ 1000000000000000 ∧ 0 ≤ mn (p * r / 1000000) f ∧ mn (p * r / 1000000) f ≤ 1000000 ∧ 0 ≤ q * mn (p * r / 1000000) f ∧ q * mn (p * r / 1000000) f ≤ 1000000000000 ∧ 0 ≤ endLo p f q r ∧ endLo p f q r ≤ 1000000 := by
  have a := mul_bounds hp0 hp hr0 hr
  have b := mn_bounds (a := p * r / 1000000) (b := f) (n := 1000000) (Int.ediv_nonneg a.1 (by omega)) hf0 hf
  have c := mul_bounds hq0 hq b.1 b.2
  unfold endLo
  refine ⟨a.1, by omega, b.1, b.2, c.1, by omega, by omega, by omega⟩
theorem endHi_bounds {p f q r : Int} (hp0 : 0 ≤ p) (hp : p ≤ 1000000) (hf0 : 0 ≤ f) (hf : f ≤ 1000000) (hq0 : 0 ≤ q) (hq : q ≤ 1000000) (hr0 : 0 ≤ r) (hr : r ≤ 1000000000) :
    0 ≤ p * r ∧ p * r ≤ 1000000000000000 ∧ 0 ≤ mn (up (p * r) 1000000) f ∧ mn (up (p * r) 1000000) f ≤ 1000000 ∧ 0 ≤ q * mn (up (p * r) 1000000) f ∧ q * mn (up (p * r) 1000000) f ≤ 1000000000000 ∧ 0 ≤ endHi p f q r ∧ endHi p f q r ≤ 1000000 := by
  have a := mul_bounds hp0 hp hr0 hr
  have hu := down_le_up (p * r) (show (0 : Int) < 1000000 by omega)
  have b := mn_bounds (a := up (p * r) 1000000) (b := f) (n := 1000000) (by omega) hf0 hf
  have c := mul_bounds hq0 hq b.1 b.2
  have d := down_le_up (q * mn (up (p * r) 1000000) f) (show (0 : Int) < 1000000 by omega)
  have e := (up_le (a := 1000000) (n := q * mn (up (p * r) 1000000) f) (show (0 : Int) < 1000000 by omega)).2 (by omega)
  unfold endHi
  refine ⟨a.1, by omega, b.1, b.2, c.1, by omega, by omega, by omega⟩
theorem current_f {p0 p1 g0 g1 s0 s1 f0 f1 q0 q1 grid plate : Int} (h : LawOk p0 p1 g0 g1 s0 s1 f0 f1 q0 q1) (hv : Volts grid plate) :
    ∃ K, ∀ k, K ≤ k → curve_current.f k p0 p1 g0 g1 s0 s1 f0 f1 q0 q1 grid plate = some (cLo p0 g1 s0 f0 q0 grid plate, cHi p1 g0 s1 f1 q1 grid plate) := by
  obtain ⟨hp, hg, hs, hf, hq⟩ := h
  have bl := clamp_bounds (grid + s0 + 1000 * plate / g1)
  have bh := clamp_bounds (grid + s1 + up (1000 * plate) g0)
  obtain ⟨K1, hK1⟩ := cubedUp_f bl.1 bl.2
  obtain ⟨K2, hK2⟩ := cubedUp_f bh.1 bh.2
  have r1 := rt_le bl.1 bl.2
  have r2 := rtUp_bounds bh.1 bh.2
  have r3 := rt_le bh.1 bh.2
  refine ⟨K1 + K2 + 1, fun k hk => ?_⟩
  obtain ⟨k, rfl⟩ : ∃ j, k = j + 1 := ⟨k - 1, by omega⟩
  unfold curve_current.f
  rw [drive_f ⟨hp, hg, hs, hf, hq⟩ hv]
  simp only [Option.bind_some]
  unfold dLo dHi
  rw [hK1 (k + 1) (by omega), hK2 (k + 1) (by omega)]
  simp only [Option.bind_some]
  unfold cLo cHi dLo dHi
  generalize clamp (grid + s0 + 1000 * plate / g1) = a at *
  generalize clamp (grid + s1 + up (1000 * plate) g0) = b at *
  have L := endLo_bounds (p := p0) (f := f0) (q := q0) (by omega) (by omega) (by omega) (by omega) (by omega) (by omega) r1.1 r1.2
  have H := endHi_bounds (p := p1) (f := f1) (q := q1) (r := rtUp (b * b * b)) (by omega) (by omega) (by omega) (by omega) (by omega) (by omega) (by omega) (by omega)
  have key : ∀ s, s = rtUp (b * b * b) → curve_current.j0 (k + 1) (rt (a * a * a)) s p0 p1 g0 g1 s0 s1 f0 f1 q0 q1 = some (endLo p0 f0 q0 (rt (a * a * a)), endHi p1 f1 q1 (rtUp (b * b * b))) := by
    rintro s rfl
    simp only [curve_current.j0]
    rw [wrap64_id (x := p0 * rt (a * a * a)) (by omega) (by omega), wrap64_id (x := p1 * rtUp (b * b * b)) (by omega) (by omega), floor_f (by omega) (by omega) (by omega), ceil_f (by omega) (by omega) (by omega)]
    simp only [Option.bind_some]
    rw [wrap64_id (x := q0 * mn (p0 * rt (a * a * a) / 1000000) f0) (by omega) (by omega), wrap64_id (x := q1 * mn (up (p1 * rtUp (b * b * b)) 1000000) f1) (by omega) (by omega), floor_f (by omega) (by omega) (by omega), ceil_f (by omega) (by omega) (by omega)]
    rfl
  by_cases he : rt (b * b * b) * rt (b * b * b) = b * b * b
  · rw [if_pos (by simp [he])]
    exact key _ (by unfold rtUp; rw [if_pos he])
  · rw [if_neg (by simp [he])]
    exact key _ (by unfold rtUp; rw [if_neg he, wrap64_id (by omega) (by omega)])
end Go.Proofs.Ytbomgfbfnkfamaa.Mp
end
section
set_option linter.unusedVariables false
namespace Go.Proofs.Ytbomgfbfnkfamaa.Mp
open Go.RowKit Go.Proofs.YtbomgfbfnkfamaaW.PrintWords Go.Proofs.YtbomgfbfnkfamaaW.PrintMore Go.Proofs.Ytbomgfbfnkfamaa.PAll

theorem next_f (s : Int) : ∃ v s', thermionkit_Dice_next.f s = some (v, s') ∧ 0 ≤ v ∧ v ≤ 18446744073709551615 := by
  unfold thermionkit_Dice_next.f
  exact ⟨_, _, rfl, bounds_u64 (wf_bits _ _ _ _)⟩
theorem upto_f (s : Int) {n : Int} (h0 : 1 ≤ n) (h1 : n ≤ 9223372036854775807) : ∃ v s', thermionkit_Dice_Upto.f s n = some (v, s') ∧ 0 ≤ v ∧ v < n := by
  obtain ⟨v, s', e, a, b⟩ := next_f s
  unfold thermionkit_Dice_Upto.f
  rw [e]
  simp only [Option.bind_some]
  have hu : IntKind.u64.wrap n = n := by rw [IntKind.wrap_u64]; omega
  rw [if_neg (by omega), hu, if_neg (by omega)]
  have c := Int.tmod_lt_of_pos v (show 0 < n by omega)
  have d := Int.tmod_nonneg n a
  exact ⟨_, _, rfl, by rw [wrap64_id (by omega) (by omega)]; exact ⟨d, c⟩⟩
theorem between_f (s : Int) {lo hi : Int} (h : lo ≤ hi) (h0 : -4000000000000000000 ≤ lo) (h1 : hi ≤ 4000000000000000000) : ∃ v s', thermionkit_Dice_Between.f s lo hi = some (v, s') ∧ lo ≤ v ∧ v ≤ hi := by
  unfold thermionkit_Dice_Between.f
  rw [wrap64_id (x := hi - lo) (by omega) (by omega), wrap64_id (x := hi - lo + 1) (by omega) (by omega)]
  obtain ⟨v, s', e, a, b⟩ := upto_f s (n := hi - lo + 1) (by omega) (by omega)
  rw [e]
  exact ⟨_, _, rfl, by simp only []; rw [wrap64_id (by omega) (by omega)]; omega⟩
theorem one_f (s : Int) {n : Int} (h0 : 1 ≤ n) (h1 : n ≤ 9223372036854775807) : ∃ b s', thermionkit_Dice_One.f s n = some (b, s') := by
  obtain ⟨v, s', e, _⟩ := upto_f s h0 h1
  unfold thermionkit_Dice_One.f
  rw [e]
  exact ⟨_, _, rfl⟩
theorem range_f (s : Int) {lo hi : Int} (h : lo ≤ hi) (h0 : -4000000000000000000 ≤ lo) (h1 : hi ≤ 4000000000000000000) : ∃ a b s', thermionkit_Dice_Range.f s lo hi = some (a, b, s') ∧ lo ≤ a ∧ a ≤ b ∧ b ≤ hi := by
  obtain ⟨a, s1, e1, a1, a2⟩ := between_f s h h0 h1
  obtain ⟨b, s2, e2, b1, b2⟩ := between_f s1 h h0 h1
  unfold thermionkit_Dice_Range.f
  rw [e1]
  simp only [Option.bind_some]
  rw [e2]
  refine ⟨_, _, _, rfl, ?_, ?_, ?_⟩ <;> simp only [mn, mx] <;> (try split) <;> (try split) <;> omega
theorem newDice_f (l : List Int) : ∃ s, thermionkit_NewDice.f l = some s := by
  have key : ∀ (l : List Int) (s : Int), ∃ r, diceFold l s = some r := by
    intro l
    induction l with
    | nil => exact fun s => ⟨s, rfl⟩
    | cons x t ih =>
      intro s
      obtain ⟨v, s', e, _⟩ := next_f (Go.bits .xor .u64 s (IntKind.u64.wrap x))
      obtain ⟨r, hr⟩ := ih s'
      exact ⟨r, by rw [diceFold, e]; exact hr⟩
  exact key l _
end Go.Proofs.Ytbomgfbfnkfamaa.Mp
end
section
set_option linter.unusedVariables false
namespace Go.Proofs.Ytbomgfbfnkfamaa.Mp
open Go.RowKit Go.Proofs.YtbomgfbfnkfamaaW.PrintWords Go.Proofs.YtbomgfbfnkfamaaW.PrintMore Go.Proofs.Ytbomgfbfnkfamaa.PAll

theorem lawOf_j1 {p0 p1 g0 g1 s0 s1 : Int} (hp : 0 ≤ p0 ∧ p0 ≤ p1 ∧ p1 ≤ 1000000) (hg : 1 ≤ g0 ∧ g0 ≤ g1 ∧ g1 ≤ 1000000) (hs : -1000000 ≤ s0 ∧ s0 ≤ s1 ∧ s1 ≤ 1000000) (t f0 f1 q0 q1 : Int) (hf : 0 ≤ f0 ∧ f0 ≤ f1 ∧ f1 ≤ 1000000) (hq : 0 ≤ q0 ∧ q0 ≤ q1 ∧ q1 ≤ 1000000) :
    ∃ g0' g1' s', LawOk p0 p1 g0' g1' s0 s1 f0 f1 q0 q1 ∧ ∀ k, thermionkit_LawOf.j1 (k + 1) t p0 p1 g0 g1 s0 s1 f0 f1 q0 q1 = some (p0, p1, g0', g1', s0, s1, f0, f1, q0, q1, s') := by
  obtain ⟨b, t7, e7⟩ := one_f t (n := 8) (by omega) (by omega)
  cases b with
  | true =>
    obtain ⟨v, t8, e8, v1, v2⟩ := between_f t7 (lo := 1) (hi := 400) (by omega) (by omega) (by omega)
    exact ⟨1, v, t8, ⟨hp, ⟨by omega, v1, by omega⟩, hs, hf, hq⟩, fun k => by simp only [thermionkit_LawOf.j1, e7, Option.bind_some, if_true, e8]⟩
  | false => exact ⟨g0, g1, t7, ⟨hp, hg, hs, hf, hq⟩, fun k => by simp only [thermionkit_LawOf.j1, e7, Option.bind_some, Bool.false_eq_true, if_false]⟩
theorem j0_eq (k : Nat) (t p0 p1 g0 g1 s0 s1 f0 f1 q0 q1 : Int) : thermionkit_LawOf.j0 (k + 1) t p0 p1 g0 g1 s0 s1 f0 f1 q0 q1 = (thermionkit_Dice_One.f t 2).bind fun b => if b.1 = true then thermionkit_LawOf.j1 k b.2 p0 p1 g0 g1 s0 s1 f0 f1 1000000 1000000 else thermionkit_LawOf.j1 k b.2 p0 p1 g0 g1 s0 s1 f0 f1 q0 q1 := by
  rw [thermionkit_LawOf.j0]
theorem lawOf_j0 {p0 p1 g0 g1 s0 s1 : Int} (hp : 0 ≤ p0 ∧ p0 ≤ p1 ∧ p1 ≤ 1000000) (hg : 1 ≤ g0 ∧ g0 ≤ g1 ∧ g1 ≤ 1000000) (hs : -1000000 ≤ s0 ∧ s0 ≤ s1 ∧ s1 ≤ 1000000) (t f0 f1 q0 q1 : Int) (hf : 0 ≤ f0 ∧ f0 ≤ f1 ∧ f1 ≤ 1000000) (hq : 0 ≤ q0 ∧ q0 ≤ q1 ∧ q1 ≤ 1000000) :
    ∃ g0' g1' q0' q1' s', LawOk p0 p1 g0' g1' s0 s1 f0 f1 q0' q1' ∧ ∀ k, thermionkit_LawOf.j0 (k + 1 + 1) t p0 p1 g0 g1 s0 s1 f0 f1 q0 q1 = some (p0, p1, g0', g1', s0, s1, f0, f1, q0', q1', s') := by
  obtain ⟨b, t7, e7⟩ := one_f t (n := 2) (by omega) (by omega)
  cases b with
  | true =>
    obtain ⟨g0', g1', s', hl, hk⟩ := lawOf_j1 hp hg hs t7 f0 f1 1000000 1000000 hf ⟨by decide, by decide, by decide⟩
    exact ⟨g0', g1', 1000000, 1000000, s', hl, fun k => by rw [j0_eq, e7, Option.bind_some, if_pos rfl]; exact hk k⟩
  | false =>
    obtain ⟨g0', g1', s', hl, hk⟩ := lawOf_j1 hp hg hs t7 f0 f1 q0 q1 hf hq
    exact ⟨g0', g1', _, _, s', hl, fun k => by rw [j0_eq, e7, Option.bind_some, if_neg (by simp)]; exact hk k⟩
/-- A law with the next dice, of which all is as it should be. -/
theorem lawOf_f (s : Int) : ∃ p0 p1 g0 g1 s0 s1 f0 f1 q0 q1 s', LawOk p0 p1 g0 g1 s0 s1 f0 f1 q0 q1 ∧ ∀ k, 2 ≤ k → thermionkit_LawOf.f k s = some (p0, p1, g0, g1, s0, s1, f0, f1, q0, q1, s') := by
  obtain ⟨p0, p1, t1, e1, a⟩ := range_f s (lo := 1000) (hi := 90000) (by omega) (by omega) (by omega)
  obtain ⟨g0, g1, t2, e2, b⟩ := range_f t1 (lo := 5000) (hi := 60000) (by omega) (by omega) (by omega)
  obtain ⟨s0, s1, t3, e3, c⟩ := range_f t2 (lo := -800) (hi := 800) (by omega) (by omega) (by omega)
  obtain ⟨f0, f1, t4, e4, d⟩ := range_f t3 (lo := 2000) (hi := 60000) (by omega) (by omega) (by omega)
  obtain ⟨q0, q1, t5, e5, h⟩ := range_f t4 (lo := 500000) (hi := 1000000) (by omega) (by omega) (by omega)
  obtain ⟨o, t6, e6⟩ := one_f t5 (n := 3) (by omega) (by omega)
  have hp : 0 ≤ p0 ∧ p0 ≤ p1 ∧ p1 ≤ 1000000 := by omega
  have hg : 1 ≤ g0 ∧ g0 ≤ g1 ∧ g1 ≤ 1000000 := by omega
  have hs : -1000000 ≤ s0 ∧ s0 ≤ s1 ∧ s1 ≤ 1000000 := by omega
  have hf : 0 ≤ f0 ∧ f0 ≤ f1 ∧ f1 ≤ 1000000 := by omega
  have hq : 0 ≤ q0 ∧ q0 ≤ q1 ∧ q1 ≤ 1000000 := by omega
  cases o with
  | true =>
    obtain ⟨g0', g1', q0', q1', s', hl, hk⟩ := lawOf_j0 hp hg hs t6 1000000 1000000 q0 q1 ⟨by decide, by decide, by decide⟩ hq
    refine ⟨_, _, _, _, _, _, _, _, _, _, s', hl, fun k h => ?_⟩
    obtain ⟨k, rfl⟩ : ∃ j, k = j + 1 + 1 := ⟨k - 2, by omega⟩
    unfold thermionkit_LawOf.f
    rw [e1, Option.bind_some]
    dsimp only
    rw [e2, Option.bind_some]
    dsimp only
    rw [e3, Option.bind_some]
    dsimp only
    rw [e4, Option.bind_some]
    dsimp only
    rw [e5, Option.bind_some]
    dsimp only
    rw [e6, Option.bind_some, if_pos rfl]
    dsimp only
    exact hk k
  | false =>
    obtain ⟨g0', g1', q0', q1', s', hl, hk⟩ := lawOf_j0 hp hg hs t6 f0 f1 q0 q1 hf hq
    refine ⟨_, _, _, _, _, _, _, _, _, _, s', hl, fun k h => ?_⟩
    obtain ⟨k, rfl⟩ : ∃ j, k = j + 1 + 1 := ⟨k - 2, by omega⟩
    unfold thermionkit_LawOf.f
    rw [e1, Option.bind_some]
    dsimp only
    rw [e2, Option.bind_some]
    dsimp only
    rw [e3, Option.bind_some]
    dsimp only
    rw [e4, Option.bind_some]
    dsimp only
    rw [e5, Option.bind_some]
    dsimp only
    rw [e6, Option.bind_some, if_neg (by simp)]
    dsimp only
    exact hk k
theorem within_ok {a b lo hi : Int} (h1 : lo ≤ a) (h2 : a ≤ b) (h3 : b ≤ hi) : curve_within.f a b lo hi = some 0 := by
  unfold curve_within.f
  repeat (first | rw [if_neg (by omega)] | rw [if_pos (by omega)] | rfl)
theorem checkLaw_ok {p0 p1 g0 g1 s0 s1 f0 f1 q0 q1 : Int} (h : LawOk p0 p1 g0 g1 s0 s1 f0 f1 q0 q1) : curve_CheckLaw.f p0 p1 g0 g1 s0 s1 f0 f1 q0 q1 = some 0 := by
  obtain ⟨hp, hg, hs, hf, hq⟩ := h
  unfold curve_CheckLaw.f
  rw [within_ok (by omega) (by omega) (by omega), within_ok (by omega) (by omega) (by omega), within_ok (by omega) (by omega) (by omega), within_ok (by omega) (by omega) (by omega), within_ok (by omega) (by omega) (by omega)]
  rfl
theorem volts_ok {grid plate : Int} (h : Volts grid plate) : curve_voltages.f grid plate = some true := by
  obtain ⟨a, b, c, d⟩ := h
  unfold curve_voltages.f
  repeat (first | rw [if_pos (by omega)] | rw [if_neg (by omega)])
  simp; omega
/-- The current of a right law at right voltages. -/
theorem Current_f {p0 p1 g0 g1 s0 s1 f0 f1 q0 q1 grid plate : Int} (h : LawOk p0 p1 g0 g1 s0 s1 f0 f1 q0 q1) (hv : Volts grid plate) :
    ∃ K, ∀ k, K ≤ k → curve_Current.f k p0 p1 g0 g1 s0 s1 f0 f1 q0 q1 grid plate = some (cLo p0 g1 s0 f0 q0 grid plate, cHi p1 g0 s1 f1 q1 grid plate, 0) := by
  obtain ⟨K, hK⟩ := current_f h hv
  refine ⟨K, fun k hk => ?_⟩
  unfold curve_Current.f curve_asked.f
  rw [checkLaw_ok h]
  simp only [Option.bind_some, if_true]
  rw [volts_ok hv]
  simp only [Option.bind_some, if_true]
  rw [hK k hk]
  rfl
theorem mod_f (n : Int) {m : Int} (h0 : 1 ≤ m) (h1 : m ≤ 4000000000000000000) : ∃ r, thermionkit_Mod.f n m = some r ∧ 0 ≤ r ∧ r < m := by
  have c := Int.tmod_lt_of_pos n (show 0 < m by omega)
  have d : -m < Int.tmod n m := by
    have := Int.tmod_lt_of_pos (-n) (show 0 < m by omega)
    rw [Int.neg_tmod] at this; omega
  unfold thermionkit_Mod.f
  rw [if_neg (by omega), if_neg (by omega)]
  split
  · exact ⟨_, rfl, by rw [wrap64_id (by omega) (by omega)]; omega⟩
  · exact ⟨_, rfl, by omega⟩

/-! ### narrower laws, greater voltages -/
theorem dLo_mono {g1 s0 grid plate g1' s0' grid' plate' : Int} (hg : 1 ≤ g1') (hg' : g1' ≤ g1) (hs : s0 ≤ s0') (hgr : grid ≤ grid') (hp0 : 0 ≤ plate) (hp : plate ≤ plate') : dLo g1 s0 grid plate ≤ dLo g1' s0' grid' plate' := by
  unfold dLo
  apply clamp_mono
  have h : 1000 * plate / g1 ≤ 1000 * plate' / g1' := down_frac (by omega) (by omega) (by
    have a : 1000 * plate * g1' ≤ 1000 * plate * g1 := Int.mul_le_mul_of_nonneg_left hg' (by omega)
    have b : 1000 * plate * g1 ≤ 1000 * plate' * g1 := Int.mul_le_mul_of_nonneg_right (by omega) (by omega)
    omega)
  omega
theorem dHi_mono {g0 s1 grid plate g0' s1' grid' plate' : Int} (hg : 1 ≤ g0') (hg' : g0' ≤ g0) (hs : s1 ≤ s1') (hgr : grid ≤ grid') (hp0 : 0 ≤ plate) (hp : plate ≤ plate') : dHi g0 s1 grid plate ≤ dHi g0' s1' grid' plate' := by
  unfold dHi
  apply clamp_mono
  have h : up (1000 * plate) g0 ≤ up (1000 * plate') g0' := up_frac (by omega) (by omega) (by
    have a : 1000 * plate * g0' ≤ 1000 * plate * g0 := Int.mul_le_mul_of_nonneg_left hg' (by omega)
    have b : 1000 * plate * g0 ≤ 1000 * plate' * g0 := Int.mul_le_mul_of_nonneg_right (by omega) (by omega)
    omega)
  omega
theorem dLo_le_dHi {g0 g1 s0 s1 grid plate : Int} (hg : 1 ≤ g0) (hg' : g0 ≤ g1) (hs : s0 ≤ s1) (hp0 : 0 ≤ plate) : dLo g1 s0 grid plate ≤ dHi g0 s1 grid plate := by
  unfold dLo dHi
  apply clamp_mono
  have h : 1000 * plate / g1 ≤ 1000 * plate / g0 := down_frac (by omega) (by omega) (Int.mul_le_mul_of_nonneg_left hg' (by omega))
  have h2 := down_le_up (1000 * plate) (show 0 < g0 by omega)
  omega
theorem endLo_mono {p f q r p' f' q' r' : Int} (hp0 : 0 ≤ p) (hp : p ≤ p') (hf0 : 0 ≤ f) (hf : f ≤ f') (hq0 : 0 ≤ q) (hq : q ≤ q') (hr0 : 0 ≤ r) (hr : r ≤ r') : endLo p f q r ≤ endLo p' f' q' r' := by
  unfold endLo
  have a : p * r / 1000000 ≤ p' * r' / 1000000 := Int.ediv_le_ediv (by omega) (Int.mul_le_mul hp hr hr0 (by omega))
  have a0 := Int.ediv_nonneg (Int.mul_nonneg hp0 hr0) (show (0 : Int) ≤ 1000000 by omega)
  have b := mn_mono a hf
  have b0 := (mn_bounds (n := f) a0 hf0 (Int.le_refl _)).1
  exact Int.ediv_le_ediv (by omega) (Int.mul_le_mul hq b b0 (by omega))
theorem endHi_mono {p f q r p' f' q' r' : Int} (hp0 : 0 ≤ p) (hp : p ≤ p') (hf0 : 0 ≤ f) (hf : f ≤ f') (hq0 : 0 ≤ q) (hq : q ≤ q') (hr0 : 0 ≤ r) (hr : r ≤ r') : endHi p f q r ≤ endHi p' f' q' r' := by
  unfold endHi
  have a : up (p * r) 1000000 ≤ up (p' * r') 1000000 := up_mono (by omega) (Int.mul_le_mul hp hr hr0 (by omega))
  have h1 := down_le_up (p * r) (show (0 : Int) < 1000000 by omega)
  have a0 := Int.ediv_nonneg (Int.mul_nonneg hp0 hr0) (show (0 : Int) ≤ 1000000 by omega)
  have b := mn_mono a hf
  have b0 := (mn_bounds (a := up (p * r) 1000000) (n := f) (by omega) hf0 (Int.le_refl _)).1
  exact up_mono (by omega) (Int.mul_le_mul hq b b0 (by omega))
/-- The lower end rises with all numbers but the gain. -/
theorem cLo_mono {p0 g1 s0 f0 q0 grid plate p0' g1' s0' f0' q0' grid' plate' : Int} (hp0 : 0 ≤ p0) (hp : p0 ≤ p0') (hg : 1 ≤ g1') (hg' : g1' ≤ g1) (hs : s0 ≤ s0') (hf0 : 0 ≤ f0) (hf : f0 ≤ f0') (hq0 : 0 ≤ q0) (hq : q0 ≤ q0') (hgr : grid ≤ grid') (hpl0 : 0 ≤ plate) (hpl : plate ≤ plate') :
    cLo p0 g1 s0 f0 q0 grid plate ≤ cLo p0' g1' s0' f0' q0' grid' plate' := by
  unfold cLo
  have hd := dLo_mono hg hg' hs hgr hpl0 hpl
  have b := clamp_bounds (grid + s0 + 1000 * plate / g1)
  have b' := clamp_bounds (grid' + s0' + 1000 * plate' / g1')
  have hr := rt_mono (a := dLo g1 s0 grid plate) (b := dLo g1' s0' grid' plate') b.1 hd b'.2
  exact endLo_mono hp0 hp hf0 hf hq0 hq (rt_le b.1 b.2).1 hr
theorem cHi_mono {p1 g0 s1 f1 q1 grid plate p1' g0' s1' f1' q1' grid' plate' : Int} (hp0 : 0 ≤ p1) (hp : p1 ≤ p1') (hg : 1 ≤ g0') (hg' : g0' ≤ g0) (hs : s1 ≤ s1') (hf0 : 0 ≤ f1) (hf : f1 ≤ f1') (hq0 : 0 ≤ q1) (hq : q1 ≤ q1') (hgr : grid ≤ grid') (hpl0 : 0 ≤ plate) (hpl : plate ≤ plate') :
    cHi p1 g0 s1 f1 q1 grid plate ≤ cHi p1' g0' s1' f1' q1' grid' plate' := by
  unfold cHi
  have hd := dHi_mono hg hg' hs hgr hpl0 hpl
  have b := clamp_bounds (grid + s1 + up (1000 * plate) g0)
  have b' := clamp_bounds (grid' + s1' + up (1000 * plate') g0')
  have hr := rtUp_mono (a := dHi g0 s1 grid plate) (b := dHi g0' s1' grid' plate') b.1 hd b'.2
  have h1 := rtUp_bounds (n := dHi g0 s1 grid plate) b.1 b.2
  have h2 := rt_le (n := dHi g0 s1 grid plate) b.1 b.2
  exact endHi_mono hp0 hp hf0 hf hq0 hq (Int.le_trans h2.1 h1.1) hr
theorem cLo_le_cHi {p0 p1 g0 g1 s0 s1 f0 f1 q0 q1 grid plate : Int} (h : LawOk p0 p1 g0 g1 s0 s1 f0 f1 q0 q1) (hpl : 0 ≤ plate) : cLo p0 g1 s0 f0 q0 grid plate ≤ cHi p1 g0 s1 f1 q1 grid plate := by
  obtain ⟨hp, hg, hs, hf, hq⟩ := h
  have hd := dLo_le_dHi (grid := grid) (plate := plate) hg.1 hg.2.1 hs.2.1 hpl
  have b : 0 ≤ dLo g1 s0 grid plate ∧ dLo g1 s0 grid plate ≤ 1000000 := clamp_bounds _
  have b' : 0 ≤ dHi g0 s1 grid plate ∧ dHi g0 s1 grid plate ≤ 1000000 := clamp_bounds _
  have hr := rt_mono b.1 hd b'.2
  have h1 := rtUp_bounds b'.1 b'.2
  have h2 := rt_le b.1 b.2
  unfold cLo cHi
  generalize rt (dLo g1 s0 grid plate * dLo g1 s0 grid plate * dLo g1 s0 grid plate) = r at *
  generalize rtUp (dHi g0 s1 grid plate * dHi g0 s1 grid plate * dHi g0 s1 grid plate) = s at *
  have e := endLo_mono (p' := p1) (f' := f1) (q' := q1) (r' := s) hp.1 hp.2.1 hf.1 hf.2.1 hq.1 hq.2.1 h2.1 (by omega)
  refine Int.le_trans e ?_
  unfold endLo endHi
  have a := down_le_up (p1 * s) (show (0 : Int) < 1000000 by omega)
  have c := mn_mono a (Int.le_refl f1)
  have d : q1 * mn (p1 * s / 1000000) f1 ≤ q1 * mn (up (p1 * s) 1000000) f1 := Int.mul_le_mul_of_nonneg_left c (by omega)
  exact Int.le_trans (Int.ediv_le_ediv (by omega) d) (down_le_up _ (by omega))
end Go.Proofs.Ytbomgfbfnkfamaa.Mp
end
section
set_option linter.unusedVariables false
namespace Go.Proofs.Ytbomgfbfnkfamaa.Mp
open Go.RowKit Go.Proofs.YtbomgfbfnkfamaaW.PrintWords Go.Proofs.YtbomgfbfnkfamaaW.PrintMore Go.Proofs.Ytbomgfbfnkfamaa.PAll

set_option maxRecDepth 100000 in
theorem awake_ok : Ev thermionlaw02_awake.f true := Ev.of thermionlaw02_awake.mono (k := 100) (by kernel_rfl)
theorem awake_at : ∃ K, ∀ k, K ≤ k → thermionlaw02_awake.f k = some true := awake_ok
end Go.Proofs.Ytbomgfbfnkfamaa.Mp
end
section
set_option linter.unusedVariables false
namespace Go.Proofs.Ytbomgfbfnkfamaa.Mp
open Go.RowKit Go.Proofs.YtbomgfbfnkfamaaW.PrintWords Go.Proofs.YtbomgfbfnkfamaaW.PrintMore Go.Proofs.Ytbomgfbfnkfamaa.PAll

theorem withinR_f (s : Int) {lo hi : Int} (ex : Bool) (h : lo ≤ hi) (h0 : -4000000000000000000 ≤ lo) (h1 : hi ≤ 4000000000000000000) :
    ∃ x y s', withinR s lo hi ex = some (x, y, s') ∧ lo ≤ x ∧ x ≤ y ∧ y ≤ hi := by
  have hm : mx lo hi = hi := by unfold mx; split <;> omega
  unfold withinR
  rw [hm]
  obtain ⟨a, s1, e1, a1, a2⟩ := between_f s h h0 h1
  obtain ⟨b, s2, e2, b1, b2⟩ := between_f s1 h h0 h1
  rw [e1, Option.bind_some]
  dsimp only
  rw [e2, Option.bind_some]
  dsimp only
  cases ex with
  | true => exact ⟨a, a, s2, by rw [if_pos rfl], a1, Int.le_refl _, a2⟩
  | false => exact ⟨_, _, s2, by rw [if_neg (by simp)], by unfold mn; split <;> omega, by unfold mn mx; split <;> split <;> omega, by unfold mx; split <;> omega⟩
/-- A law within another one. -/
structure SubLaw (p0 p1 g0 g1 s0 s1 f0 f1 q0 q1 p0' p1' g0' g1' s0' s1' f0' f1' q0' q1' : Int) : Prop where
  p : p0 ≤ p0' ∧ p0' ≤ p1' ∧ p1' ≤ p1
  g : g0 ≤ g0' ∧ g0' ≤ g1' ∧ g1' ≤ g1
  s : s0 ≤ s0' ∧ s0' ≤ s1' ∧ s1' ≤ s1
  f : f0 ≤ f0' ∧ f0' ≤ f1' ∧ f1' ≤ f1
  q : q0 ≤ q0' ∧ q0' ≤ q1' ∧ q1' ≤ q1
theorem SubLaw.ok {p0 p1 g0 g1 s0 s1 f0 f1 q0 q1 p0' p1' g0' g1' s0' s1' f0' f1' q0' q1' : Int} (h : LawOk p0 p1 g0 g1 s0 s1 f0 f1 q0 q1)
    (k : SubLaw p0 p1 g0 g1 s0 s1 f0 f1 q0 q1 p0' p1' g0' g1' s0' s1' f0' f1' q0' q1') : LawOk p0' p1' g0' g1' s0' s1' f0' f1' q0' q1' := by
  obtain ⟨a, b, c, d, e⟩ := h
  obtain ⟨a', b', c', d', e'⟩ := k
  exact ⟨by omega, by omega, by omega, by omega, by omega⟩
theorem withinLaw_f {p0 p1 g0 g1 s0 s1 f0 f1 q0 q1 : Int} (h : LawOk p0 p1 g0 g1 s0 s1 f0 f1 q0 q1) (t : Int) (ex : Bool) :
    ∃ p0' p1' g0' g1' s0' s1' f0' f1' q0' q1' t', SubLaw p0 p1 g0 g1 s0 s1 f0 f1 q0 q1 p0' p1' g0' g1' s0' s1' f0' f1' q0' q1' ∧ thermionkit_WithinLaw.f t p0 p1 g0 g1 s0 s1 f0 f1 q0 q1 ex = some (p0', p1', g0', g1', s0', s1', f0', f1', q0', q1', t') := by
  obtain ⟨a, b, c, d, e⟩ := h
  obtain ⟨x0, y0, t0, e0, h0⟩ := withinR_f t (lo := p0) (hi := p1) ex (by omega) (by omega) (by omega)
  obtain ⟨x1, y1, t1, e1, h1⟩ := withinR_f t0 (lo := g0) (hi := g1) ex (by omega) (by omega) (by omega)
  obtain ⟨x2, y2, t2, e2, h2⟩ := withinR_f t1 (lo := s0) (hi := s1) ex (by omega) (by omega) (by omega)
  obtain ⟨x3, y3, t3, e3, h3⟩ := withinR_f t2 (lo := f0) (hi := f1) ex (by omega) (by omega) (by omega)
  obtain ⟨x4, y4, t4, e4, h4⟩ := withinR_f t3 (lo := q0) (hi := q1) ex (by omega) (by omega) (by omega)
  refine ⟨_, _, _, _, _, _, _, _, _, _, t4, ⟨h0, h1, h2, h3, h4⟩, ?_⟩
  unfold thermionkit_WithinLaw.f
  rw [e0, Option.bind_some]
  dsimp only
  rw [e1, Option.bind_some]
  dsimp only
  rw [e2, Option.bind_some]
  dsimp only
  rw [e3, Option.bind_some]
  dsimp only
  rw [e4, Option.bind_some]
/-- The drive of a right law at right voltages. -/
theorem Drive_f {p0 p1 g0 g1 s0 s1 f0 f1 q0 q1 grid plate : Int} (h : LawOk p0 p1 g0 g1 s0 s1 f0 f1 q0 q1) (hv : Volts grid plate) :
    curve_Drive.f p0 p1 g0 g1 s0 s1 f0 f1 q0 q1 grid plate = some (dLo g1 s0 grid plate, dHi g0 s1 grid plate, 0) := by
  unfold curve_Drive.f curve_asked.f
  rw [checkLaw_ok h]
  simp only [Option.bind_some, if_true]
  rw [volts_ok hv]
  simp only [Option.bind_some, if_true]
  rw [drive_f h hv]
  rfl
theorem within_lo {p0 p1 g0 g1 s0 s1 f0 f1 q0 q1 p0' p1' g0' g1' s0' s1' f0' f1' q0' q1' grid plate : Int} (h : LawOk p0 p1 g0 g1 s0 s1 f0 f1 q0 q1)
    (k : SubLaw p0 p1 g0 g1 s0 s1 f0 f1 q0 q1 p0' p1' g0' g1' s0' s1' f0' f1' q0' q1') (hp : 0 ≤ plate) :
    cLo p0 g1 s0 f0 q0 grid plate ≤ cLo p0' g1' s0' f0' q0' grid plate ∧ cHi p1' g0' s1' f1' q1' grid plate ≤ cHi p1 g0 s1 f1 q1 grid plate
    ∧ dLo g1 s0 grid plate ≤ dLo g1' s0' grid plate ∧ dHi g0' s1' grid plate ≤ dHi g0 s1 grid plate := by
  obtain ⟨a, b, c, d, e⟩ := h
  obtain ⟨a', b', c', d', e'⟩ := k
  refine ⟨?_, ?_, ?_, ?_⟩
  · exact cLo_mono (by omega) (by omega) (by omega) (by omega) (by omega) (by omega) (by omega) (by omega) (by omega) (by omega) (by omega) (by omega)
  · exact cHi_mono (by omega) (by omega) (by omega) (by omega) (by omega) (by omega) (by omega) (by omega) (by omega) (by omega) (by omega) (by omega)
  · exact dLo_mono (by omega) (by omega) (by omega) (by omega) hp (by omega)
  · exact dHi_mono (by omega) (by omega) (by omega) (by omega) hp (by omega)
end Go.Proofs.Ytbomgfbfnkfamaa.Mp
end
section
set_option linter.unusedVariables false
namespace Go.Proofs.Ytbomgfbfnkfamaa.Mp
open Go.RowKit Go.Proofs.YtbomgfbfnkfamaaW.PrintWords Go.Proofs.YtbomgfbfnkfamaaW.PrintMore Go.Proofs.Ytbomgfbfnkfamaa.PAll

theorem within_holds (l0 : List Int) (a1 a2 : Int) (a3 : Bool) : ∃ k, thermionlaw02_CurveWithin.f k l0 a1 a2 a3 = some true := by
  obtain ⟨s, hs⟩ := newDice_f l0
  obtain ⟨p0, p1, g0, g1, s0, s1, f0, f1, q0, q1, s', hl, hlk⟩ := lawOf_f s
  obtain ⟨p0', p1', g0', g1', s0', s1', f0', f1', q0', q1', t', hsub, hm⟩ := withinLaw_f hl s' a3
  obtain ⟨g, eg, gb0, gb1⟩ := mod_f a1 (m := 20000) (by omega) (by omega)
  obtain ⟨pl, ep, pb0, pb1⟩ := mod_f a2 (m := 400000) (by omega) (by omega)
  have hl' := SubLaw.ok hl hsub
  have hv : Volts (g - 10000) pl := ⟨by omega, by omega, by omega, by omega⟩
  obtain ⟨K1, h1⟩ := Current_f hl hv
  obtain ⟨K2, h2⟩ := Current_f hl' hv
  have h3 := Drive_f hl hv
  have h4 := Drive_f hl' hv
  obtain ⟨K5, h5⟩ := awake_at
  refine ⟨K1 + K2 + K5 + 2, ?_⟩
  have hk1 := h1 (K1 + K2 + K5 + 2) (by omega)
  have hk2 := h2 (K1 + K2 + K5 + 2) (by omega)
  have hk5 := h5 (K1 + K2 + K5 + 2) (by omega)
  have hk6 := hlk (K1 + K2 + K5 + 2) (by omega)
  clear h1 h2 h5 hlk
  generalize K1 + K2 + K5 + 2 = k at *
  have w1 : wrap64 (g - 10000) = g - 10000 := wrap64_id (by omega) (by omega)
  obtain ⟨m1, m2, m3, m4⟩ := within_lo (grid := g - 10000) hl hsub pb0
  unfold thermionlaw02_CurveWithin.f
  rw [hs, Option.bind_some, hk6, Option.bind_some]
  dsimp only
  rw [hm, Option.bind_some]
  dsimp only
  rw [eg, Option.bind_some, ep, Option.bind_some, w1, hk1, Option.bind_some, hk2, Option.bind_some, h3, Option.bind_some, h4, Option.bind_some]
  dsimp only
  rw [if_pos rfl, if_pos rfl, if_pos rfl, if_pos rfl]
  unfold thermionkit_Within.f
  rw [if_pos m1, Option.bind_some, if_pos (by simpa using m2), if_pos m3, Option.bind_some, if_pos (by simpa using m4), hk5]
  rfl
end Go.Proofs.Ytbomgfbfnkfamaa.Mp
end
section
namespace Go.Proofs.Ytbomgfbfnkfamaa.Pure
open Go.RowKit Go.Proofs.Ytbomgfbfnkfamaa.PAll Go.Proofs.YtbomgfbfnkfamaaW.PrintWords Go.Proofs.YtbomgfbfnkfamaaW.PrintLast

theorem CurveWithin : thermionlaw02_CurveWithin.Pure := fun l0 a1 a2 a3 _ _ _ _ _ => Go.Proofs.Ytbomgfbfnkfamaa.Mp.within_holds l0 a1 a2 a3

end Go.Proofs.Ytbomgfbfnkfamaa.Pure
end
section
namespace Go.Proofs.Ytbomgfbfnkfamaa.curveWithin
open Go.ChangeShapes Go.WideShapes Go.ChangeAt Go.RowKit
open Go.ChangeMaps (open_string shut_string)
set_option linter.unusedVariables false
theorem own : ownKnob Try.prog.godebug = none := by kernel_rfl
theorem laidOut : laidOutB Try.prog = true := by kernel_rfl
def IsRow (k : IntKind) (w : World) (a : Option Addr) (len cap : Nat) (zs : List Int) : Prop :=
  (a = none ∧ len = 0 ∧ cap = 0 ∧ zs = []) ∨
  ∃ x, a = some x ∧ len ≤ cap ∧ cap ≤ maxLen ∧ zs.length = cap ∧ (∀ i, i < zs.length → w.cell? (x.add i) = some (.int k (zs.getD i 0))) ∧ ∀ n ∈ zs, (Lit.int k n).wf = true
set_option maxRecDepth 100000 in
theorem lifted (os : Os) (started : os.Started) (H : Type) (enc : TypeId × Value → H) :
    ReturnsInHanded {} Try.checked os 5 .any (Rows.curveWithinSpec.pre6 enc Try.prog Try.f5 Rows.curveWithinRow.domain false) (Rows.curveWithinSpec.post enc Try.prog Try.f5 false true false false) := by
  refine returnsInHanded_of_change_sized (C := Try.checked) own started (by kernel_rfl) Try.func5
    (ChangeSpec.witness6 (enc := enc) (C := Try.checked) false ⟨#[], #[.slice none 0 0, .int .i64 0, .int .i64 0, .bool false], []⟩ 8 (by kernel_rfl) (by kernel_rfl) (by kernel_rfl) (by kernel_rfl)) ?_
  intro W base args ds gs before hval0 hW hcnd hsz0 _
  have hsz : (DataW.weightsEach Try.prog (Try.f5.params.toList ++ Rows.curveWithinSpec.plain.varTypes Try.prog) (ds ++ gs)).all (· ≤ reachBytes) = true := hsz0
  have hval : ∀ (j : Nat) t v, Try.f5.params[j]? = some t → args[j]? = some v → Value.okWide Try.prog W .any base t v := hval0
  have hW' := hW
  obtain ⟨p, q, hA0, hV, rfl, hfz, hnd⟩ := hW
  have hA : DataW.TrodAll enc Try.prog W 0 (fun _ => true) true Try.f5.params.toList args.toList ds p := hA0
  rw [Try.params5] at hA hval hsz
  obtain ⟨v0, vs0, d0, ds0, p0, q0, hargs, rfl, rfl, h0, r0⟩ := trodAll_cons hA
  obtain ⟨v1, vs1, d1, ds1, p1, q1, rfl, rfl, rfl, h1, r1⟩ := trodAll_cons r0
  obtain ⟨v2, vs2, d2, ds2, p2, q2, rfl, rfl, rfl, h2, r2⟩ := trodAll_cons r1
  obtain ⟨v3, vs3, d3, ds3, p3, q3, rfl, rfl, rfl, h3, r3⟩ := trodAll_cons r2
  obtain ⟨rfl, rfl, rfl⟩ := trodAll_nil r3
  obtain rfl : args = #[v0, v1, v2, v3] := by cases args; simp_all
  obtain ⟨rfl, rfl⟩ := trodVars_none hV
  obtain ⟨a0, len0, cap0, rfl⟩ := okWide_slice Try.underlying22 (hval 0 22 v0 rfl rfl)
  have k0 := h0
  have lt0 : ∀ x ∈ p0, x.block < W.heap.size := by obtain ⟨m, hm⟩ := k0; exact DataW.trod_lt m _ _ _ hm
  obtain ⟨z0, w0⟩ : ∃ zs, IsRow .i64 W a0 len0 cap0 zs := by
    obtain ⟨fuel, hf⟩ := h0
    rcases open_ints Try.underlying22 Try.underlying3 (by kernel_rfl) hf with ⟨hcs, _⟩ | ⟨x, l, c, zs, hcs, _, hl, hm, hz, _, hcell, hwz⟩
    · simp [Value.cells] at hcs
      obtain ⟨rfl, rfl, rfl⟩ := hcs
      exact ⟨[], .inl ⟨rfl, rfl, rfl, rfl⟩⟩
    · simp [Value.cells] at hcs
      obtain ⟨rfl, rfl, rfl⟩ := hcs
      exact ⟨zs, .inr ⟨_, rfl, hl, hm, by simpa using hz, hcell, hwz⟩⟩
  have y0 : len0 * 8 ≤ 140737488351232 := Go.Proofs.YtbomgfbfnkfamaaW.PrintWords.sized_ints hsz (j := 0) (t := 22) rfl rfl Try.underlying22 Try.underlying3 (by kernel_rfl) (by kernel_rfl) h0
  obtain ⟨a1, rfl, rfl, rfl, w1⟩ := open_int Try.underlying3 (hval 1 3 v1 rfl rfl) h1
  obtain ⟨a2, rfl, rfl, rfl, w2⟩ := open_int Try.underlying3 (hval 2 3 v2 rfl rfl) h2
  obtain ⟨a3, rfl, rfl, rfl⟩ := open_bool Try.underlying4 (hval 3 4 v3 rfl rfl) h3
  clear hA0 hval0 hsz0 hsz
  refine (PAll.thermionlaw02_CurveWithin.walk Pure.CurveWithin a0 len0 cap0 z0 a1 a2 a3 W w0 y0 w1 w2).mono fun e W' ⟨he, bel⟩ => ?_
  subst he
  exact ⟨_, rfl, _, _, _, [], _, [], hW', trodAll_mk1 (shut_bool Try.underlying4 _), (trodAll_cons_mk (Below.trod laidOut (by kernel_rfl) (of_decide_eq_true (by kernel_rfl)) k0 bel lt0) (trodAll_cons_mk (shut_int Try.underlying3 w1) (trodAll_cons_mk (shut_int Try.underlying3 w2) (trodAll_cons_mk (shut_bool Try.underlying4 _) trodAll_mk0)))), rfl, bel.frame _, fun h => by cases h⟩
theorem over : Rows.curveWithinRow.holds Try.pinned (OpenSpec.ofChange Rows.curveWithinSpec) :=
  OpenClaim.holds_of_wide 5 Try.f5 rfl rfl rfl rfl rfl rfl rfl ⟨rfl, rfl, rfl, rfl, rfl⟩ rfl rfl rfl rfl rfl (by kernel_rfl) Try.func5 (by kernel_rfl)
    (of_decide_eq_true (by kernel_rfl)) (by unfold Func.isWrapper; first | (rw [if_pos (by decide +kernel)]; kernel_rfl) | (rw [if_neg (by decide +kernel)]; exact ⟨rfl, rfl⟩))
    (fun os started H enc _ => lifted os started H enc)
theorem proved : Rows.CurveWithinSaid := over
#print axioms proved
end Go.Proofs.Ytbomgfbfnkfamaa.curveWithin
namespace Go.Proofs.Ytbomgfbfnkfamaa
/-- The row, under a short name, for the claim. -/
theorem curveWithin_holds : Rows.CurveWithinSaid := curveWithin.proved
end Go.Proofs.Ytbomgfbfnkfamaa
end
