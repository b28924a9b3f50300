/- The row CurveNarrows: whatever the arguments are, the statement returns true, and they read as they did. -/
import Derived.Test.YtbomgfbfnkfamaaKCurveNarrows
import Derived.Test.YtbomgfbfnkfamaaI3
import Derived.Test.YtbomgfbfnkfamaaRows
import Derived.OpenShut
import Derived.WalkKit
import Derived.ProofKit
import Derived.ShutString
import Derived.ChangeOld
import Derived.Below
import Derived.SizedLaws
namespace Go.Proofs.Ytbomgfbfnkfamaa.curveNarrows
open Go.ChangeShapes Go.WideShapes Go.ChangeAt Go.RowKit Go.Ideal Go.Proofs.Ytbomgfbfnkfamaa.I
set_option linter.unusedVariables false
theorem own : ownKnob Try.prog.godebug = none := by kernel_rfl
theorem laidOut : laidOutB Try.prog = true := by kernel_rfl
set_option maxRecDepth 100000 in
theorem lifted (os : Os) (started : os.Started) (H : Type) (enc : TypeId × Value → H) :
    ReturnsInHanded {} Try.checked os 9 .any (Rows.curveNarrowsSpec.pre6 enc Try.prog Try.f9 Rows.curveNarrowsRow.domain false) (Rows.curveNarrowsSpec.post enc Try.prog Try.f9 false true false false) := by
  refine returnsInHanded_of_change_sized (C := Try.checked) own started (by kernel_rfl) Try.func9
    (ChangeSpec.witness6 (enc := enc) (C := Try.checked) false ⟨#[], #[.agg #[.int .i64 0, .int .i64 0, .int .i64 0, .int .i64 0, .int .i64 0, .int .i64 0, .int .i64 0, .int .i64 0, .int .i64 0, .int .i64 0], .slice none 0 0, .slice none 0 0], []⟩ 8 (by kernel_rfl) (by kernel_rfl) (by kernel_rfl) (by kernel_rfl)) ?_
  intro W base args ds gs before hval0 hW hcnd hsz0 _
  have hval : ∀ (j : Nat) t v, Try.f9.params[j]? = some t → args[j]? = some v → Value.okWide Try.prog W .any base t v := hval0
  have hW' := hW
  obtain ⟨p, q, hA0, hV, rfl, hfz, hnd⟩ := hW
  have hA : DataW.TrodAll enc Try.prog W 0 (fun _ => true) true Try.f9.params.toList args.toList ds p := hA0
  obtain ⟨rfl, rfl⟩ := trodVars_none hV
  have hlt := trodAll_lt hA
  obtain ⟨xs, hp, hlx, hox⟩ := readAll (μ := fun _ => none) (n := 6) hA (fun j t v h1 h2 => hval j t v (by rwa [Array.getElem?_toList] at h1) (by rwa [Array.getElem?_toList] at h2)) (by kernel_rfl)
  have hkeep : ∀ W', Below W.heap.size W W' → DataW.TrodAll enc Try.prog W' 0 (fun b => decide (b < W.heap.size)) true Try.f9.params.toList args.toList ds p := fun W' bel => trodAll_below laidOut hA (by kernel_rfl) bel hlt
  have hpw : PW (allOf W) (fun _ => none) xs args := ⟨by rw [hp.1, Array.length_toList], fun i h h' => by have := hp.2 i h (by rw [Array.length_toList]; exact h'); rwa [Array.getElem_toList] at this⟩
  have hlen : Try.f9.params.toList.length = 3 := by kernel_rfl
  rw [hlen] at hlx
  have hds := trodAll_ds hA
  rw [hlen] at hds
  -- four destructured arguments, made out of a list of known length
  obtain ⟨x0, x1, x2, rfl⟩ : ∃ x0 x1 x2, xs = [x0, x1, x2] := by
    match xs, hlx with
    | [x0, x1, x2], _ => exact ⟨x0, x1, x2, rfl⟩
  have o0 : OkV Try.prog 6 42 x0 := hox 0 (by decide) (by simp)
  obtain ⟨ys0, rfl, yl0, yo0⟩ := o0.struct (ts := [.i .i64, .i .i64, .i .i64, .i .i64, .i .i64, .i .i64, .i .i64, .i .i64, .i .i64, .i .i64]) (by kernel_rfl) (by decide)
  obtain ⟨z0_0, z0_1, z0_2, z0_3, z0_4, z0_5, z0_6, z0_7, z0_8, z0_9, rfl⟩ : ∃ z0 z1 z2 z3 z4 z5 z6 z7 z8 z9, ys0 = [z0, z1, z2, z3, z4, z5, z6, z7, z8, z9] := by
    match ys0, yl0 with
    | [z0, z1, z2, z3, z4, z5, z6, z7, z8, z9], _ => exact ⟨z0, z1, z2, z3, z4, z5, z6, z7, z8, z9, rfl⟩
  obtain ⟨p0_0, rfl, _⟩ := (yo0 0 (by decide) (by simp)).int
  obtain ⟨p0_1, rfl, _⟩ := (yo0 1 (by decide) (by simp)).int
  obtain ⟨g0_0, rfl, _⟩ := (yo0 2 (by decide) (by simp)).int
  obtain ⟨g0_1, rfl, _⟩ := (yo0 3 (by decide) (by simp)).int
  obtain ⟨s0_0, rfl, _⟩ := (yo0 4 (by decide) (by simp)).int
  obtain ⟨s0_1, rfl, _⟩ := (yo0 5 (by decide) (by simp)).int
  obtain ⟨f0_0, rfl, _⟩ := (yo0 6 (by decide) (by simp)).int
  obtain ⟨f0_1, rfl, _⟩ := (yo0 7 (by decide) (by simp)).int
  obtain ⟨q0_0, rfl, _⟩ := (yo0 8 (by decide) (by simp)).int
  obtain ⟨q0_1, rfl, _⟩ := (yo0 9 (by decide) (by simp)).int
  have o1 : OkV Try.prog 6 60 x1 := hox 1 (by decide) (by simp)
  obtain ⟨s1, rfl, l1⟩ := okReads (o1.one (c := .sl [.i .i64, .i .i64, .i .i64, .i .i64]) (by kernel_rfl) (by kernel_rfl))
  have o2 : OkV Try.prog 6 22 x2 := hox 2 (by decide) (by simp)
  obtain ⟨n2, rfl, i2⟩ := (o2.one (c := .sl [.i .i64]) (by kernel_rfl) (by kernel_rfl)).ints
  obtain ⟨d0, d1, d2, rfl⟩ : ∃ d0 d1 d2, ds = [d0, d1, d2] := by
    match ds, hds with
    | [d0, d1, d2], _ => exact ⟨d0, d1, d2, rfl⟩
  refine (calls_of_ev (F := Try.f9) Try.func9 (by kernel_rfl) (by kernel_rfl) (CurveNarrows_ok p0_0 p0_1 g0_0 g0_1 s0_0 s0_1 f0_0 f0_1 q0_0 q0_1 s1 n2  l1 i2 (Heap.of [])) hpw).mono fun e W' he => ?_
  obtain ⟨rv, Φ, μ, rfl, hrv, bel⟩ := he
  cases hrv
  exact ⟨_, rfl, _, _, _, [], _, [], hW', trodAll_mk1 (shut_bool (by kernel_rfl) _), hkeep W' bel, rfl, bel.frame _, fun h => by cases h⟩
theorem over : Rows.curveNarrowsRow.holds Try.pinned (OpenSpec.ofChange Rows.curveNarrowsSpec) :=
  OpenClaim.holds_of_wide 9 Try.f9 rfl rfl rfl rfl rfl rfl rfl ⟨rfl, rfl, rfl, rfl, rfl⟩ rfl rfl rfl rfl rfl (by kernel_rfl) Try.func9 (by kernel_rfl)
    (of_decide_eq_true (by kernel_rfl)) (by unfold Func.isWrapper; first | (rw [if_pos (by decide +kernel)]; kernel_rfl) | (rw [if_neg (by decide +kernel)]; exact ⟨rfl, rfl⟩))
    (fun os started H enc _ => lifted os started H enc)
theorem proved : Rows.CurveNarrowsSaid := over
#print axioms proved
end Go.Proofs.Ytbomgfbfnkfamaa.curveNarrows
namespace Go.Proofs.Ytbomgfbfnkfamaa
/-- The row, under a short name, for the claim. -/
theorem curveNarrows_holds : Rows.CurveNarrowsSaid := curveNarrows.proved
end Go.Proofs.Ytbomgfbfnkfamaa
