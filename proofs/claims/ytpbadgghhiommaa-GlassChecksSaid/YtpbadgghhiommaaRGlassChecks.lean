/- The row GlassChecks: whatever the arguments are, the statement returns true, and they read as they did. -/
import Derived.Test.YtpbadgghhiommaaKGlassChecks
import Derived.Test.YtpbadgghhiommaaI3
import Derived.Test.YtpbadgghhiommaaRows
import Derived.OpenShut
import Derived.WalkKit
import Derived.ProofKit
import Derived.ShutString
import Derived.ChangeOld
import Derived.Below
import Derived.SizedLaws
namespace Go.Proofs.Ytpbadgghhiommaa.glassChecks
open Go.ChangeShapes Go.WideShapes Go.ChangeAt Go.RowKit Go.Ideal Go.Proofs.Ytpbadgghhiommaa.I
set_option linter.unusedVariables false
theorem own : ownKnob Try.prog.godebug = none := by kernel_rfl
theorem laidOut : laidOutB Try.prog = true := by kernel_rfl
set_option maxRecDepth 100000 in
theorem lifted (os : Os) (started : os.Started) (H : Type) (enc : TypeId × Value → H) :
    ReturnsInHanded {} Try.checked os 3 .any (Rows.glassChecksSpec.pre6 enc Try.prog Try.f3 Rows.glassChecksRow.domain false) (Rows.glassChecksSpec.post enc Try.prog Try.f3 false true false false) := by
  refine returnsInHanded_of_change_sized (C := Try.checked) own started (by kernel_rfl) Try.func3
    (ChangeSpec.witness6 (enc := enc) (C := Try.checked) false ⟨#[], #[.agg #[.int .i64 0, .slice none 0 0], .agg #[.int .i64 0, .slice none 0 0], .slice none 0 0, .slice none 0 0, .agg #[.int .i64 0, .int .i64 0, .int .i64 0, .int .i64 0, .int .i64 0], .agg #[.int .i64 0, .int .i64 0]], []⟩ 8 (by kernel_rfl) (by kernel_rfl) (by kernel_rfl) (by kernel_rfl)) ?_
  intro W base args ds gs before hval0 hW hcnd hsz0 _
  have hval : ∀ (j : Nat) t v, Try.f3.params[j]? = some t → args[j]? = some v → Value.okWide Try.prog W .any base t v := hval0
  have hW' := hW
  obtain ⟨p, q, hA0, hV, rfl, hfz, hnd⟩ := hW
  have hA : DataW.TrodAll enc Try.prog W 0 (fun _ => true) true Try.f3.params.toList args.toList ds p := hA0
  obtain ⟨rfl, rfl⟩ := trodVars_none hV
  have hlt := trodAll_lt hA
  obtain ⟨xs, hp, hlx, hox⟩ := readAll (μ := fun _ => none) (n := 6) hA (fun j t v h1 h2 => hval j t v (by rwa [Array.getElem?_toList] at h1) (by rwa [Array.getElem?_toList] at h2)) (by kernel_rfl)
  have hkeep : ∀ W', Below W.heap.size W W' → DataW.TrodAll enc Try.prog W' 0 (fun b => decide (b < W.heap.size)) true Try.f3.params.toList args.toList ds p := fun W' bel => trodAll_below laidOut hA (by kernel_rfl) bel hlt
  have hpw : PW (allOf W) (fun _ => none) xs args := ⟨by rw [hp.1, Array.length_toList], fun i h h' => by have := hp.2 i h (by rw [Array.length_toList]; exact h'); rwa [Array.getElem_toList] at this⟩
  have hlen : Try.f3.params.toList.length = 6 := by kernel_rfl
  rw [hlen] at hlx
  have hds := trodAll_ds hA
  rw [hlen] at hds
  -- four destructured arguments, made out of a list of known length
  obtain ⟨x0, x1, x2, x3, x4, x5, rfl⟩ : ∃ x0 x1 x2 x3 x4 x5, xs = [x0, x1, x2, x3, x4, x5] := by
    match xs, hlx with
    | [x0, x1, x2, x3, x4, x5], _ => exact ⟨x0, x1, x2, x3, x4, x5, rfl⟩
  have o0 : OkV Try.prog 6 24 x0 := hox 0 (by decide) (by simp)
  obtain ⟨ys0, rfl, yl0, yo0⟩ := o0.struct (ts := [.i .i64, .sl [.i .i64, .i .i64, .i .i64, .i .i64, .i .i64]]) (by kernel_rfl) (by decide)
  obtain ⟨z0_0, z1_0, rfl⟩ := two yl0
  obtain ⟨b0, rfl, _⟩ := (yo0 0 (by decide) (by simp)).int
  obtain ⟨s0, rfl, l0⟩ := okZones (yo0 1 (by decide) (by simp))
  have o1 : OkV Try.prog 6 27 x1 := hox 1 (by decide) (by simp)
  obtain ⟨ys1, rfl, yl1, yo1⟩ := o1.struct (ts := [.i .i64, .sl [.i .i64, .i .i64]]) (by kernel_rfl) (by decide)
  obtain ⟨z0_1, z1_1, rfl⟩ := two yl1
  obtain ⟨b1, rfl, _⟩ := (yo1 0 (by decide) (by simp)).int
  obtain ⟨s1, rfl, l1⟩ := okLegs (yo1 1 (by decide) (by simp))
  have o2 : OkV Try.prog 6 28 x2 := hox 2 (by decide) (by simp)
  obtain ⟨s2, rfl, l2, m2⟩ := okFires (o2.one (c := .sl [.i .i64, .i .i64, .sl [.i .i64]]) (by kernel_rfl) (by kernel_rfl))
  have o3 : OkV Try.prog 6 29 x3 := hox 3 (by decide) (by simp)
  obtain ⟨n3, rfl, i3⟩ := (o3.one (c := .sl [.i .i64]) (by kernel_rfl) (by kernel_rfl)).ints
  have o4 : OkV Try.prog 6 33 x4 := hox 4 (by decide) (by simp)
  obtain ⟨ys4, rfl, yl4, yo4⟩ := o4.struct (ts := [.i .i64, .i .i64, .i .i64, .i .i64, .i .i64]) (by kernel_rfl) (by decide)
  obtain ⟨z4_0, z4_1, z4_2, z4_3, z4_4, rfl⟩ := five yl4
  obtain ⟨v4_0, rfl, w4_0⟩ := (yo4 0 (by decide) (by simp)).int
  obtain ⟨v4_1, rfl, w4_1⟩ := (yo4 1 (by decide) (by simp)).int
  obtain ⟨v4_2, rfl, w4_2⟩ := (yo4 2 (by decide) (by simp)).int
  obtain ⟨v4_3, rfl, w4_3⟩ := (yo4 3 (by decide) (by simp)).int
  obtain ⟨v4_4, rfl, w4_4⟩ := (yo4 4 (by decide) (by simp)).int
  have o5 : OkV Try.prog 6 35 x5 := hox 5 (by decide) (by simp)
  obtain ⟨ys5, rfl, yl5, yo5⟩ := o5.struct (ts := [.i .i64, .i .i64]) (by kernel_rfl) (by decide)
  obtain ⟨z5_0, z5_1, rfl⟩ := two yl5
  obtain ⟨v5_0, rfl, w5_0⟩ := (yo5 0 (by decide) (by simp)).int
  obtain ⟨v5_1, rfl, w5_1⟩ := (yo5 1 (by decide) (by simp)).int
  obtain ⟨d0, d1, d2, d3, d4, d5, rfl⟩ : ∃ d0 d1 d2 d3 d4 d5, ds = [d0, d1, d2, d3, d4, d5] := by
    match ds, hds with
    | [d0, d1, d2, d3, d4, d5], _ => exact ⟨d0, d1, d2, d3, d4, d5, rfl⟩
  refine (calls_of_ev (F := Try.f3) Try.func3 (by kernel_rfl) (by kernel_rfl) (GlassChecks_ok b0 s0 b1 s1 s2 n3 (Zone.mk v4_0 v4_1 v4_2 v4_3 v4_4) (Leg.mk v5_0 v5_1) l0 l1 l2 m2 i3   (Heap.of [])) hpw).mono fun e W' he => ?_
  obtain ⟨rv, Φ, μ, rfl, hrv, bel⟩ := he
  cases hrv
  exact ⟨_, rfl, _, _, _, [], _, [], hW', trodAll_mk1 (shut_bool (by kernel_rfl) _), hkeep W' bel, rfl, bel.frame _, fun h => by cases h⟩
theorem over : Rows.glassChecksRow.holds Try.pinned (OpenSpec.ofChange Rows.glassChecksSpec) :=
  OpenClaim.holds_of_wide 3 Try.f3 rfl rfl rfl rfl rfl rfl rfl ⟨rfl, rfl, rfl, rfl, rfl⟩ rfl rfl rfl rfl rfl (by kernel_rfl) Try.func3 (by kernel_rfl)
    (of_decide_eq_true (by kernel_rfl)) (by unfold Func.isWrapper; first | (rw [if_pos (by decide +kernel)]; kernel_rfl) | (rw [if_neg (by decide +kernel)]; exact ⟨rfl, rfl⟩))
    (fun os started H enc _ => lifted os started H enc)
theorem proved : Rows.GlassChecksSaid := over
#print axioms proved
end Go.Proofs.Ytpbadgghhiommaa.glassChecks
namespace Go.Proofs.Ytpbadgghhiommaa
/-- The row, under a short name, for the claim. -/
theorem glassChecks_holds : Rows.GlassChecksSaid := glassChecks.proved
end Go.Proofs.Ytpbadgghhiommaa
