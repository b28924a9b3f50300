/- The row GlassStrains: whatever the arguments are, the statement returns true, and they read as they did. -/
import Derived.Test.YtpbadgghhiommaaKGlassStrains
import Derived.Test.YtpbadgghhiommaaI3
import Derived.Test.YtpbadgghhiommaaRows
import Derived.OpenShut
import Derived.WalkKit
import Derived.ProofKit
import Derived.ShutString
import Derived.ChangeOld
import Derived.Below
import Derived.SizedLaws
namespace Go.Proofs.Ytpbadgghhiommaa.glassStrains
open Go.ChangeShapes Go.WideShapes Go.ChangeAt Go.RowKit Go.Ideal Go.Proofs.Ytpbadgghhiommaa.I
set_option linter.unusedVariables false
theorem own : ownKnob Try.prog.godebug = none := by kernel_rfl
theorem laidOut : laidOutB Try.prog = true := by kernel_rfl
set_option maxRecDepth 100000 in
theorem lifted (os : Os) (started : os.Started) (H : Type) (enc : TypeId × Value → H) :
    ReturnsInHanded {} Try.checked os 16 .any (Rows.glassStrainsSpec.pre6 enc Try.prog Try.f16 Rows.glassStrainsRow.domain false) (Rows.glassStrainsSpec.post enc Try.prog Try.f16 false true false false) := by
  refine returnsInHanded_of_change_sized (C := Try.checked) own started (by kernel_rfl) Try.func16
    (ChangeSpec.witness6 (enc := enc) (C := Try.checked) false ⟨#[], #[.agg #[.int .i64 0, .slice none 0 0], .int .i64 0, .agg #[.int .i64 0, .slice none 0 0], .int .i64 0, .agg #[.int .i64 0, .int .i64 0], .int .i64 0, .slice none 0 0], []⟩ 8 (by kernel_rfl) (by kernel_rfl) (by kernel_rfl) (by kernel_rfl)) ?_
  intro W base args ds gs before hval0 hW hcnd hsz0 _
  have hval : ∀ (j : Nat) t v, Try.f16.params[j]? = some t → args[j]? = some v → Value.okWide Try.prog W .any base t v := hval0
  have hW' := hW
  obtain ⟨p, q, hA0, hV, rfl, hfz, hnd⟩ := hW
  have hA : DataW.TrodAll enc Try.prog W 0 (fun _ => true) true Try.f16.params.toList args.toList ds p := hA0
  obtain ⟨rfl, rfl⟩ := trodVars_none hV
  have hlt := trodAll_lt hA
  obtain ⟨xs, hp, hlx, hox⟩ := readAll (μ := fun _ => none) (n := 6) hA (fun j t v h1 h2 => hval j t v (by rwa [Array.getElem?_toList] at h1) (by rwa [Array.getElem?_toList] at h2)) (by kernel_rfl)
  have hkeep : ∀ W', Below W.heap.size W W' → DataW.TrodAll enc Try.prog W' 0 (fun b => decide (b < W.heap.size)) true Try.f16.params.toList args.toList ds p := fun W' bel => trodAll_below laidOut hA (by kernel_rfl) bel hlt
  have hpw : PW (allOf W) (fun _ => none) xs args := ⟨by rw [hp.1, Array.length_toList], fun i h h' => by have := hp.2 i h (by rw [Array.length_toList]; exact h'); rwa [Array.getElem_toList] at this⟩
  have hlen : Try.f16.params.toList.length = 7 := by kernel_rfl
  rw [hlen] at hlx
  have hds := trodAll_ds hA
  rw [hlen] at hds
  -- four destructured arguments, made out of a list of known length
  obtain ⟨x0, x1, x2, x3, x4, x5, x6, rfl⟩ : ∃ x0 x1 x2 x3 x4 x5 x6, xs = [x0, x1, x2, x3, x4, x5, x6] := by
    match xs, hlx with
    | [x0, x1, x2, x3, x4, x5, x6], _ => exact ⟨x0, x1, x2, x3, x4, x5, x6, rfl⟩
  have o0 : OkV Try.prog 6 24 x0 := hox 0 (by decide) (by simp)
  obtain ⟨ys0, rfl, yl0, yo0⟩ := o0.struct (ts := [.i .i64, .sl [.i .i64, .i .i64, .i .i64, .i .i64, .i .i64]]) (by kernel_rfl) (by decide)
  obtain ⟨z0_0, z1_0, rfl⟩ := two yl0
  obtain ⟨b0, rfl, _⟩ := (yo0 0 (by decide) (by simp)).int
  obtain ⟨s0, rfl, l0⟩ := okZones (yo0 1 (by decide) (by simp))
  have o1 : OkV Try.prog 6 3 x1 := hox 1 (by decide) (by simp)
  obtain ⟨n1, rfl, i1, j1⟩ := (o1.one (c := .i .i64) (by kernel_rfl) (by kernel_rfl)).int
  have o2 : OkV Try.prog 6 27 x2 := hox 2 (by decide) (by simp)
  obtain ⟨ys2, rfl, yl2, yo2⟩ := o2.struct (ts := [.i .i64, .sl [.i .i64, .i .i64]]) (by kernel_rfl) (by decide)
  obtain ⟨z0_2, z1_2, rfl⟩ := two yl2
  obtain ⟨b2, rfl, _⟩ := (yo2 0 (by decide) (by simp)).int
  obtain ⟨s2, rfl, l2⟩ := okLegs (yo2 1 (by decide) (by simp))
  have o3 : OkV Try.prog 6 3 x3 := hox 3 (by decide) (by simp)
  obtain ⟨n3, rfl, i3, j3⟩ := (o3.one (c := .i .i64) (by kernel_rfl) (by kernel_rfl)).int
  have o4 : OkV Try.prog 6 31 x4 := hox 4 (by decide) (by simp)
  obtain ⟨ys4, rfl, yl4, yo4⟩ := o4.struct (ts := [.i .i64, .i .i64]) (by kernel_rfl) (by decide)
  obtain ⟨z4_0, z4_1, rfl⟩ := two yl4
  obtain ⟨v4_0, rfl, w4_0⟩ := (yo4 0 (by decide) (by simp)).int
  obtain ⟨v4_1, rfl, w4_1⟩ := (yo4 1 (by decide) (by simp)).int
  have o5 : OkV Try.prog 6 3 x5 := hox 5 (by decide) (by simp)
  obtain ⟨n5, rfl, i5, j5⟩ := (o5.one (c := .i .i64) (by kernel_rfl) (by kernel_rfl)).int
  have o6 : OkV Try.prog 6 29 x6 := hox 6 (by decide) (by simp)
  obtain ⟨n6, rfl, i6⟩ := (o6.one (c := .sl [.i .i64]) (by kernel_rfl) (by kernel_rfl)).ints
  obtain ⟨d0, d1, d2, d3, d4, d5, d6, rfl⟩ : ∃ d0 d1 d2 d3 d4 d5 d6, ds = [d0, d1, d2, d3, d4, d5, d6] := by
    match ds, hds with
    | [d0, d1, d2, d3, d4, d5, d6], _ => exact ⟨d0, d1, d2, d3, d4, d5, d6, rfl⟩
  refine (calls_of_ev (F := Try.f16) Try.func16 (by kernel_rfl) (by kernel_rfl) (GlassStrains_ok b0 s0 n1 b2 s2 n3 v4_0 v4_1 n5 n6 l0 i1 j1 l2 i3 j3  i5 j5 i6 (Heap.of [])) hpw).mono fun e W' he => ?_
  obtain ⟨rv, Φ, μ, rfl, hrv, bel⟩ := he
  cases hrv
  exact ⟨_, rfl, _, _, _, [], _, [], hW', trodAll_mk1 (shut_bool (by kernel_rfl) _), hkeep W' bel, rfl, bel.frame _, fun h => by cases h⟩
theorem over : Rows.glassStrainsRow.holds Try.pinned (OpenSpec.ofChange Rows.glassStrainsSpec) :=
  OpenClaim.holds_of_wide 16 Try.f16 rfl rfl rfl rfl rfl rfl rfl ⟨rfl, rfl, rfl, rfl, rfl⟩ rfl rfl rfl rfl rfl (by kernel_rfl) Try.func16 (by kernel_rfl)
    (of_decide_eq_true (by kernel_rfl)) (by unfold Func.isWrapper; first | (rw [if_pos (by decide +kernel)]; kernel_rfl) | (rw [if_neg (by decide +kernel)]; exact ⟨rfl, rfl⟩))
    (fun os started H enc _ => lifted os started H enc)
theorem proved : Rows.GlassStrainsSaid := over
#print axioms proved
end Go.Proofs.Ytpbadgghhiommaa.glassStrains
namespace Go.Proofs.Ytpbadgghhiommaa
/-- The row, under a short name, for the claim. -/
theorem glassStrains_holds : Rows.GlassStrainsSaid := glassStrains.proved
end Go.Proofs.Ytpbadgghhiommaa
