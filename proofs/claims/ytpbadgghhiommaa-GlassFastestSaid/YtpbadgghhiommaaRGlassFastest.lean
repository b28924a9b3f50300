/- The row GlassFastest: whatever the arguments are, the statement returns true, and they read as they did. -/
import Derived.Test.YtpbadgghhiommaaKGlassFastest
import Derived.Test.YtpbadgghhiommaaI3
import Derived.Test.YtpbadgghhiommaaRows
import Derived.OpenShut
import Derived.WalkKit
import Derived.ProofKit
import Derived.ShutString
import Derived.ChangeOld
import Derived.Below
import Derived.SizedLaws
namespace Go.Proofs.Ytpbadgghhiommaa.glassFastest
open Go.ChangeShapes Go.WideShapes Go.ChangeAt Go.RowKit Go.Ideal Go.Proofs.Ytpbadgghhiommaa.I
set_option linter.unusedVariables false
theorem own : ownKnob Try.prog.godebug = none := by kernel_rfl
theorem laidOut : laidOutB Try.prog = true := by kernel_rfl
set_option maxRecDepth 100000 in
theorem lifted (os : Os) (started : os.Started) (H : Type) (enc : TypeId × Value → H) :
    ReturnsInHanded {} Try.checked os 17 .any (Rows.glassFastestSpec.pre6 enc Try.prog Try.f17 Rows.glassFastestRow.domain false) (Rows.glassFastestSpec.post enc Try.prog Try.f17 false true false false) := by
  refine returnsInHanded_of_change_sized (C := Try.checked) own started (by kernel_rfl) Try.func17
    (ChangeSpec.witness6 (enc := enc) (C := Try.checked) false ⟨#[], #[.agg #[.int .i64 0, .slice none 0 0], .int .i64 0, .int .i64 0, .slice none 0 0, .slice none 0 0, .int .i64 0, .slice none 0 0], []⟩ 8 (by kernel_rfl) (by kernel_rfl) (by kernel_rfl) (by kernel_rfl)) ?_
  intro W base args ds gs before hval0 hW hcnd hsz0 _
  have hval : ∀ (j : Nat) t v, Try.f17.params[j]? = some t → args[j]? = some v → Value.okWide Try.prog W .any base t v := hval0
  have hW' := hW
  obtain ⟨p, q, hA0, hV, rfl, hfz, hnd⟩ := hW
  have hA : DataW.TrodAll enc Try.prog W 0 (fun _ => true) true Try.f17.params.toList args.toList ds p := hA0
  obtain ⟨rfl, rfl⟩ := trodVars_none hV
  have hlt := trodAll_lt hA
  obtain ⟨xs, hp, hlx, hox⟩ := readAll (μ := fun _ => none) (n := 6) hA (fun j t v h1 h2 => hval j t v (by rwa [Array.getElem?_toList] at h1) (by rwa [Array.getElem?_toList] at h2)) (by kernel_rfl)
  have hkeep : ∀ W', Below W.heap.size W W' → DataW.TrodAll enc Try.prog W' 0 (fun b => decide (b < W.heap.size)) true Try.f17.params.toList args.toList ds p := fun W' bel => trodAll_below laidOut hA (by kernel_rfl) bel hlt
  have hpw : PW (allOf W) (fun _ => none) xs args := ⟨by rw [hp.1, Array.length_toList], fun i h h' => by have := hp.2 i h (by rw [Array.length_toList]; exact h'); rwa [Array.getElem_toList] at this⟩
  have hlen : Try.f17.params.toList.length = 7 := by kernel_rfl
  rw [hlen] at hlx
  have hds := trodAll_ds hA
  rw [hlen] at hds
  -- four destructured arguments, made out of a list of known length
  obtain ⟨x0, x1, x2, x3, x4, x5, x6, rfl⟩ : ∃ x0 x1 x2 x3 x4 x5 x6, xs = [x0, x1, x2, x3, x4, x5, x6] := by
    match xs, hlx with
    | [x0, x1, x2, x3, x4, x5, x6], _ => exact ⟨x0, x1, x2, x3, x4, x5, x6, rfl⟩
  have o0 : OkV Try.prog 6 24 x0 := hox 0 (by decide) (by simp)
  obtain ⟨ys0, rfl, yl0, yo0⟩ := o0.struct (ts := [.i .i64, .sl [.i .i64, .i .i64, .i .i64, .i .i64, .i .i64]]) (by kernel_rfl) (by decide)
  obtain ⟨z0_0, z1_0, rfl⟩ := two yl0
  obtain ⟨b0, rfl, _⟩ := (yo0 0 (by decide) (by simp)).int
  obtain ⟨s0, rfl, l0⟩ := okZones (yo0 1 (by decide) (by simp))
  have o1 : OkV Try.prog 6 3 x1 := hox 1 (by decide) (by simp)
  obtain ⟨n1, rfl, i1, j1⟩ := (o1.one (c := .i .i64) (by kernel_rfl) (by kernel_rfl)).int
  have o2 : OkV Try.prog 6 3 x2 := hox 2 (by decide) (by simp)
  obtain ⟨n2, rfl, i2, j2⟩ := (o2.one (c := .i .i64) (by kernel_rfl) (by kernel_rfl)).int
  have o3 : OkV Try.prog 6 29 x3 := hox 3 (by decide) (by simp)
  obtain ⟨n3, rfl, i3⟩ := (o3.one (c := .sl [.i .i64]) (by kernel_rfl) (by kernel_rfl)).ints
  have o4 : OkV Try.prog 6 29 x4 := hox 4 (by decide) (by simp)
  obtain ⟨n4, rfl, i4⟩ := (o4.one (c := .sl [.i .i64]) (by kernel_rfl) (by kernel_rfl)).ints
  have o5 : OkV Try.prog 6 3 x5 := hox 5 (by decide) (by simp)
  obtain ⟨n5, rfl, i5, j5⟩ := (o5.one (c := .i .i64) (by kernel_rfl) (by kernel_rfl)).int
  have o6 : OkV Try.prog 6 29 x6 := hox 6 (by decide) (by simp)
  obtain ⟨n6, rfl, i6⟩ := (o6.one (c := .sl [.i .i64]) (by kernel_rfl) (by kernel_rfl)).ints
  obtain ⟨d0, d1, d2, d3, d4, d5, d6, rfl⟩ : ∃ d0 d1 d2 d3 d4 d5 d6, ds = [d0, d1, d2, d3, d4, d5, d6] := by
    match ds, hds with
    | [d0, d1, d2, d3, d4, d5, d6], _ => exact ⟨d0, d1, d2, d3, d4, d5, d6, rfl⟩
  refine (calls_of_ev (F := Try.f17) Try.func17 (by kernel_rfl) (by kernel_rfl) (GlassFastest_ok b0 s0 n1 n2 n3 n4 n5 n6 l0 i1 j1 i2 j2 i3 i4 i5 j5 i6 (Heap.of [])) hpw).mono fun e W' he => ?_
  obtain ⟨rv, Φ, μ, rfl, hrv, bel⟩ := he
  cases hrv
  exact ⟨_, rfl, _, _, _, [], _, [], hW', trodAll_mk1 (shut_bool (by kernel_rfl) _), hkeep W' bel, rfl, bel.frame _, fun h => by cases h⟩
theorem over : Rows.glassFastestRow.holds Try.pinned (OpenSpec.ofChange Rows.glassFastestSpec) :=
  OpenClaim.holds_of_wide 17 Try.f17 rfl rfl rfl rfl rfl rfl rfl ⟨rfl, rfl, rfl, rfl, rfl⟩ rfl rfl rfl rfl rfl (by kernel_rfl) Try.func17 (by kernel_rfl)
    (of_decide_eq_true (by kernel_rfl)) (by unfold Func.isWrapper; first | (rw [if_pos (by decide +kernel)]; kernel_rfl) | (rw [if_neg (by decide +kernel)]; exact ⟨rfl, rfl⟩))
    (fun os started H enc _ => lifted os started H enc)
theorem proved : Rows.GlassFastestSaid := over
#print axioms proved
end Go.Proofs.Ytpbadgghhiommaa.glassFastest
namespace Go.Proofs.Ytpbadgghhiommaa
/-- The row, under a short name, for the claim. -/
theorem glassFastest_holds : Rows.GlassFastestSaid := glassFastest.proved
end Go.Proofs.Ytpbadgghhiommaa
