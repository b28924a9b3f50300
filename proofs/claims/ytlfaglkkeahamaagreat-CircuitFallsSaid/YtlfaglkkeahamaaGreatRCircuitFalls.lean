/- The row CircuitFalls: whatever the arguments are, the statement returns true, and they read as they did. -/
import Derived.Test.YtlfaglkkeahamaaGreatKCircuitFalls
import Derived.Test.YtlfaglkkeahamaaGreatI3
import Derived.Test.YtlfaglkkeahamaaGreatRows
import Derived.OpenShut
import Derived.WalkKit
import Derived.ProofKit
import Derived.ShutString
import Derived.ChangeOld
import Derived.Below
import Derived.SizedLaws
namespace Go.Proofs.YtlfaglkkeahamaaGreat.circuitFalls
open Go.ChangeShapes Go.WideShapes Go.ChangeAt Go.RowKit Go.Ideal Go.Proofs.YtlfaglkkeahamaaGreat.I
set_option linter.unusedVariables false
theorem own : ownKnob Tryz.prog.godebug = none := by kernel_rfl
theorem laidOut : laidOutB Tryz.prog = true := by kernel_rfl
set_option maxRecDepth 100000 in
theorem lifted (os : Os) (started : os.Started) (H : Type) (enc : TypeId × Value → H) :
    ReturnsInHanded {} Tryz.checked os 5 .any (Rows.circuitFallsSpec.pre6 enc Tryz.prog Tryz.f5 Rows.circuitFallsRow.domain false) (Rows.circuitFallsSpec.post enc Tryz.prog Tryz.f5 false true false false) := by
  refine returnsInHanded_of_change_sized (C := Tryz.checked) own started (by kernel_rfl) Tryz.func5
    (ChangeSpec.witness6 (enc := enc) (C := Tryz.checked) false ⟨#[], #[.slice none 0 0], []⟩ 8 (by kernel_rfl) (by kernel_rfl) (by kernel_rfl) (by kernel_rfl)) ?_
  intro W base args ds gs before hval0 hW hcnd hsz0 _
  have hval : ∀ (j : Nat) t v, Tryz.f5.params[j]? = some t → args[j]? = some v → Value.okWide Tryz.prog W .any base t v := hval0
  have hW' := hW
  obtain ⟨p, q, hA0, hV, rfl, hfz, hnd⟩ := hW
  have hA : DataW.TrodAll enc Tryz.prog W 0 (fun _ => true) true Tryz.f5.params.toList args.toList ds p := hA0
  obtain ⟨rfl, rfl⟩ := trodVars_none hV
  have hlt := trodAll_lt hA
  obtain ⟨xs, hp, hlx, hox⟩ := readAll (μ := fun _ => none) (n := 6) hA (fun j t v h1 h2 => hval j t v (by rwa [Array.getElem?_toList] at h1) (by rwa [Array.getElem?_toList] at h2)) (by kernel_rfl)
  have hkeep : ∀ W', Below W.heap.size W W' → DataW.TrodAll enc Tryz.prog W' 0 (fun b => decide (b < W.heap.size)) true Tryz.f5.params.toList args.toList ds p := fun W' bel => trodAll_below laidOut hA (by kernel_rfl) bel hlt
  have hpw : PW (allOf W) (fun _ => none) xs args := ⟨by rw [hp.1, Array.length_toList], fun i h h' => by have := hp.2 i h (by rw [Array.length_toList]; exact h'); rwa [Array.getElem_toList] at this⟩
  have hlen : Tryz.f5.params.toList.length = 1 := by kernel_rfl
  rw [hlen] at hlx
  have hds := trodAll_ds hA
  rw [hlen] at hds
  -- four destructured arguments, made out of a list of known length
  obtain ⟨x0, rfl⟩ : ∃ x0, xs = [x0] := by
    match xs, hlx with
    | [x0], _ => exact ⟨x0, rfl⟩
  have o0 : OkV Tryz.prog 6 27 x0 := hox 0 (by decide) (by simp)
  obtain ⟨n0, rfl, i0⟩ := (o0.one (c := .sl [.i .i64]) (by kernel_rfl) (by kernel_rfl)).ints
  obtain ⟨d0, rfl⟩ : ∃ d0, ds = [d0] := by
    match ds, hds with
    | [d0], _ => exact ⟨d0, rfl⟩
  refine (calls_of_ev (F := Tryz.f5) Tryz.func5 (by kernel_rfl) (by kernel_rfl) (CircuitFalls_ok n0 i0 (Heap.of [])) hpw).mono fun e W' he => ?_
  obtain ⟨rv, Φ, μ, rfl, hrv, bel⟩ := he
  cases hrv
  exact ⟨_, rfl, _, _, _, [], _, [], hW', trodAll_mk1 (shut_bool (by kernel_rfl) _), hkeep W' bel, rfl, bel.frame _, fun h => by cases h⟩
theorem over : Rows.circuitFallsRow.holds Tryz.pinned (OpenSpec.ofChange Rows.circuitFallsSpec) :=
  OpenClaim.holds_of_wide 5 Tryz.f5 rfl rfl rfl rfl rfl rfl rfl ⟨rfl, rfl, rfl, rfl, rfl⟩ rfl rfl rfl rfl rfl (by kernel_rfl) Tryz.func5 (by kernel_rfl)
    (of_decide_eq_true (by kernel_rfl)) (by unfold Func.isWrapper; first | (rw [if_pos (by decide +kernel)]; kernel_rfl) | (rw [if_neg (by decide +kernel)]; exact ⟨rfl, rfl⟩))
    (fun os started H enc _ => lifted os started H enc)
theorem proved : Rows.CircuitFallsSaid := over
#print axioms proved
end Go.Proofs.YtlfaglkkeahamaaGreat.circuitFalls
namespace Go.Proofs.YtlfaglkkeahamaaGreat
/-- The row, under a short name, for the claim. -/
theorem circuitFalls_holds : Rows.CircuitFallsSaid := circuitFalls.proved
end Go.Proofs.YtlfaglkkeahamaaGreat
