/- The row CircuitPoints: whatever the arguments are, the statement returns true, and they read as they did. -/
import Derived.Test.YtlfaglkkeahamaaGreatKCircuitPoints
import Derived.Test.YtlfaglkkeahamaaGreatI3
import Derived.Test.YtlfaglkkeahamaaGreatRows
import Derived.OpenShut
import Derived.WalkKit
import Derived.ProofKit
import Derived.ShutString
import Derived.ChangeOld
import Derived.Below
import Derived.SizedLaws
namespace Go.Proofs.YtlfaglkkeahamaaGreat.circuitPoints
open Go.ChangeShapes Go.WideShapes Go.ChangeAt Go.RowKit Go.Ideal Go.Proofs.YtlfaglkkeahamaaGreat.I
set_option linter.unusedVariables false
theorem own : ownKnob Tryz.prog.godebug = none := by kernel_rfl
theorem laidOut : laidOutB Tryz.prog = true := by kernel_rfl
set_option maxRecDepth 100000 in
theorem lifted (os : Os) (started : os.Started) (H : Type) (enc : TypeId × Value → H) :
    ReturnsInHanded {} Tryz.checked os 10 .any (Rows.circuitPointsSpec.pre6 enc Tryz.prog Tryz.f10 Rows.circuitPointsRow.domain false) (Rows.circuitPointsSpec.post enc Tryz.prog Tryz.f10 false true false false) := by
  refine returnsInHanded_of_change_sized (C := Tryz.checked) own started (by kernel_rfl) Tryz.func10
    (ChangeSpec.witness6 (enc := enc) (C := Tryz.checked) false ⟨#[], #[.agg #[.slice none 0 0, .int .i64 0, .slice none 0 0], .int .i64 0, .slice none 0 0, .agg #[.int .i64 0, .int .i64 0], .slice none 0 0], []⟩ 8 (by kernel_rfl) (by kernel_rfl) (by kernel_rfl) (by kernel_rfl)) ?_
  intro W base args ds gs before hval0 hW hcnd hsz0 _
  have hval : ∀ (j : Nat) t v, Tryz.f10.params[j]? = some t → args[j]? = some v → Value.okWide Tryz.prog W .any base t v := hval0
  have hW' := hW
  obtain ⟨p, q, hA0, hV, rfl, hfz, hnd⟩ := hW
  have hA : DataW.TrodAll enc Tryz.prog W 0 (fun _ => true) true Tryz.f10.params.toList args.toList ds p := hA0
  obtain ⟨rfl, rfl⟩ := trodVars_none hV
  have hlt := trodAll_lt hA
  obtain ⟨xs, hp, hlx, hox⟩ := readAll (μ := fun _ => none) (n := 6) hA (fun j t v h1 h2 => hval j t v (by rwa [Array.getElem?_toList] at h1) (by rwa [Array.getElem?_toList] at h2)) (by kernel_rfl)
  have hkeep : ∀ W', Below W.heap.size W W' → DataW.TrodAll enc Tryz.prog W' 0 (fun b => decide (b < W.heap.size)) true Tryz.f10.params.toList args.toList ds p := fun W' bel => trodAll_below laidOut hA (by kernel_rfl) bel hlt
  have hpw : PW (allOf W) (fun _ => none) xs args := ⟨by rw [hp.1, Array.length_toList], fun i h h' => by have := hp.2 i h (by rw [Array.length_toList]; exact h'); rwa [Array.getElem_toList] at this⟩
  have hlen : Tryz.f10.params.toList.length = 5 := by kernel_rfl
  rw [hlen] at hlx
  have hds := trodAll_ds hA
  rw [hlen] at hds
  -- four destructured arguments, made out of a list of known length
  obtain ⟨x0, x1, x2, x3, x4, rfl⟩ : ∃ x0 x1 x2 x3 x4, xs = [x0, x1, x2, x3, x4] := by
    match xs, hlx with
    | [x0, x1, x2, x3, x4], _ => exact ⟨x0, x1, x2, x3, x4, rfl⟩
  have o0 : OkV Tryz.prog 6 25 x0 := hox 0 (by decide) (by simp)
  obtain ⟨ys0, rfl, yl0, yo0⟩ := o0.struct (ts := ctN) (by kernel_rfl) (by decide)
  obtain ⟨s0, rfl, l0⟩ := okNet yl0 yo0
  have o1 : OkV Tryz.prog 6 3 x1 := hox 1 (by decide) (by simp)
  obtain ⟨n1, rfl, i1, j1⟩ := (o1.one (c := .i .i64) (by kernel_rfl) (by kernel_rfl)).int
  have o2 : OkV Tryz.prog 6 42 x2 := hox 2 (by decide) (by simp)
  obtain ⟨s2, rfl, l2, _⟩ := okRanges (o2.one (c := .sl [.i .i64, .i .i64]) (by kernel_rfl) (by kernel_rfl))
  have o3 : OkV Tryz.prog 6 50 x3 := hox 3 (by decide) (by simp)
  obtain ⟨ys3, rfl, yl3, yo3⟩ := o3.struct (ts := [.i .i64, .i .i64]) (by kernel_rfl) (by decide)
  obtain ⟨z3_0, z3_1, rfl⟩ := two yl3
  obtain ⟨v3_0, rfl, w3_0⟩ := (yo3 0 (by decide) (by simp)).int
  obtain ⟨v3_1, rfl, w3_1⟩ := (yo3 1 (by decide) (by simp)).int
  have o4 : OkV Tryz.prog 6 27 x4 := hox 4 (by decide) (by simp)
  obtain ⟨n4, rfl, i4⟩ := (o4.one (c := .sl [.i .i64]) (by kernel_rfl) (by kernel_rfl)).ints
  obtain ⟨d0, d1, d2, d3, d4, rfl⟩ : ∃ d0 d1 d2 d3 d4, ds = [d0, d1, d2, d3, d4] := by
    match ds, hds with
    | [d0, d1, d2, d3, d4], _ => exact ⟨d0, d1, d2, d3, d4, rfl⟩
  refine (calls_of_ev (F := Tryz.f10) Tryz.func10 (by kernel_rfl) (by kernel_rfl) (CircuitPoints_ok s0 n1 s2 v3_0 v3_1 n4 l0 i1 j1 l2  i4 (Heap.of [])) hpw).mono fun e W' he => ?_
  obtain ⟨rv, Φ, μ, rfl, hrv, bel⟩ := he
  cases hrv
  exact ⟨_, rfl, _, _, _, [], _, [], hW', trodAll_mk1 (shut_bool (by kernel_rfl) _), hkeep W' bel, rfl, bel.frame _, fun h => by cases h⟩
theorem over : Rows.circuitPointsRow.holds Tryz.pinned (OpenSpec.ofChange Rows.circuitPointsSpec) :=
  OpenClaim.holds_of_wide 10 Tryz.f10 rfl rfl rfl rfl rfl rfl rfl ⟨rfl, rfl, rfl, rfl, rfl⟩ rfl rfl rfl rfl rfl (by kernel_rfl) Tryz.func10 (by kernel_rfl)
    (of_decide_eq_true (by kernel_rfl)) (by unfold Func.isWrapper; first | (rw [if_pos (by decide +kernel)]; kernel_rfl) | (rw [if_neg (by decide +kernel)]; exact ⟨rfl, rfl⟩))
    (fun os started H enc _ => lifted os started H enc)
theorem proved : Rows.CircuitPointsSaid := over
#print axioms proved
end Go.Proofs.YtlfaglkkeahamaaGreat.circuitPoints
namespace Go.Proofs.YtlfaglkkeahamaaGreat
/-- The row, under a short name, for the claim. -/
theorem circuitPoints_holds : Rows.CircuitPointsSaid := circuitPoints.proved
end Go.Proofs.YtlfaglkkeahamaaGreat
