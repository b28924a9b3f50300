/-
  No cell of these rows narrows 'for every input' (looked for: loops, veiled, ifaces, maps, wideKeys, modest, calm, conditions, laid).
  DERIVED. THE GIVEN ROWS OF THIS SEAT. 13 by the template 'for every input the law returns true; each argument reads behind the call as it read before'; 0 by the template 'total and deterministic' (their statements: YtbomgfbfnkfamaaTotals.lean).
  GIVEN WITH THE SEED: the statements are not yours to turn. If you find one false, say at which input.
  Laid BY PROGRAM, IN A SANDBOX (cutbox-rows.mjs): the forced cells as the released guide's own fill.sh prints them over the translation 3f1914c5dca121d1… (all of the seat's roots in one cut). By AI agents, Wed Nov 11 2026. No macro, syntax, notation, axiom, sorry.
-/
import Derived.Test.YtbomgfbfnkfamaaChecked
import GoSem.Claim
import GoSem.ClaimJoined
import GoSem.ClaimMapViews
import Derived.JoinedTies
import Derived.KernelRfl
namespace Go.Proofs.Ytbomgfbfnkfamaa
/- THE CELL 'sum', in the pinned program and in every row, IS THE sha256 OF THE DUMP (.gsa) THAT YtbomgfbfnkfamaaProg.lean LOADS. Nothing in Lean hashes anything: it is a label: what it is worth is what the hold of that sum in a sandbox is worth. -/
noncomputable def Try.pinned : Pinned := { name := "ytbomgfbfnkfamaa", sum := "3f1914c5dca121d19fb33306d8f8d34dec1dd7aece2d229db0dff2ba612d18e8", checked := Try.checked }
namespace Rows
def none {H : Type} : Left H := { results := [], args := [] }

/-- 'thermionlaw02.CurveAt': WHATEVER THE INPUT: true; the input reads as it did. -/
def curveAtSpec : ChangeSpec := { name := "curveAt", fn := fun _ => fun
  | [d1, d2, d3, d4] => { results := [.lit (.bool true)], args := [d1, d2, d3, d4] }
  | _ => none }
def curveAtRow : OpenClaim := { program := "ytbomgfbfnkfamaa", sum := "3f1914c5dca121d19fb33306d8f8d34dec1dd7aece2d229db0dff2ba612d18e8", func := "thermion/thermionlaw02.CurveAt", spec := "curveAt", unfollowed := true, recurses := true, apart := false }
def CurveAtSaid : Prop := curveAtRow.holds Try.pinned (OpenSpec.ofChange curveAtSpec)

/-- ITS FALSE NEIGHBOUR: 'it returns false'. Refute it at one input. -/
def curveAtWrong : ChangeSpec := { name := "curveAt", fn := fun _ => fun
  | [d1, d2, d3, d4] => { results := [.lit (.bool false)], args := [d1, d2, d3, d4] }
  | _ => none }
def CurveAtWrongFalsely : Prop := curveAtRow.holds Try.pinned (OpenSpec.ofChange curveAtWrong)

/-- 'thermionlaw02.CurveRises': WHATEVER THE INPUT: true; the input reads as it did. -/
def curveRisesSpec : ChangeSpec := { name := "curveRises", fn := fun _ => fun
  | [d1, d2, d3, d4] => { results := [.lit (.bool true)], args := [d1, d2, d3, d4] }
  | _ => none }
def curveRisesRow : OpenClaim := { program := "ytbomgfbfnkfamaa", sum := "3f1914c5dca121d19fb33306d8f8d34dec1dd7aece2d229db0dff2ba612d18e8", func := "thermion/thermionlaw02.CurveRises", spec := "curveRises", unfollowed := true, recurses := true, apart := false }
def CurveRisesSaid : Prop := curveRisesRow.holds Try.pinned (OpenSpec.ofChange curveRisesSpec)

/-- ITS FALSE NEIGHBOUR: 'it returns false'. Refute it at one input. -/
def curveRisesWrong : ChangeSpec := { name := "curveRises", fn := fun _ => fun
  | [d1, d2, d3, d4] => { results := [.lit (.bool false)], args := [d1, d2, d3, d4] }
  | _ => none }
def CurveRisesWrongFalsely : Prop := curveRisesRow.holds Try.pinned (OpenSpec.ofChange curveRisesWrong)

/-- 'thermionlaw02.CurveWithin': WHATEVER THE INPUT: true; the input reads as it did. -/
def curveWithinSpec : ChangeSpec := { name := "curveWithin", fn := fun _ => fun
  | [d1, d2, d3, d4] => { results := [.lit (.bool true)], args := [d1, d2, d3, d4] }
  | _ => none }
def curveWithinRow : OpenClaim := { program := "ytbomgfbfnkfamaa", sum := "3f1914c5dca121d19fb33306d8f8d34dec1dd7aece2d229db0dff2ba612d18e8", func := "thermion/thermionlaw02.CurveWithin", spec := "curveWithin", unfollowed := true, recurses := true, apart := false }
def CurveWithinSaid : Prop := curveWithinRow.holds Try.pinned (OpenSpec.ofChange curveWithinSpec)

/-- ITS FALSE NEIGHBOUR: 'it returns false'. Refute it at one input. -/
def curveWithinWrong : ChangeSpec := { name := "curveWithin", fn := fun _ => fun
  | [d1, d2, d3, d4] => { results := [.lit (.bool false)], args := [d1, d2, d3, d4] }
  | _ => none }
def CurveWithinWrongFalsely : Prop := curveWithinRow.holds Try.pinned (OpenSpec.ofChange curveWithinWrong)

/-- 'thermionlaw02.CurveLaws': WHATEVER THE INPUT: true; the input reads as it did. -/
def curveLawsSpec : ChangeSpec := { name := "curveLaws", fn := fun _ => fun
  | [d1, d2, d3, d4, d5, d6] => { results := [.lit (.bool true)], args := [d1, d2, d3, d4, d5, d6] }
  | _ => none }
def curveLawsRow : OpenClaim := { program := "ytbomgfbfnkfamaa", sum := "3f1914c5dca121d19fb33306d8f8d34dec1dd7aece2d229db0dff2ba612d18e8", func := "thermion/thermionlaw02.CurveLaws", spec := "curveLaws", unfollowed := true, recurses := true, apart := false }
def CurveLawsSaid : Prop := curveLawsRow.holds Try.pinned (OpenSpec.ofChange curveLawsSpec)

/-- ITS FALSE NEIGHBOUR: 'it returns false'. Refute it at one input. -/
def curveLawsWrong : ChangeSpec := { name := "curveLaws", fn := fun _ => fun
  | [d1, d2, d3, d4, d5, d6] => { results := [.lit (.bool false)], args := [d1, d2, d3, d4, d5, d6] }
  | _ => none }
def CurveLawsWrongFalsely : Prop := curveLawsRow.holds Try.pinned (OpenSpec.ofChange curveLawsWrong)

/-- 'thermionlaw02.CurveChecks': WHATEVER THE INPUT: true; the input reads as it did. -/
def curveChecksSpec : ChangeSpec := { name := "curveChecks", fn := fun _ => fun
  | [d1, d2, d3] => { results := [.lit (.bool true)], args := [d1, d2, d3] }
  | _ => none }
def curveChecksRow : OpenClaim := { program := "ytbomgfbfnkfamaa", sum := "3f1914c5dca121d19fb33306d8f8d34dec1dd7aece2d229db0dff2ba612d18e8", func := "thermion/thermionlaw02.CurveChecks", spec := "curveChecks", unfollowed := true, recurses := true, apart := false }
def CurveChecksSaid : Prop := curveChecksRow.holds Try.pinned (OpenSpec.ofChange curveChecksSpec)

/-- ITS FALSE NEIGHBOUR: 'it returns false'. Refute it at one input. -/
def curveChecksWrong : ChangeSpec := { name := "curveChecks", fn := fun _ => fun
  | [d1, d2, d3] => { results := [.lit (.bool false)], args := [d1, d2, d3] }
  | _ => none }
def CurveChecksWrongFalsely : Prop := curveChecksRow.holds Try.pinned (OpenSpec.ofChange curveChecksWrong)

/-- 'thermionlaw02.CurveBetween': WHATEVER THE INPUT: true; the input reads as it did. -/
def curveBetweenSpec : ChangeSpec := { name := "curveBetween", fn := fun _ => fun
  | [d1, d2, d3, d4, d5] => { results := [.lit (.bool true)], args := [d1, d2, d3, d4, d5] }
  | _ => none }
def curveBetweenRow : OpenClaim := { program := "ytbomgfbfnkfamaa", sum := "3f1914c5dca121d19fb33306d8f8d34dec1dd7aece2d229db0dff2ba612d18e8", func := "thermion/thermionlaw02.CurveBetween", spec := "curveBetween", unfollowed := true, recurses := true, apart := false }
def CurveBetweenSaid : Prop := curveBetweenRow.holds Try.pinned (OpenSpec.ofChange curveBetweenSpec)

/-- ITS FALSE NEIGHBOUR: 'it returns false'. Refute it at one input. -/
def curveBetweenWrong : ChangeSpec := { name := "curveBetween", fn := fun _ => fun
  | [d1, d2, d3, d4, d5] => { results := [.lit (.bool false)], args := [d1, d2, d3, d4, d5] }
  | _ => none }
def CurveBetweenWrongFalsely : Prop := curveBetweenRow.holds Try.pinned (OpenSpec.ofChange curveBetweenWrong)

/-- 'thermionlaw02.CurveNarrows': WHATEVER THE INPUT: true; the input reads as it did. -/
def curveNarrowsSpec : ChangeSpec := { name := "curveNarrows", fn := fun _ => fun
  | [d1, d2, d3] => { results := [.lit (.bool true)], args := [d1, d2, d3] }
  | _ => none }
def curveNarrowsRow : OpenClaim := { program := "ytbomgfbfnkfamaa", sum := "3f1914c5dca121d19fb33306d8f8d34dec1dd7aece2d229db0dff2ba612d18e8", func := "thermion/thermionlaw02.CurveNarrows", spec := "curveNarrows", unfollowed := true, recurses := true, apart := false }
def CurveNarrowsSaid : Prop := curveNarrowsRow.holds Try.pinned (OpenSpec.ofChange curveNarrowsSpec)

/-- ITS FALSE NEIGHBOUR: 'it returns false'. Refute it at one input. -/
def curveNarrowsWrong : ChangeSpec := { name := "curveNarrows", fn := fun _ => fun
  | [d1, d2, d3] => { results := [.lit (.bool false)], args := [d1, d2, d3] }
  | _ => none }
def CurveNarrowsWrongFalsely : Prop := curveNarrowsRow.holds Try.pinned (OpenSpec.ofChange curveNarrowsWrong)

/-- 'thermionlaw02.CurveNarrowed': WHATEVER THE INPUT: true; the input reads as it did. -/
def curveNarrowedSpec : ChangeSpec := { name := "curveNarrowed", fn := fun _ => fun
  | [d] => { results := [.lit (.bool true)], args := [d] }
  | _ => none }
def curveNarrowedRow : OpenClaim := { program := "ytbomgfbfnkfamaa", sum := "3f1914c5dca121d19fb33306d8f8d34dec1dd7aece2d229db0dff2ba612d18e8", func := "thermion/thermionlaw02.CurveNarrowed", spec := "curveNarrowed", unfollowed := true, recurses := true, apart := false }
def CurveNarrowedSaid : Prop := curveNarrowedRow.holds Try.pinned (OpenSpec.ofChange curveNarrowedSpec)

/-- ITS FALSE NEIGHBOUR: 'it returns false'. Refute it at one input. -/
def curveNarrowedWrong : ChangeSpec := { name := "curveNarrowed", fn := fun _ => fun
  | [d] => { results := [.lit (.bool false)], args := [d] }
  | _ => none }
def CurveNarrowedWrongFalsely : Prop := curveNarrowedRow.holds Try.pinned (OpenSpec.ofChange curveNarrowedWrong)

/-- 'thermionlaw02.CurveLines': WHATEVER THE INPUT: true; the input reads as it did. -/
def curveLinesSpec : ChangeSpec := { name := "curveLines", fn := fun _ => fun
  | [d] => { results := [.lit (.bool true)], args := [d] }
  | _ => none }
def curveLinesRow : OpenClaim := { program := "ytbomgfbfnkfamaa", sum := "3f1914c5dca121d19fb33306d8f8d34dec1dd7aece2d229db0dff2ba612d18e8", func := "thermion/thermionlaw02.CurveLines", spec := "curveLines", unfollowed := true, recurses := true, apart := false }
def CurveLinesSaid : Prop := curveLinesRow.holds Try.pinned (OpenSpec.ofChange curveLinesSpec)

/-- ITS FALSE NEIGHBOUR: 'it returns false'. Refute it at one input. -/
def curveLinesWrong : ChangeSpec := { name := "curveLines", fn := fun _ => fun
  | [d] => { results := [.lit (.bool false)], args := [d] }
  | _ => none }
def CurveLinesWrongFalsely : Prop := curveLinesRow.holds Try.pinned (OpenSpec.ofChange curveLinesWrong)

/-- 'thermionlaw02.CurveSlopes': WHATEVER THE INPUT: true; the input reads as it did. -/
def curveSlopesSpec : ChangeSpec := { name := "curveSlopes", fn := fun _ => fun
  | [d1, d2, d3, d4, d5, d6] => { results := [.lit (.bool true)], args := [d1, d2, d3, d4, d5, d6] }
  | _ => none }
def curveSlopesRow : OpenClaim := { program := "ytbomgfbfnkfamaa", sum := "3f1914c5dca121d19fb33306d8f8d34dec1dd7aece2d229db0dff2ba612d18e8", func := "thermion/thermionlaw02.CurveSlopes", spec := "curveSlopes", unfollowed := true, recurses := true, apart := false }
def CurveSlopesSaid : Prop := curveSlopesRow.holds Try.pinned (OpenSpec.ofChange curveSlopesSpec)

/-- ITS FALSE NEIGHBOUR: 'it returns false'. Refute it at one input. -/
def curveSlopesWrong : ChangeSpec := { name := "curveSlopes", fn := fun _ => fun
  | [d1, d2, d3, d4, d5, d6] => { results := [.lit (.bool false)], args := [d1, d2, d3, d4, d5, d6] }
  | _ => none }
def CurveSlopesWrongFalsely : Prop := curveSlopesRow.holds Try.pinned (OpenSpec.ofChange curveSlopesWrong)

/-- 'thermionlaw02.CurveTubes': WHATEVER THE INPUT: true; the input reads as it did. -/
def curveTubesSpec : ChangeSpec := { name := "curveTubes", fn := fun _ => fun
  | [d1, d2, d3, d4, d5] => { results := [.lit (.bool true)], args := [d1, d2, d3, d4, d5] }
  | _ => none }
def curveTubesRow : OpenClaim := { program := "ytbomgfbfnkfamaa", sum := "3f1914c5dca121d19fb33306d8f8d34dec1dd7aece2d229db0dff2ba612d18e8", func := "thermion/thermionlaw02.CurveTubes", spec := "curveTubes", unfollowed := true, recurses := true, apart := false }
def CurveTubesSaid : Prop := curveTubesRow.holds Try.pinned (OpenSpec.ofChange curveTubesSpec)

/-- ITS FALSE NEIGHBOUR: 'it returns false'. Refute it at one input. -/
def curveTubesWrong : ChangeSpec := { name := "curveTubes", fn := fun _ => fun
  | [d1, d2, d3, d4, d5] => { results := [.lit (.bool false)], args := [d1, d2, d3, d4, d5] }
  | _ => none }
def CurveTubesWrongFalsely : Prop := curveTubesRow.holds Try.pinned (OpenSpec.ofChange curveTubesWrong)

/-- 'thermionlaw02.CurveInside': WHATEVER THE INPUT: true; the input reads as it did. -/
def curveInsideSpec : ChangeSpec := { name := "curveInside", fn := fun _ => fun
  | [d1, d2, d3] => { results := [.lit (.bool true)], args := [d1, d2, d3] }
  | _ => none }
def curveInsideRow : OpenClaim := { program := "ytbomgfbfnkfamaa", sum := "3f1914c5dca121d19fb33306d8f8d34dec1dd7aece2d229db0dff2ba612d18e8", func := "thermion/thermionlaw02.CurveInside", spec := "curveInside", unfollowed := true, recurses := true, apart := false }
def CurveInsideSaid : Prop := curveInsideRow.holds Try.pinned (OpenSpec.ofChange curveInsideSpec)

/-- ITS FALSE NEIGHBOUR: 'it returns false'. Refute it at one input. -/
def curveInsideWrong : ChangeSpec := { name := "curveInside", fn := fun _ => fun
  | [d1, d2, d3] => { results := [.lit (.bool false)], args := [d1, d2, d3] }
  | _ => none }
def CurveInsideWrongFalsely : Prop := curveInsideRow.holds Try.pinned (OpenSpec.ofChange curveInsideWrong)

/-- 'thermionlaw02.CurveChains': WHATEVER THE INPUT: true; the input reads as it did. -/
def curveChainsSpec : ChangeSpec := { name := "curveChains", fn := fun _ => fun
  | [d] => { results := [.lit (.bool true)], args := [d] }
  | _ => none }
def curveChainsRow : OpenClaim := { program := "ytbomgfbfnkfamaa", sum := "3f1914c5dca121d19fb33306d8f8d34dec1dd7aece2d229db0dff2ba612d18e8", func := "thermion/thermionlaw02.CurveChains", spec := "curveChains", unfollowed := true, recurses := true, apart := false }
def CurveChainsSaid : Prop := curveChainsRow.holds Try.pinned (OpenSpec.ofChange curveChainsSpec)

/-- ITS FALSE NEIGHBOUR: 'it returns false'. Refute it at one input. -/
def curveChainsWrong : ChangeSpec := { name := "curveChains", fn := fun _ => fun
  | [d] => { results := [.lit (.bool false)], args := [d] }
  | _ => none }
def CurveChainsWrongFalsely : Prop := curveChainsRow.holds Try.pinned (OpenSpec.ofChange curveChainsWrong)

/- THE SECOND FORM. 'bulk': how many values and letters a reading holds, each counted each time it is reached (what is shared counts as often as it is met; a slice's spare places count too). A statement '..UptoSaid' is the law's where the arguments, and the package variables that the reading takes, are together of bulk at most 1048576: NARROWER than '..Said'. Prove '..Said' where nothing that the law and all that it calls make is longer than what came in: it says more and counts as full. Else prove '..UptoSaid'. A law counts once. -/
mutual
def uptoBulk {H : Type} : DataW H → Nat
  | .lit (.string bytes) => bytes.length + 1
  | .lit _ => 1
  | .nil => 1
  | .ptr d => uptoBulk d + 1
  | .slice elems spare => uptoBulkAll elems + uptoBulkAll spare + 1
  | .agg parts => uptoBulkAll parts + 1
  | .iface _ d => uptoBulk d + 1
  | .map entries => uptoBulkEntries entries + 1
  | .held _ => 1
def uptoBulkAll {H : Type} : List (DataW H) → Nat
  | [] => 0
  | d :: r => uptoBulk d + uptoBulkAll r
def uptoBulkEntries {H : Type} : List (Lit × DataW H) → Nat
  | [] => 0
  | x :: r => uptoBulkEntry x + uptoBulkEntries r
def uptoBulkEntry {H : Type} : Lit × DataW H → Nat
  | (.string bytes, d) => bytes.length + uptoBulk d + 1
  | (_, d) => uptoBulk d + 1
 end
def uptoSmall : (H : Type) → List (DataW H) → Bool := fun _ ds => decide (uptoBulkAll ds ≤ 1048576)
def OpenSpec.upto (s : _root_.Go.ChangeSpec) : _root_.Go.OpenSpec := { _root_.Go.OpenSpec.ofChange s with cond := some uptoSmall }

/-- 'thermionlaw02.CurveAt', WHERE WHAT IT READS IS OF BULK AT MOST 1048576: true; the input reads as it did. -/
def curveAtUptoRow : OpenClaim := { program := "ytbomgfbfnkfamaa", sum := "3f1914c5dca121d19fb33306d8f8d34dec1dd7aece2d229db0dff2ba612d18e8", func := "thermion/thermionlaw02.CurveAt", spec := "curveAt", unfollowed := true, recurses := true, apart := false, narrowed := true }
def CurveAtUptoSaid : Prop := curveAtUptoRow.holds Try.pinned (OpenSpec.upto curveAtSpec)

/-- 'thermionlaw02.CurveRises', WHERE WHAT IT READS IS OF BULK AT MOST 1048576: true; the input reads as it did. -/
def curveRisesUptoRow : OpenClaim := { program := "ytbomgfbfnkfamaa", sum := "3f1914c5dca121d19fb33306d8f8d34dec1dd7aece2d229db0dff2ba612d18e8", func := "thermion/thermionlaw02.CurveRises", spec := "curveRises", unfollowed := true, recurses := true, apart := false, narrowed := true }
def CurveRisesUptoSaid : Prop := curveRisesUptoRow.holds Try.pinned (OpenSpec.upto curveRisesSpec)

/-- 'thermionlaw02.CurveWithin', WHERE WHAT IT READS IS OF BULK AT MOST 1048576: true; the input reads as it did. -/
def curveWithinUptoRow : OpenClaim := { program := "ytbomgfbfnkfamaa", sum := "3f1914c5dca121d19fb33306d8f8d34dec1dd7aece2d229db0dff2ba612d18e8", func := "thermion/thermionlaw02.CurveWithin", spec := "curveWithin", unfollowed := true, recurses := true, apart := false, narrowed := true }
def CurveWithinUptoSaid : Prop := curveWithinUptoRow.holds Try.pinned (OpenSpec.upto curveWithinSpec)

/-- 'thermionlaw02.CurveLaws', WHERE WHAT IT READS IS OF BULK AT MOST 1048576: true; the input reads as it did. -/
def curveLawsUptoRow : OpenClaim := { program := "ytbomgfbfnkfamaa", sum := "3f1914c5dca121d19fb33306d8f8d34dec1dd7aece2d229db0dff2ba612d18e8", func := "thermion/thermionlaw02.CurveLaws", spec := "curveLaws", unfollowed := true, recurses := true, apart := false, narrowed := true }
def CurveLawsUptoSaid : Prop := curveLawsUptoRow.holds Try.pinned (OpenSpec.upto curveLawsSpec)

/-- 'thermionlaw02.CurveChecks', WHERE WHAT IT READS IS OF BULK AT MOST 1048576: true; the input reads as it did. -/
def curveChecksUptoRow : OpenClaim := { program := "ytbomgfbfnkfamaa", sum := "3f1914c5dca121d19fb33306d8f8d34dec1dd7aece2d229db0dff2ba612d18e8", func := "thermion/thermionlaw02.CurveChecks", spec := "curveChecks", unfollowed := true, recurses := true, apart := false, narrowed := true }
def CurveChecksUptoSaid : Prop := curveChecksUptoRow.holds Try.pinned (OpenSpec.upto curveChecksSpec)

/-- 'thermionlaw02.CurveBetween', WHERE WHAT IT READS IS OF BULK AT MOST 1048576: true; the input reads as it did. -/
def curveBetweenUptoRow : OpenClaim := { program := "ytbomgfbfnkfamaa", sum := "3f1914c5dca121d19fb33306d8f8d34dec1dd7aece2d229db0dff2ba612d18e8", func := "thermion/thermionlaw02.CurveBetween", spec := "curveBetween", unfollowed := true, recurses := true, apart := false, narrowed := true }
def CurveBetweenUptoSaid : Prop := curveBetweenUptoRow.holds Try.pinned (OpenSpec.upto curveBetweenSpec)

/-- 'thermionlaw02.CurveNarrows', WHERE WHAT IT READS IS OF BULK AT MOST 1048576: true; the input reads as it did. -/
def curveNarrowsUptoRow : OpenClaim := { program := "ytbomgfbfnkfamaa", sum := "3f1914c5dca121d19fb33306d8f8d34dec1dd7aece2d229db0dff2ba612d18e8", func := "thermion/thermionlaw02.CurveNarrows", spec := "curveNarrows", unfollowed := true, recurses := true, apart := false, narrowed := true }
def CurveNarrowsUptoSaid : Prop := curveNarrowsUptoRow.holds Try.pinned (OpenSpec.upto curveNarrowsSpec)

/-- 'thermionlaw02.CurveNarrowed', WHERE WHAT IT READS IS OF BULK AT MOST 1048576: true; the input reads as it did. -/
def curveNarrowedUptoRow : OpenClaim := { program := "ytbomgfbfnkfamaa", sum := "3f1914c5dca121d19fb33306d8f8d34dec1dd7aece2d229db0dff2ba612d18e8", func := "thermion/thermionlaw02.CurveNarrowed", spec := "curveNarrowed", unfollowed := true, recurses := true, apart := false, narrowed := true }
def CurveNarrowedUptoSaid : Prop := curveNarrowedUptoRow.holds Try.pinned (OpenSpec.upto curveNarrowedSpec)

/-- 'thermionlaw02.CurveLines', WHERE WHAT IT READS IS OF BULK AT MOST 1048576: true; the input reads as it did. -/
def curveLinesUptoRow : OpenClaim := { program := "ytbomgfbfnkfamaa", sum := "3f1914c5dca121d19fb33306d8f8d34dec1dd7aece2d229db0dff2ba612d18e8", func := "thermion/thermionlaw02.CurveLines", spec := "curveLines", unfollowed := true, recurses := true, apart := false, narrowed := true }
def CurveLinesUptoSaid : Prop := curveLinesUptoRow.holds Try.pinned (OpenSpec.upto curveLinesSpec)

/-- 'thermionlaw02.CurveSlopes', WHERE WHAT IT READS IS OF BULK AT MOST 1048576: true; the input reads as it did. -/
def curveSlopesUptoRow : OpenClaim := { program := "ytbomgfbfnkfamaa", sum := "3f1914c5dca121d19fb33306d8f8d34dec1dd7aece2d229db0dff2ba612d18e8", func := "thermion/thermionlaw02.CurveSlopes", spec := "curveSlopes", unfollowed := true, recurses := true, apart := false, narrowed := true }
def CurveSlopesUptoSaid : Prop := curveSlopesUptoRow.holds Try.pinned (OpenSpec.upto curveSlopesSpec)

/-- 'thermionlaw02.CurveTubes', WHERE WHAT IT READS IS OF BULK AT MOST 1048576: true; the input reads as it did. -/
def curveTubesUptoRow : OpenClaim := { program := "ytbomgfbfnkfamaa", sum := "3f1914c5dca121d19fb33306d8f8d34dec1dd7aece2d229db0dff2ba612d18e8", func := "thermion/thermionlaw02.CurveTubes", spec := "curveTubes", unfollowed := true, recurses := true, apart := false, narrowed := true }
def CurveTubesUptoSaid : Prop := curveTubesUptoRow.holds Try.pinned (OpenSpec.upto curveTubesSpec)

/-- 'thermionlaw02.CurveInside', WHERE WHAT IT READS IS OF BULK AT MOST 1048576: true; the input reads as it did. -/
def curveInsideUptoRow : OpenClaim := { program := "ytbomgfbfnkfamaa", sum := "3f1914c5dca121d19fb33306d8f8d34dec1dd7aece2d229db0dff2ba612d18e8", func := "thermion/thermionlaw02.CurveInside", spec := "curveInside", unfollowed := true, recurses := true, apart := false, narrowed := true }
def CurveInsideUptoSaid : Prop := curveInsideUptoRow.holds Try.pinned (OpenSpec.upto curveInsideSpec)

/-- 'thermionlaw02.CurveChains', WHERE WHAT IT READS IS OF BULK AT MOST 1048576: true; the input reads as it did. -/
def curveChainsUptoRow : OpenClaim := { program := "ytbomgfbfnkfamaa", sum := "3f1914c5dca121d19fb33306d8f8d34dec1dd7aece2d229db0dff2ba612d18e8", func := "thermion/thermionlaw02.CurveChains", spec := "curveChains", unfollowed := true, recurses := true, apart := false, narrowed := true }
def CurveChainsUptoSaid : Prop := curveChainsUptoRow.holds Try.pinned (OpenSpec.upto curveChainsSpec)

end Rows
end Go.Proofs.Ytbomgfbfnkfamaa
