/-
  No cell of these rows narrows 'for every input' (looked for: loops, veiled, ifaces, maps, wideKeys, modest, calm, conditions, laid).
  DERIVED. THE GIVEN ROWS OF THIS SEAT. 13 by the template 'for every input the law returns true; each argument reads behind the call as it read before'; 0 by the template 'total and deterministic' (their statements: YtlfaglkkeahamaaGreatTotals.lean).
  GIVEN WITH THE SEED: the statements are not yours to turn. If you find one false, say at which input.
  Laid BY PROGRAM, IN A SANDBOX (cutbox-rows.mjs): the forced cells as the released guide's own fill.sh prints them over the translation 87d671bfacc1a62d… (all of the seat's roots in one cut). By AI agents, Wed Nov 11 2026. No macro, syntax, notation, axiom, sorry.
-/
import Derived.Test.YtlfaglkkeahamaaGreatChecked
import GoSem.Claim
import GoSem.ClaimJoined
import GoSem.ClaimMapViews
import Derived.JoinedTies
import Derived.KernelRfl
namespace Go.Proofs.YtlfaglkkeahamaaGreat
/- THE CELL 'sum', in the pinned program and in every row, IS THE sha256 OF THE DUMP (.gsa) THAT YtlfaglkkeahamaaGreatProg.lean LOADS. Nothing in Lean hashes anything: it is a label: what it is worth is what the hold of that sum in a sandbox is worth. -/
noncomputable def Tryz.pinned : Pinned := { name := "ytlfaglkkeahamaagreat", sum := "87d671bfacc1a62dcd48d80634747013ed24a5ea3435df037e940e61c7e2ac3e", checked := Tryz.checked }
namespace Rows
def none {H : Type} : Left H := { results := [], args := [] }

/-- 'thermionlaw09.CircuitJudges': WHATEVER THE INPUT: true; the input reads as it did. -/
def circuitJudgesSpec : ChangeSpec := { name := "circuitJudges", fn := fun _ => fun
  | [d1, d2, d3, d4] => { results := [.lit (.bool true)], args := [d1, d2, d3, d4] }
  | _ => none }
def circuitJudgesRow : OpenClaim := { program := "ytlfaglkkeahamaagreat", sum := "87d671bfacc1a62dcd48d80634747013ed24a5ea3435df037e940e61c7e2ac3e", func := "thermion/thermionlaw09.CircuitJudges", spec := "circuitJudges", unfollowed := true, recurses := true, apart := false }
def CircuitJudgesSaid : Prop := circuitJudgesRow.holds Tryz.pinned (OpenSpec.ofChange circuitJudgesSpec)

/-- ITS FALSE NEIGHBOUR: 'it returns false'. Refute it at one input. -/
def circuitJudgesWrong : ChangeSpec := { name := "circuitJudges", fn := fun _ => fun
  | [d1, d2, d3, d4] => { results := [.lit (.bool false)], args := [d1, d2, d3, d4] }
  | _ => none }
def CircuitJudgesWrongFalsely : Prop := circuitJudgesRow.holds Tryz.pinned (OpenSpec.ofChange circuitJudgesWrong)

/-- 'thermionlaw09.CircuitRests': WHATEVER THE INPUT: true; the input reads as it did. -/
def circuitRestsSpec : ChangeSpec := { name := "circuitRests", fn := fun _ => fun
  | [d1, d2, d3] => { results := [.lit (.bool true)], args := [d1, d2, d3] }
  | _ => none }
def circuitRestsRow : OpenClaim := { program := "ytlfaglkkeahamaagreat", sum := "87d671bfacc1a62dcd48d80634747013ed24a5ea3435df037e940e61c7e2ac3e", func := "thermion/thermionlaw09.CircuitRests", spec := "circuitRests", unfollowed := true, recurses := true, apart := false }
def CircuitRestsSaid : Prop := circuitRestsRow.holds Tryz.pinned (OpenSpec.ofChange circuitRestsSpec)

/-- ITS FALSE NEIGHBOUR: 'it returns false'. Refute it at one input. -/
def circuitRestsWrong : ChangeSpec := { name := "circuitRests", fn := fun _ => fun
  | [d1, d2, d3] => { results := [.lit (.bool false)], args := [d1, d2, d3] }
  | _ => none }
def CircuitRestsWrongFalsely : Prop := circuitRestsRow.holds Tryz.pinned (OpenSpec.ofChange circuitRestsWrong)

/-- 'thermionlaw09.CircuitFalls': WHATEVER THE INPUT: true; the input reads as it did. -/
def circuitFallsSpec : ChangeSpec := { name := "circuitFalls", fn := fun _ => fun
  | [d] => { results := [.lit (.bool true)], args := [d] }
  | _ => none }
def circuitFallsRow : OpenClaim := { program := "ytlfaglkkeahamaagreat", sum := "87d671bfacc1a62dcd48d80634747013ed24a5ea3435df037e940e61c7e2ac3e", func := "thermion/thermionlaw09.CircuitFalls", spec := "circuitFalls", unfollowed := true, recurses := true, apart := false }
def CircuitFallsSaid : Prop := circuitFallsRow.holds Tryz.pinned (OpenSpec.ofChange circuitFallsSpec)

/-- ITS FALSE NEIGHBOUR: 'it returns false'. Refute it at one input. -/
def circuitFallsWrong : ChangeSpec := { name := "circuitFalls", fn := fun _ => fun
  | [d] => { results := [.lit (.bool false)], args := [d] }
  | _ => none }
def CircuitFallsWrongFalsely : Prop := circuitFallsRow.holds Tryz.pinned (OpenSpec.ofChange circuitFallsWrong)

/-- 'thermionlaw09.CircuitSettles': WHATEVER THE INPUT: true; the input reads as it did. -/
def circuitSettlesSpec : ChangeSpec := { name := "circuitSettles", fn := fun _ => fun
  | [d1, d2, d3, d4, d5, d6] => { results := [.lit (.bool true)], args := [d1, d2, d3, d4, d5, d6] }
  | _ => none }
def circuitSettlesRow : OpenClaim := { program := "ytlfaglkkeahamaagreat", sum := "87d671bfacc1a62dcd48d80634747013ed24a5ea3435df037e940e61c7e2ac3e", func := "thermion/thermionlaw09.CircuitSettles", spec := "circuitSettles", unfollowed := true, recurses := true, apart := false }
def CircuitSettlesSaid : Prop := circuitSettlesRow.holds Tryz.pinned (OpenSpec.ofChange circuitSettlesSpec)

/-- ITS FALSE NEIGHBOUR: 'it returns false'. Refute it at one input. -/
def circuitSettlesWrong : ChangeSpec := { name := "circuitSettles", fn := fun _ => fun
  | [d1, d2, d3, d4, d5, d6] => { results := [.lit (.bool false)], args := [d1, d2, d3, d4, d5, d6] }
  | _ => none }
def CircuitSettlesWrongFalsely : Prop := circuitSettlesRow.holds Tryz.pinned (OpenSpec.ofChange circuitSettlesWrong)

/-- 'thermionlaw09.CircuitNarrows': WHATEVER THE INPUT: true; the input reads as it did. -/
def circuitNarrowsSpec : ChangeSpec := { name := "circuitNarrows", fn := fun _ => fun
  | [d1, d2, d3] => { results := [.lit (.bool true)], args := [d1, d2, d3] }
  | _ => none }
def circuitNarrowsRow : OpenClaim := { program := "ytlfaglkkeahamaagreat", sum := "87d671bfacc1a62dcd48d80634747013ed24a5ea3435df037e940e61c7e2ac3e", func := "thermion/thermionlaw09.CircuitNarrows", spec := "circuitNarrows", unfollowed := true, recurses := true, apart := false }
def CircuitNarrowsSaid : Prop := circuitNarrowsRow.holds Tryz.pinned (OpenSpec.ofChange circuitNarrowsSpec)

/-- ITS FALSE NEIGHBOUR: 'it returns false'. Refute it at one input. -/
def circuitNarrowsWrong : ChangeSpec := { name := "circuitNarrows", fn := fun _ => fun
  | [d1, d2, d3] => { results := [.lit (.bool false)], args := [d1, d2, d3] }
  | _ => none }
def CircuitNarrowsWrongFalsely : Prop := circuitNarrowsRow.holds Tryz.pinned (OpenSpec.ofChange circuitNarrowsWrong)

/-- 'thermionlaw09.CircuitCorners': WHATEVER THE INPUT: true; the input reads as it did. -/
def circuitCornersSpec : ChangeSpec := { name := "circuitCorners", fn := fun _ => fun
  | [d1, d2, d3, d4] => { results := [.lit (.bool true)], args := [d1, d2, d3, d4] }
  | _ => none }
def circuitCornersRow : OpenClaim := { program := "ytlfaglkkeahamaagreat", sum := "87d671bfacc1a62dcd48d80634747013ed24a5ea3435df037e940e61c7e2ac3e", func := "thermion/thermionlaw09.CircuitCorners", spec := "circuitCorners", unfollowed := true, recurses := true, apart := false }
def CircuitCornersSaid : Prop := circuitCornersRow.holds Tryz.pinned (OpenSpec.ofChange circuitCornersSpec)

/-- ITS FALSE NEIGHBOUR: 'it returns false'. Refute it at one input. -/
def circuitCornersWrong : ChangeSpec := { name := "circuitCorners", fn := fun _ => fun
  | [d1, d2, d3, d4] => { results := [.lit (.bool false)], args := [d1, d2, d3, d4] }
  | _ => none }
def CircuitCornersWrongFalsely : Prop := circuitCornersRow.holds Tryz.pinned (OpenSpec.ofChange circuitCornersWrong)

/-- 'thermionlaw09.CircuitEnds': WHATEVER THE INPUT: true; the input reads as it did. -/
def circuitEndsSpec : ChangeSpec := { name := "circuitEnds", fn := fun _ => fun
  | [d1, d2, d3] => { results := [.lit (.bool true)], args := [d1, d2, d3] }
  | _ => none }
def circuitEndsRow : OpenClaim := { program := "ytlfaglkkeahamaagreat", sum := "87d671bfacc1a62dcd48d80634747013ed24a5ea3435df037e940e61c7e2ac3e", func := "thermion/thermionlaw09.CircuitEnds", spec := "circuitEnds", unfollowed := true, recurses := true, apart := false }
def CircuitEndsSaid : Prop := circuitEndsRow.holds Tryz.pinned (OpenSpec.ofChange circuitEndsSpec)

/-- ITS FALSE NEIGHBOUR: 'it returns false'. Refute it at one input. -/
def circuitEndsWrong : ChangeSpec := { name := "circuitEnds", fn := fun _ => fun
  | [d1, d2, d3] => { results := [.lit (.bool false)], args := [d1, d2, d3] }
  | _ => none }
def CircuitEndsWrongFalsely : Prop := circuitEndsRow.holds Tryz.pinned (OpenSpec.ofChange circuitEndsWrong)

/-- 'thermionlaw09.CircuitPoints': WHATEVER THE INPUT: true; the input reads as it did. -/
def circuitPointsSpec : ChangeSpec := { name := "circuitPoints", fn := fun _ => fun
  | [d1, d2, d3, d4, d5] => { results := [.lit (.bool true)], args := [d1, d2, d3, d4, d5] }
  | _ => none }
def circuitPointsRow : OpenClaim := { program := "ytlfaglkkeahamaagreat", sum := "87d671bfacc1a62dcd48d80634747013ed24a5ea3435df037e940e61c7e2ac3e", func := "thermion/thermionlaw09.CircuitPoints", spec := "circuitPoints", unfollowed := true, recurses := true, apart := false }
def CircuitPointsSaid : Prop := circuitPointsRow.holds Tryz.pinned (OpenSpec.ofChange circuitPointsSpec)

/-- ITS FALSE NEIGHBOUR: 'it returns false'. Refute it at one input. -/
def circuitPointsWrong : ChangeSpec := { name := "circuitPoints", fn := fun _ => fun
  | [d1, d2, d3, d4, d5] => { results := [.lit (.bool false)], args := [d1, d2, d3, d4, d5] }
  | _ => none }
def CircuitPointsWrongFalsely : Prop := circuitPointsRow.holds Tryz.pinned (OpenSpec.ofChange circuitPointsWrong)

/-- 'thermionlaw09.CircuitChecks': WHATEVER THE INPUT: true; the input reads as it did. -/
def circuitChecksSpec : ChangeSpec := { name := "circuitChecks", fn := fun _ => fun
  | [d1, d2, d3, d4] => { results := [.lit (.bool true)], args := [d1, d2, d3, d4] }
  | _ => none }
def circuitChecksRow : OpenClaim := { program := "ytlfaglkkeahamaagreat", sum := "87d671bfacc1a62dcd48d80634747013ed24a5ea3435df037e940e61c7e2ac3e", func := "thermion/thermionlaw09.CircuitChecks", spec := "circuitChecks", unfollowed := true, recurses := true, apart := false }
def CircuitChecksSaid : Prop := circuitChecksRow.holds Tryz.pinned (OpenSpec.ofChange circuitChecksSpec)

/-- ITS FALSE NEIGHBOUR: 'it returns false'. Refute it at one input. -/
def circuitChecksWrong : ChangeSpec := { name := "circuitChecks", fn := fun _ => fun
  | [d1, d2, d3, d4] => { results := [.lit (.bool false)], args := [d1, d2, d3, d4] }
  | _ => none }
def CircuitChecksWrongFalsely : Prop := circuitChecksRow.holds Tryz.pinned (OpenSpec.ofChange circuitChecksWrong)

/-- 'thermionlaw09.CircuitGates': WHATEVER THE INPUT: true; the input reads as it did. -/
def circuitGatesSpec : ChangeSpec := { name := "circuitGates", fn := fun _ => fun
  | [d1, d2, d3, d4, d5, d6, d7] => { results := [.lit (.bool true)], args := [d1, d2, d3, d4, d5, d6, d7] }
  | _ => none }
def circuitGatesRow : OpenClaim := { program := "ytlfaglkkeahamaagreat", sum := "87d671bfacc1a62dcd48d80634747013ed24a5ea3435df037e940e61c7e2ac3e", func := "thermion/thermionlaw09.CircuitGates", spec := "circuitGates", unfollowed := true, recurses := true, apart := false }
def CircuitGatesSaid : Prop := circuitGatesRow.holds Tryz.pinned (OpenSpec.ofChange circuitGatesSpec)

/-- ITS FALSE NEIGHBOUR: 'it returns false'. Refute it at one input. -/
def circuitGatesWrong : ChangeSpec := { name := "circuitGates", fn := fun _ => fun
  | [d1, d2, d3, d4, d5, d6, d7] => { results := [.lit (.bool false)], args := [d1, d2, d3, d4, d5, d6, d7] }
  | _ => none }
def CircuitGatesWrongFalsely : Prop := circuitGatesRow.holds Tryz.pinned (OpenSpec.ofChange circuitGatesWrong)

/-- 'thermionlaw09.CircuitTables': WHATEVER THE INPUT: true; the input reads as it did. -/
def circuitTablesSpec : ChangeSpec := { name := "circuitTables", fn := fun _ => fun
  | [d1, d2, d3] => { results := [.lit (.bool true)], args := [d1, d2, d3] }
  | _ => none }
def circuitTablesRow : OpenClaim := { program := "ytlfaglkkeahamaagreat", sum := "87d671bfacc1a62dcd48d80634747013ed24a5ea3435df037e940e61c7e2ac3e", func := "thermion/thermionlaw09.CircuitTables", spec := "circuitTables", unfollowed := true, recurses := true, apart := false }
def CircuitTablesSaid : Prop := circuitTablesRow.holds Tryz.pinned (OpenSpec.ofChange circuitTablesSpec)

/-- ITS FALSE NEIGHBOUR: 'it returns false'. Refute it at one input. -/
def circuitTablesWrong : ChangeSpec := { name := "circuitTables", fn := fun _ => fun
  | [d1, d2, d3] => { results := [.lit (.bool false)], args := [d1, d2, d3] }
  | _ => none }
def CircuitTablesWrongFalsely : Prop := circuitTablesRow.holds Tryz.pinned (OpenSpec.ofChange circuitTablesWrong)

/-- 'thermionlaw09.CircuitBoxes': WHATEVER THE INPUT: true; the input reads as it did. -/
def circuitBoxesSpec : ChangeSpec := { name := "circuitBoxes", fn := fun _ => fun
  | [d1, d2, d3, d4, d5] => { results := [.lit (.bool true)], args := [d1, d2, d3, d4, d5] }
  | _ => none }
def circuitBoxesRow : OpenClaim := { program := "ytlfaglkkeahamaagreat", sum := "87d671bfacc1a62dcd48d80634747013ed24a5ea3435df037e940e61c7e2ac3e", func := "thermion/thermionlaw09.CircuitBoxes", spec := "circuitBoxes", unfollowed := true, recurses := true, apart := false }
def CircuitBoxesSaid : Prop := circuitBoxesRow.holds Tryz.pinned (OpenSpec.ofChange circuitBoxesSpec)

/-- ITS FALSE NEIGHBOUR: 'it returns false'. Refute it at one input. -/
def circuitBoxesWrong : ChangeSpec := { name := "circuitBoxes", fn := fun _ => fun
  | [d1, d2, d3, d4, d5] => { results := [.lit (.bool false)], args := [d1, d2, d3, d4, d5] }
  | _ => none }
def CircuitBoxesWrongFalsely : Prop := circuitBoxesRow.holds Tryz.pinned (OpenSpec.ofChange circuitBoxesWrong)

/-- 'thermionlaw09.CircuitHolds': WHATEVER THE INPUT: true; the input reads as it did. -/
def circuitHoldsSpec : ChangeSpec := { name := "circuitHolds", fn := fun _ => fun
  | [d1, d2] => { results := [.lit (.bool true)], args := [d1, d2] }
  | _ => none }
def circuitHoldsRow : OpenClaim := { program := "ytlfaglkkeahamaagreat", sum := "87d671bfacc1a62dcd48d80634747013ed24a5ea3435df037e940e61c7e2ac3e", func := "thermion/thermionlaw09.CircuitHolds", spec := "circuitHolds", unfollowed := true, recurses := true, apart := false }
def CircuitHoldsSaid : Prop := circuitHoldsRow.holds Tryz.pinned (OpenSpec.ofChange circuitHoldsSpec)

/-- ITS FALSE NEIGHBOUR: 'it returns false'. Refute it at one input. -/
def circuitHoldsWrong : ChangeSpec := { name := "circuitHolds", fn := fun _ => fun
  | [d1, d2] => { results := [.lit (.bool false)], args := [d1, d2] }
  | _ => none }
def CircuitHoldsWrongFalsely : Prop := circuitHoldsRow.holds Tryz.pinned (OpenSpec.ofChange circuitHoldsWrong)

/- THE SECOND FORM. 'bulk': how many values and letters a reading holds, each counted each time it is reached (what is shared counts as often as it is met; a slice's spare places count too). A statement '..UptoSaid' is the law's where the arguments, and the package variables that the reading takes, are together of bulk at most 1048576: NARROWER than '..Said'. Prove '..Said' where nothing that the law and all that it calls make is longer than what came in: it says more and counts as full. Else prove '..UptoSaid'. A law counts once. -/
mutual
def uptoBulk {H : Type} : DataW H → Nat
  | .lit (.string bytes) => bytes.length + 1
  | .lit _ => 1
  | .nil => 1
  | .ptr d => uptoBulk d + 1
  | .slice elems spare => uptoBulkAll elems + uptoBulkAll spare + 1
  | .agg parts => uptoBulkAll parts + 1
  | .iface _ d => uptoBulk d + 1
  | .map entries => uptoBulkEntries entries + 1
  | .held _ => 1
def uptoBulkAll {H : Type} : List (DataW H) → Nat
  | [] => 0
  | d :: r => uptoBulk d + uptoBulkAll r
def uptoBulkEntries {H : Type} : List (Lit × DataW H) → Nat
  | [] => 0
  | x :: r => uptoBulkEntry x + uptoBulkEntries r
def uptoBulkEntry {H : Type} : Lit × DataW H → Nat
  | (.string bytes, d) => bytes.length + uptoBulk d + 1
  | (_, d) => uptoBulk d + 1
 end
def uptoSmall : (H : Type) → List (DataW H) → Bool := fun _ ds => decide (uptoBulkAll ds ≤ 1048576)
def OpenSpec.upto (s : _root_.Go.ChangeSpec) : _root_.Go.OpenSpec := { _root_.Go.OpenSpec.ofChange s with cond := some uptoSmall }

/-- 'thermionlaw09.CircuitJudges', WHERE WHAT IT READS IS OF BULK AT MOST 1048576: true; the input reads as it did. -/
def circuitJudgesUptoRow : OpenClaim := { program := "ytlfaglkkeahamaagreat", sum := "87d671bfacc1a62dcd48d80634747013ed24a5ea3435df037e940e61c7e2ac3e", func := "thermion/thermionlaw09.CircuitJudges", spec := "circuitJudges", unfollowed := true, recurses := true, apart := false, narrowed := true }
def CircuitJudgesUptoSaid : Prop := circuitJudgesUptoRow.holds Tryz.pinned (OpenSpec.upto circuitJudgesSpec)

/-- 'thermionlaw09.CircuitRests', WHERE WHAT IT READS IS OF BULK AT MOST 1048576: true; the input reads as it did. -/
def circuitRestsUptoRow : OpenClaim := { program := "ytlfaglkkeahamaagreat", sum := "87d671bfacc1a62dcd48d80634747013ed24a5ea3435df037e940e61c7e2ac3e", func := "thermion/thermionlaw09.CircuitRests", spec := "circuitRests", unfollowed := true, recurses := true, apart := false, narrowed := true }
def CircuitRestsUptoSaid : Prop := circuitRestsUptoRow.holds Tryz.pinned (OpenSpec.upto circuitRestsSpec)

/-- 'thermionlaw09.CircuitFalls', WHERE WHAT IT READS IS OF BULK AT MOST 1048576: true; the input reads as it did. -/
def circuitFallsUptoRow : OpenClaim := { program := "ytlfaglkkeahamaagreat", sum := "87d671bfacc1a62dcd48d80634747013ed24a5ea3435df037e940e61c7e2ac3e", func := "thermion/thermionlaw09.CircuitFalls", spec := "circuitFalls", unfollowed := true, recurses := true, apart := false, narrowed := true }
def CircuitFallsUptoSaid : Prop := circuitFallsUptoRow.holds Tryz.pinned (OpenSpec.upto circuitFallsSpec)

/-- 'thermionlaw09.CircuitSettles', WHERE WHAT IT READS IS OF BULK AT MOST 1048576: true; the input reads as it did. -/
def circuitSettlesUptoRow : OpenClaim := { program := "ytlfaglkkeahamaagreat", sum := "87d671bfacc1a62dcd48d80634747013ed24a5ea3435df037e940e61c7e2ac3e", func := "thermion/thermionlaw09.CircuitSettles", spec := "circuitSettles", unfollowed := true, recurses := true, apart := false, narrowed := true }
def CircuitSettlesUptoSaid : Prop := circuitSettlesUptoRow.holds Tryz.pinned (OpenSpec.upto circuitSettlesSpec)

/-- 'thermionlaw09.CircuitNarrows', WHERE WHAT IT READS IS OF BULK AT MOST 1048576: true; the input reads as it did. -/
def circuitNarrowsUptoRow : OpenClaim := { program := "ytlfaglkkeahamaagreat", sum := "87d671bfacc1a62dcd48d80634747013ed24a5ea3435df037e940e61c7e2ac3e", func := "thermion/thermionlaw09.CircuitNarrows", spec := "circuitNarrows", unfollowed := true, recurses := true, apart := false, narrowed := true }
def CircuitNarrowsUptoSaid : Prop := circuitNarrowsUptoRow.holds Tryz.pinned (OpenSpec.upto circuitNarrowsSpec)

/-- 'thermionlaw09.CircuitCorners', WHERE WHAT IT READS IS OF BULK AT MOST 1048576: true; the input reads as it did. -/
def circuitCornersUptoRow : OpenClaim := { program := "ytlfaglkkeahamaagreat", sum := "87d671bfacc1a62dcd48d80634747013ed24a5ea3435df037e940e61c7e2ac3e", func := "thermion/thermionlaw09.CircuitCorners", spec := "circuitCorners", unfollowed := true, recurses := true, apart := false, narrowed := true }
def CircuitCornersUptoSaid : Prop := circuitCornersUptoRow.holds Tryz.pinned (OpenSpec.upto circuitCornersSpec)

/-- 'thermionlaw09.CircuitEnds', WHERE WHAT IT READS IS OF BULK AT MOST 1048576: true; the input reads as it did. -/
def circuitEndsUptoRow : OpenClaim := { program := "ytlfaglkkeahamaagreat", sum := "87d671bfacc1a62dcd48d80634747013ed24a5ea3435df037e940e61c7e2ac3e", func := "thermion/thermionlaw09.CircuitEnds", spec := "circuitEnds", unfollowed := true, recurses := true, apart := false, narrowed := true }
def CircuitEndsUptoSaid : Prop := circuitEndsUptoRow.holds Tryz.pinned (OpenSpec.upto circuitEndsSpec)

/-- 'thermionlaw09.CircuitPoints', WHERE WHAT IT READS IS OF BULK AT MOST 1048576: true; the input reads as it did. -/
def circuitPointsUptoRow : OpenClaim := { program := "ytlfaglkkeahamaagreat", sum := "87d671bfacc1a62dcd48d80634747013ed24a5ea3435df037e940e61c7e2ac3e", func := "thermion/thermionlaw09.CircuitPoints", spec := "circuitPoints", unfollowed := true, recurses := true, apart := false, narrowed := true }
def CircuitPointsUptoSaid : Prop := circuitPointsUptoRow.holds Tryz.pinned (OpenSpec.upto circuitPointsSpec)

/-- 'thermionlaw09.CircuitChecks', WHERE WHAT IT READS IS OF BULK AT MOST 1048576: true; the input reads as it did. -/
def circuitChecksUptoRow : OpenClaim := { program := "ytlfaglkkeahamaagreat", sum := "87d671bfacc1a62dcd48d80634747013ed24a5ea3435df037e940e61c7e2ac3e", func := "thermion/thermionlaw09.CircuitChecks", spec := "circuitChecks", unfollowed := true, recurses := true, apart := false, narrowed := true }
def CircuitChecksUptoSaid : Prop := circuitChecksUptoRow.holds Tryz.pinned (OpenSpec.upto circuitChecksSpec)

/-- 'thermionlaw09.CircuitGates', WHERE WHAT IT READS IS OF BULK AT MOST 1048576: true; the input reads as it did. -/
def circuitGatesUptoRow : OpenClaim := { program := "ytlfaglkkeahamaagreat", sum := "87d671bfacc1a62dcd48d80634747013ed24a5ea3435df037e940e61c7e2ac3e", func := "thermion/thermionlaw09.CircuitGates", spec := "circuitGates", unfollowed := true, recurses := true, apart := false, narrowed := true }
def CircuitGatesUptoSaid : Prop := circuitGatesUptoRow.holds Tryz.pinned (OpenSpec.upto circuitGatesSpec)

/-- 'thermionlaw09.CircuitTables', WHERE WHAT IT READS IS OF BULK AT MOST 1048576: true; the input reads as it did. -/
def circuitTablesUptoRow : OpenClaim := { program := "ytlfaglkkeahamaagreat", sum := "87d671bfacc1a62dcd48d80634747013ed24a5ea3435df037e940e61c7e2ac3e", func := "thermion/thermionlaw09.CircuitTables", spec := "circuitTables", unfollowed := true, recurses := true, apart := false, narrowed := true }
def CircuitTablesUptoSaid : Prop := circuitTablesUptoRow.holds Tryz.pinned (OpenSpec.upto circuitTablesSpec)

/-- 'thermionlaw09.CircuitBoxes', WHERE WHAT IT READS IS OF BULK AT MOST 1048576: true; the input reads as it did. -/
def circuitBoxesUptoRow : OpenClaim := { program := "ytlfaglkkeahamaagreat", sum := "87d671bfacc1a62dcd48d80634747013ed24a5ea3435df037e940e61c7e2ac3e", func := "thermion/thermionlaw09.CircuitBoxes", spec := "circuitBoxes", unfollowed := true, recurses := true, apart := false, narrowed := true }
def CircuitBoxesUptoSaid : Prop := circuitBoxesUptoRow.holds Tryz.pinned (OpenSpec.upto circuitBoxesSpec)

/-- 'thermionlaw09.CircuitHolds', WHERE WHAT IT READS IS OF BULK AT MOST 1048576: true; the input reads as it did. -/
def circuitHoldsUptoRow : OpenClaim := { program := "ytlfaglkkeahamaagreat", sum := "87d671bfacc1a62dcd48d80634747013ed24a5ea3435df037e940e61c7e2ac3e", func := "thermion/thermionlaw09.CircuitHolds", spec := "circuitHolds", unfollowed := true, recurses := true, apart := false, narrowed := true }
def CircuitHoldsUptoSaid : Prop := circuitHoldsUptoRow.holds Tryz.pinned (OpenSpec.upto circuitHoldsSpec)

end Rows
end Go.Proofs.YtlfaglkkeahamaaGreat
