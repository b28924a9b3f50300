/-
  No cell of these rows narrows 'for every input' (looked for: loops, veiled, ifaces, maps, wideKeys, modest, calm, conditions, laid).
  DERIVED. THE GIVEN ROWS OF THIS SEAT. 16 by the template 'for every input the law returns true; each argument reads behind the call as it read before'; 0 by the template 'total and deterministic' (their statements: YtpbadgghhiommaaTotals.lean).
  GIVEN WITH THE SEED: the statements are not yours to turn. If you find one false, say at which input.
  Laid BY PROGRAM, IN A SANDBOX (cutbox-rows.mjs): the forced cells as the released guide's own fill.sh prints them over the translation 71f4d9c2a21bb77b… (all of the seat's roots in one cut). By AI agents, Wed Nov 11 2026. No macro, syntax, notation, axiom, sorry.
-/
import Derived.Test.YtpbadgghhiommaaChecked
import GoSem.Claim
import GoSem.ClaimJoined
import GoSem.ClaimMapViews
import Derived.JoinedTies
import Derived.KernelRfl
namespace Go.Proofs.Ytpbadgghhiommaa
/- THE CELL 'sum', in the pinned program and in every row, IS THE sha256 OF THE DUMP (.gsa) THAT YtpbadgghhiommaaProg.lean LOADS. Nothing in Lean hashes anything: it is a label: what it is worth is what the hold of that sum in a sandbox is worth. -/
noncomputable def Try.pinned : Pinned := { name := "ytpbadgghhiommaa", sum := "71f4d9c2a21bb77b1b01f8ad96815ef01d7c27f8f740c72f5e82729280f803ef", checked := Try.checked }
namespace Rows
def none {H : Type} : Left H := { results := [], args := [] }

/-- 'thermionlaw05.GlassChecks': WHATEVER THE INPUT: true; the input reads as it did. -/
def glassChecksSpec : ChangeSpec := { name := "glassChecks", fn := fun _ => fun
  | [d1, d2, d3, d4, d5, d6] => { results := [.lit (.bool true)], args := [d1, d2, d3, d4, d5, d6] }
  | _ => none }
def glassChecksRow : OpenClaim := { program := "ytpbadgghhiommaa", sum := "71f4d9c2a21bb77b1b01f8ad96815ef01d7c27f8f740c72f5e82729280f803ef", func := "thermion/thermionlaw05.GlassChecks", spec := "glassChecks", unfollowed := true, recurses := true, apart := false }
def GlassChecksSaid : Prop := glassChecksRow.holds Try.pinned (OpenSpec.ofChange glassChecksSpec)

/-- ITS FALSE NEIGHBOUR: 'it returns false'. Refute it at one input. -/
def glassChecksWrong : ChangeSpec := { name := "glassChecks", fn := fun _ => fun
  | [d1, d2, d3, d4, d5, d6] => { results := [.lit (.bool false)], args := [d1, d2, d3, d4, d5, d6] }
  | _ => none }
def GlassChecksWrongFalsely : Prop := glassChecksRow.holds Try.pinned (OpenSpec.ofChange glassChecksWrong)

/-- 'thermionlaw05.GlassHolds': WHATEVER THE INPUT: true; the input reads as it did. -/
def glassHoldsSpec : ChangeSpec := { name := "glassHolds", fn := fun _ => fun
  | [d] => { results := [.lit (.bool true)], args := [d] }
  | _ => none }
def glassHoldsRow : OpenClaim := { program := "ytpbadgghhiommaa", sum := "71f4d9c2a21bb77b1b01f8ad96815ef01d7c27f8f740c72f5e82729280f803ef", func := "thermion/thermionlaw05.GlassHolds", spec := "glassHolds", unfollowed := true, recurses := true, apart := false }
def GlassHoldsSaid : Prop := glassHoldsRow.holds Try.pinned (OpenSpec.ofChange glassHoldsSpec)

/-- ITS FALSE NEIGHBOUR: 'it returns false'. Refute it at one input. -/
def glassHoldsWrong : ChangeSpec := { name := "glassHolds", fn := fun _ => fun
  | [d] => { results := [.lit (.bool false)], args := [d] }
  | _ => none }
def GlassHoldsWrongFalsely : Prop := glassHoldsRow.holds Try.pinned (OpenSpec.ofChange glassHoldsWrong)

/-- 'thermionlaw05.GlassTurns': WHATEVER THE INPUT: true; the input reads as it did. -/
def glassTurnsSpec : ChangeSpec := { name := "glassTurns", fn := fun _ => fun
  | [d1, d2, d3] => { results := [.lit (.bool true)], args := [d1, d2, d3] }
  | _ => none }
def glassTurnsRow : OpenClaim := { program := "ytpbadgghhiommaa", sum := "71f4d9c2a21bb77b1b01f8ad96815ef01d7c27f8f740c72f5e82729280f803ef", func := "thermion/thermionlaw05.GlassTurns", spec := "glassTurns", unfollowed := true, recurses := true, apart := false }
def GlassTurnsSaid : Prop := glassTurnsRow.holds Try.pinned (OpenSpec.ofChange glassTurnsSpec)

/-- ITS FALSE NEIGHBOUR: 'it returns false'. Refute it at one input. -/
def glassTurnsWrong : ChangeSpec := { name := "glassTurns", fn := fun _ => fun
  | [d1, d2, d3] => { results := [.lit (.bool false)], args := [d1, d2, d3] }
  | _ => none }
def GlassTurnsWrongFalsely : Prop := glassTurnsRow.holds Try.pinned (OpenSpec.ofChange glassTurnsWrong)

/-- 'thermionlaw05.GlassAdds': WHATEVER THE INPUT: true; the input reads as it did. -/
def glassAddsSpec : ChangeSpec := { name := "glassAdds", fn := fun _ => fun
  | [d1, d2, d3, d4] => { results := [.lit (.bool true)], args := [d1, d2, d3, d4] }
  | _ => none }
def glassAddsRow : OpenClaim := { program := "ytpbadgghhiommaa", sum := "71f4d9c2a21bb77b1b01f8ad96815ef01d7c27f8f740c72f5e82729280f803ef", func := "thermion/thermionlaw05.GlassAdds", spec := "glassAdds", unfollowed := true, recurses := true, apart := false }
def GlassAddsSaid : Prop := glassAddsRow.holds Try.pinned (OpenSpec.ofChange glassAddsSpec)

/-- ITS FALSE NEIGHBOUR: 'it returns false'. Refute it at one input. -/
def glassAddsWrong : ChangeSpec := { name := "glassAdds", fn := fun _ => fun
  | [d1, d2, d3, d4] => { results := [.lit (.bool false)], args := [d1, d2, d3, d4] }
  | _ => none }
def GlassAddsWrongFalsely : Prop := glassAddsRow.holds Try.pinned (OpenSpec.ofChange glassAddsWrong)

/-- 'thermionlaw05.GlassGrows': WHATEVER THE INPUT: true; the input reads as it did. -/
def glassGrowsSpec : ChangeSpec := { name := "glassGrows", fn := fun _ => fun
  | [d1, d2, d3, d4, d5] => { results := [.lit (.bool true)], args := [d1, d2, d3, d4, d5] }
  | _ => none }
def glassGrowsRow : OpenClaim := { program := "ytpbadgghhiommaa", sum := "71f4d9c2a21bb77b1b01f8ad96815ef01d7c27f8f740c72f5e82729280f803ef", func := "thermion/thermionlaw05.GlassGrows", spec := "glassGrows", unfollowed := true, recurses := true, apart := false }
def GlassGrowsSaid : Prop := glassGrowsRow.holds Try.pinned (OpenSpec.ofChange glassGrowsSpec)

/-- ITS FALSE NEIGHBOUR: 'it returns false'. Refute it at one input. -/
def glassGrowsWrong : ChangeSpec := { name := "glassGrows", fn := fun _ => fun
  | [d1, d2, d3, d4, d5] => { results := [.lit (.bool false)], args := [d1, d2, d3, d4, d5] }
  | _ => none }
def GlassGrowsWrongFalsely : Prop := glassGrowsRow.holds Try.pinned (OpenSpec.ofChange glassGrowsWrong)

/-- 'thermionlaw05.GlassSeals': WHATEVER THE INPUT: true; the input reads as it did. -/
def glassSealsSpec : ChangeSpec := { name := "glassSeals", fn := fun _ => fun
  | [d1, d2, d3, d4, d5, d6] => { results := [.lit (.bool true)], args := [d1, d2, d3, d4, d5, d6] }
  | _ => none }
def glassSealsRow : OpenClaim := { program := "ytpbadgghhiommaa", sum := "71f4d9c2a21bb77b1b01f8ad96815ef01d7c27f8f740c72f5e82729280f803ef", func := "thermion/thermionlaw05.GlassSeals", spec := "glassSeals", unfollowed := true, recurses := true, apart := false }
def GlassSealsSaid : Prop := glassSealsRow.holds Try.pinned (OpenSpec.ofChange glassSealsSpec)

/-- ITS FALSE NEIGHBOUR: 'it returns false'. Refute it at one input. -/
def glassSealsWrong : ChangeSpec := { name := "glassSeals", fn := fun _ => fun
  | [d1, d2, d3, d4, d5, d6] => { results := [.lit (.bool false)], args := [d1, d2, d3, d4, d5, d6] }
  | _ => none }
def GlassSealsWrongFalsely : Prop := glassSealsRow.holds Try.pinned (OpenSpec.ofChange glassSealsWrong)

/-- 'thermionlaw05.GlassRelaxes': WHATEVER THE INPUT: true; the input reads as it did. -/
def glassRelaxesSpec : ChangeSpec := { name := "glassRelaxes", fn := fun _ => fun
  | [d1, d2, d3, d4] => { results := [.lit (.bool true)], args := [d1, d2, d3, d4] }
  | _ => none }
def glassRelaxesRow : OpenClaim := { program := "ytpbadgghhiommaa", sum := "71f4d9c2a21bb77b1b01f8ad96815ef01d7c27f8f740c72f5e82729280f803ef", func := "thermion/thermionlaw05.GlassRelaxes", spec := "glassRelaxes", unfollowed := true, recurses := true, apart := false }
def GlassRelaxesSaid : Prop := glassRelaxesRow.holds Try.pinned (OpenSpec.ofChange glassRelaxesSpec)

/-- ITS FALSE NEIGHBOUR: 'it returns false'. Refute it at one input. -/
def glassRelaxesWrong : ChangeSpec := { name := "glassRelaxes", fn := fun _ => fun
  | [d1, d2, d3, d4] => { results := [.lit (.bool false)], args := [d1, d2, d3, d4] }
  | _ => none }
def GlassRelaxesWrongFalsely : Prop := glassRelaxesRow.holds Try.pinned (OpenSpec.ofChange glassRelaxesWrong)

/-- 'thermionlaw05.GlassOrders': WHATEVER THE INPUT: true; the input reads as it did. -/
def glassOrdersSpec : ChangeSpec := { name := "glassOrders", fn := fun _ => fun
  | [d1, d2, d3] => { results := [.lit (.bool true)], args := [d1, d2, d3] }
  | _ => none }
def glassOrdersRow : OpenClaim := { program := "ytpbadgghhiommaa", sum := "71f4d9c2a21bb77b1b01f8ad96815ef01d7c27f8f740c72f5e82729280f803ef", func := "thermion/thermionlaw05.GlassOrders", spec := "glassOrders", unfollowed := true, recurses := true, apart := false }
def GlassOrdersSaid : Prop := glassOrdersRow.holds Try.pinned (OpenSpec.ofChange glassOrdersSpec)

/-- ITS FALSE NEIGHBOUR: 'it returns false'. Refute it at one input. -/
def glassOrdersWrong : ChangeSpec := { name := "glassOrders", fn := fun _ => fun
  | [d1, d2, d3] => { results := [.lit (.bool false)], args := [d1, d2, d3] }
  | _ => none }
def GlassOrdersWrongFalsely : Prop := glassOrdersRow.holds Try.pinned (OpenSpec.ofChange glassOrdersWrong)

/-- 'thermionlaw05.GlassFirst': WHATEVER THE INPUT: true; the input reads as it did. -/
def glassFirstSpec : ChangeSpec := { name := "glassFirst", fn := fun _ => fun
  | [d] => { results := [.lit (.bool true)], args := [d] }
  | _ => none }
def glassFirstRow : OpenClaim := { program := "ytpbadgghhiommaa", sum := "71f4d9c2a21bb77b1b01f8ad96815ef01d7c27f8f740c72f5e82729280f803ef", func := "thermion/thermionlaw05.GlassFirst", spec := "glassFirst", unfollowed := true, recurses := true, apart := false }
def GlassFirstSaid : Prop := glassFirstRow.holds Try.pinned (OpenSpec.ofChange glassFirstSpec)

/-- ITS FALSE NEIGHBOUR: 'it returns false'. Refute it at one input. -/
def glassFirstWrong : ChangeSpec := { name := "glassFirst", fn := fun _ => fun
  | [d] => { results := [.lit (.bool false)], args := [d] }
  | _ => none }
def GlassFirstWrongFalsely : Prop := glassFirstRow.holds Try.pinned (OpenSpec.ofChange glassFirstWrong)

/-- 'thermionlaw05.GlassBears': WHATEVER THE INPUT: true; the input reads as it did. -/
def glassBearsSpec : ChangeSpec := { name := "glassBears", fn := fun _ => fun
  | [d1, d2, d3] => { results := [.lit (.bool true)], args := [d1, d2, d3] }
  | _ => none }
def glassBearsRow : OpenClaim := { program := "ytpbadgghhiommaa", sum := "71f4d9c2a21bb77b1b01f8ad96815ef01d7c27f8f740c72f5e82729280f803ef", func := "thermion/thermionlaw05.GlassBears", spec := "glassBears", unfollowed := true, recurses := true, apart := false }
def GlassBearsSaid : Prop := glassBearsRow.holds Try.pinned (OpenSpec.ofChange glassBearsSpec)

/-- ITS FALSE NEIGHBOUR: 'it returns false'. Refute it at one input. -/
def glassBearsWrong : ChangeSpec := { name := "glassBears", fn := fun _ => fun
  | [d1, d2, d3] => { results := [.lit (.bool false)], args := [d1, d2, d3] }
  | _ => none }
def GlassBearsWrongFalsely : Prop := glassBearsRow.holds Try.pinned (OpenSpec.ofChange glassBearsWrong)

/-- 'thermionlaw05.GlassTruths': WHATEVER THE INPUT: true; the input reads as it did. -/
def glassTruthsSpec : ChangeSpec := { name := "glassTruths", fn := fun _ => fun
  | [d] => { results := [.lit (.bool true)], args := [d] }
  | _ => none }
def glassTruthsRow : OpenClaim := { program := "ytpbadgghhiommaa", sum := "71f4d9c2a21bb77b1b01f8ad96815ef01d7c27f8f740c72f5e82729280f803ef", func := "thermion/thermionlaw05.GlassTruths", spec := "glassTruths", unfollowed := true, recurses := true, apart := false }
def GlassTruthsSaid : Prop := glassTruthsRow.holds Try.pinned (OpenSpec.ofChange glassTruthsSpec)

/-- ITS FALSE NEIGHBOUR: 'it returns false'. Refute it at one input. -/
def glassTruthsWrong : ChangeSpec := { name := "glassTruths", fn := fun _ => fun
  | [d] => { results := [.lit (.bool false)], args := [d] }
  | _ => none }
def GlassTruthsWrongFalsely : Prop := glassTruthsRow.holds Try.pinned (OpenSpec.ofChange glassTruthsWrong)

/-- 'thermionlaw05.GlassThicker': WHATEVER THE INPUT: true; the input reads as it did. -/
def glassThickerSpec : ChangeSpec := { name := "glassThicker", fn := fun _ => fun
  | [d1, d2, d3, d4] => { results := [.lit (.bool true)], args := [d1, d2, d3, d4] }
  | _ => none }
def glassThickerRow : OpenClaim := { program := "ytpbadgghhiommaa", sum := "71f4d9c2a21bb77b1b01f8ad96815ef01d7c27f8f740c72f5e82729280f803ef", func := "thermion/thermionlaw05.GlassThicker", spec := "glassThicker", unfollowed := true, recurses := true, apart := false }
def GlassThickerSaid : Prop := glassThickerRow.holds Try.pinned (OpenSpec.ofChange glassThickerSpec)

/-- ITS FALSE NEIGHBOUR: 'it returns false'. Refute it at one input. -/
def glassThickerWrong : ChangeSpec := { name := "glassThicker", fn := fun _ => fun
  | [d1, d2, d3, d4] => { results := [.lit (.bool false)], args := [d1, d2, d3, d4] }
  | _ => none }
def GlassThickerWrongFalsely : Prop := glassThickerRow.holds Try.pinned (OpenSpec.ofChange glassThickerWrong)

/-- 'thermionlaw05.GlassNarrows': WHATEVER THE INPUT: true; the input reads as it did. -/
def glassNarrowsSpec : ChangeSpec := { name := "glassNarrows", fn := fun _ => fun
  | [d] => { results := [.lit (.bool true)], args := [d] }
  | _ => none }
def glassNarrowsRow : OpenClaim := { program := "ytpbadgghhiommaa", sum := "71f4d9c2a21bb77b1b01f8ad96815ef01d7c27f8f740c72f5e82729280f803ef", func := "thermion/thermionlaw05.GlassNarrows", spec := "glassNarrows", unfollowed := true, recurses := true, apart := false }
def GlassNarrowsSaid : Prop := glassNarrowsRow.holds Try.pinned (OpenSpec.ofChange glassNarrowsSpec)

/-- ITS FALSE NEIGHBOUR: 'it returns false'. Refute it at one input. -/
def glassNarrowsWrong : ChangeSpec := { name := "glassNarrows", fn := fun _ => fun
  | [d] => { results := [.lit (.bool false)], args := [d] }
  | _ => none }
def GlassNarrowsWrongFalsely : Prop := glassNarrowsRow.holds Try.pinned (OpenSpec.ofChange glassNarrowsWrong)

/-- 'thermionlaw05.GlassStrains': WHATEVER THE INPUT: true; the input reads as it did. -/
def glassStrainsSpec : ChangeSpec := { name := "glassStrains", fn := fun _ => fun
  | [d1, d2, d3, d4, d5, d6, d7] => { results := [.lit (.bool true)], args := [d1, d2, d3, d4, d5, d6, d7] }
  | _ => none }
def glassStrainsRow : OpenClaim := { program := "ytpbadgghhiommaa", sum := "71f4d9c2a21bb77b1b01f8ad96815ef01d7c27f8f740c72f5e82729280f803ef", func := "thermion/thermionlaw05.GlassStrains", spec := "glassStrains", unfollowed := true, recurses := true, apart := false }
def GlassStrainsSaid : Prop := glassStrainsRow.holds Try.pinned (OpenSpec.ofChange glassStrainsSpec)

/-- ITS FALSE NEIGHBOUR: 'it returns false'. Refute it at one input. -/
def glassStrainsWrong : ChangeSpec := { name := "glassStrains", fn := fun _ => fun
  | [d1, d2, d3, d4, d5, d6, d7] => { results := [.lit (.bool false)], args := [d1, d2, d3, d4, d5, d6, d7] }
  | _ => none }
def GlassStrainsWrongFalsely : Prop := glassStrainsRow.holds Try.pinned (OpenSpec.ofChange glassStrainsWrong)

/-- 'thermionlaw05.GlassFastest': WHATEVER THE INPUT: true; the input reads as it did. -/
def glassFastestSpec : ChangeSpec := { name := "glassFastest", fn := fun _ => fun
  | [d1, d2, d3, d4, d5, d6, d7] => { results := [.lit (.bool true)], args := [d1, d2, d3, d4, d5, d6, d7] }
  | _ => none }
def glassFastestRow : OpenClaim := { program := "ytpbadgghhiommaa", sum := "71f4d9c2a21bb77b1b01f8ad96815ef01d7c27f8f740c72f5e82729280f803ef", func := "thermion/thermionlaw05.GlassFastest", spec := "glassFastest", unfollowed := true, recurses := true, apart := false }
def GlassFastestSaid : Prop := glassFastestRow.holds Try.pinned (OpenSpec.ofChange glassFastestSpec)

/-- ITS FALSE NEIGHBOUR: 'it returns false'. Refute it at one input. -/
def glassFastestWrong : ChangeSpec := { name := "glassFastest", fn := fun _ => fun
  | [d1, d2, d3, d4, d5, d6, d7] => { results := [.lit (.bool false)], args := [d1, d2, d3, d4, d5, d6, d7] }
  | _ => none }
def GlassFastestWrongFalsely : Prop := glassFastestRow.holds Try.pinned (OpenSpec.ofChange glassFastestWrong)

/-- 'thermionlaw05.GlassQuickest': WHATEVER THE INPUT: true; the input reads as it did. -/
def glassQuickestSpec : ChangeSpec := { name := "glassQuickest", fn := fun _ => fun
  | [d] => { results := [.lit (.bool true)], args := [d] }
  | _ => none }
def glassQuickestRow : OpenClaim := { program := "ytpbadgghhiommaa", sum := "71f4d9c2a21bb77b1b01f8ad96815ef01d7c27f8f740c72f5e82729280f803ef", func := "thermion/thermionlaw05.GlassQuickest", spec := "glassQuickest", unfollowed := true, recurses := true, apart := false }
def GlassQuickestSaid : Prop := glassQuickestRow.holds Try.pinned (OpenSpec.ofChange glassQuickestSpec)

/-- ITS FALSE NEIGHBOUR: 'it returns false'. Refute it at one input. -/
def glassQuickestWrong : ChangeSpec := { name := "glassQuickest", fn := fun _ => fun
  | [d] => { results := [.lit (.bool false)], args := [d] }
  | _ => none }
def GlassQuickestWrongFalsely : Prop := glassQuickestRow.holds Try.pinned (OpenSpec.ofChange glassQuickestWrong)

/- THE SECOND FORM. 'bulk': how many values and letters a reading holds, each counted each time it is reached (what is shared counts as often as it is met; a slice's spare places count too). A statement '..UptoSaid' is the law's where the arguments, and the package variables that the reading takes, are together of bulk at most 1048576: NARROWER than '..Said'. Prove '..Said' where nothing that the law and all that it calls make is longer than what came in: it says more and counts as full. Else prove '..UptoSaid'. A law counts once. -/
mutual
def uptoBulk {H : Type} : DataW H → Nat
  | .lit (.string bytes) => bytes.length + 1
  | .lit _ => 1
  | .nil => 1
  | .ptr d => uptoBulk d + 1
  | .slice elems spare => uptoBulkAll elems + uptoBulkAll spare + 1
  | .agg parts => uptoBulkAll parts + 1
  | .iface _ d => uptoBulk d + 1
  | .map entries => uptoBulkEntries entries + 1
  | .held _ => 1
def uptoBulkAll {H : Type} : List (DataW H) → Nat
  | [] => 0
  | d :: r => uptoBulk d + uptoBulkAll r
def uptoBulkEntries {H : Type} : List (Lit × DataW H) → Nat
  | [] => 0
  | x :: r => uptoBulkEntry x + uptoBulkEntries r
def uptoBulkEntry {H : Type} : Lit × DataW H → Nat
  | (.string bytes, d) => bytes.length + uptoBulk d + 1
  | (_, d) => uptoBulk d + 1
 end
def uptoSmall : (H : Type) → List (DataW H) → Bool := fun _ ds => decide (uptoBulkAll ds ≤ 1048576)
def OpenSpec.upto (s : _root_.Go.ChangeSpec) : _root_.Go.OpenSpec := { _root_.Go.OpenSpec.ofChange s with cond := some uptoSmall }

/-- 'thermionlaw05.GlassChecks', WHERE WHAT IT READS IS OF BULK AT MOST 1048576: true; the input reads as it did. -/
def glassChecksUptoRow : OpenClaim := { program := "ytpbadgghhiommaa", sum := "71f4d9c2a21bb77b1b01f8ad96815ef01d7c27f8f740c72f5e82729280f803ef", func := "thermion/thermionlaw05.GlassChecks", spec := "glassChecks", unfollowed := true, recurses := true, apart := false, narrowed := true }
def GlassChecksUptoSaid : Prop := glassChecksUptoRow.holds Try.pinned (OpenSpec.upto glassChecksSpec)

/-- 'thermionlaw05.GlassHolds', WHERE WHAT IT READS IS OF BULK AT MOST 1048576: true; the input reads as it did. -/
def glassHoldsUptoRow : OpenClaim := { program := "ytpbadgghhiommaa", sum := "71f4d9c2a21bb77b1b01f8ad96815ef01d7c27f8f740c72f5e82729280f803ef", func := "thermion/thermionlaw05.GlassHolds", spec := "glassHolds", unfollowed := true, recurses := true, apart := false, narrowed := true }
def GlassHoldsUptoSaid : Prop := glassHoldsUptoRow.holds Try.pinned (OpenSpec.upto glassHoldsSpec)

/-- 'thermionlaw05.GlassTurns', WHERE WHAT IT READS IS OF BULK AT MOST 1048576: true; the input reads as it did. -/
def glassTurnsUptoRow : OpenClaim := { program := "ytpbadgghhiommaa", sum := "71f4d9c2a21bb77b1b01f8ad96815ef01d7c27f8f740c72f5e82729280f803ef", func := "thermion/thermionlaw05.GlassTurns", spec := "glassTurns", unfollowed := true, recurses := true, apart := false, narrowed := true }
def GlassTurnsUptoSaid : Prop := glassTurnsUptoRow.holds Try.pinned (OpenSpec.upto glassTurnsSpec)

/-- 'thermionlaw05.GlassAdds', WHERE WHAT IT READS IS OF BULK AT MOST 1048576: true; the input reads as it did. -/
def glassAddsUptoRow : OpenClaim := { program := "ytpbadgghhiommaa", sum := "71f4d9c2a21bb77b1b01f8ad96815ef01d7c27f8f740c72f5e82729280f803ef", func := "thermion/thermionlaw05.GlassAdds", spec := "glassAdds", unfollowed := true, recurses := true, apart := false, narrowed := true }
def GlassAddsUptoSaid : Prop := glassAddsUptoRow.holds Try.pinned (OpenSpec.upto glassAddsSpec)

/-- 'thermionlaw05.GlassGrows', WHERE WHAT IT READS IS OF BULK AT MOST 1048576: true; the input reads as it did. -/
def glassGrowsUptoRow : OpenClaim := { program := "ytpbadgghhiommaa", sum := "71f4d9c2a21bb77b1b01f8ad96815ef01d7c27f8f740c72f5e82729280f803ef", func := "thermion/thermionlaw05.GlassGrows", spec := "glassGrows", unfollowed := true, recurses := true, apart := false, narrowed := true }
def GlassGrowsUptoSaid : Prop := glassGrowsUptoRow.holds Try.pinned (OpenSpec.upto glassGrowsSpec)

/-- 'thermionlaw05.GlassSeals', WHERE WHAT IT READS IS OF BULK AT MOST 1048576: true; the input reads as it did. -/
def glassSealsUptoRow : OpenClaim := { program := "ytpbadgghhiommaa", sum := "71f4d9c2a21bb77b1b01f8ad96815ef01d7c27f8f740c72f5e82729280f803ef", func := "thermion/thermionlaw05.GlassSeals", spec := "glassSeals", unfollowed := true, recurses := true, apart := false, narrowed := true }
def GlassSealsUptoSaid : Prop := glassSealsUptoRow.holds Try.pinned (OpenSpec.upto glassSealsSpec)

/-- 'thermionlaw05.GlassRelaxes', WHERE WHAT IT READS IS OF BULK AT MOST 1048576: true; the input reads as it did. -/
def glassRelaxesUptoRow : OpenClaim := { program := "ytpbadgghhiommaa", sum := "71f4d9c2a21bb77b1b01f8ad96815ef01d7c27f8f740c72f5e82729280f803ef", func := "thermion/thermionlaw05.GlassRelaxes", spec := "glassRelaxes", unfollowed := true, recurses := true, apart := false, narrowed := true }
def GlassRelaxesUptoSaid : Prop := glassRelaxesUptoRow.holds Try.pinned (OpenSpec.upto glassRelaxesSpec)

/-- 'thermionlaw05.GlassOrders', WHERE WHAT IT READS IS OF BULK AT MOST 1048576: true; the input reads as it did. -/
def glassOrdersUptoRow : OpenClaim := { program := "ytpbadgghhiommaa", sum := "71f4d9c2a21bb77b1b01f8ad96815ef01d7c27f8f740c72f5e82729280f803ef", func := "thermion/thermionlaw05.GlassOrders", spec := "glassOrders", unfollowed := true, recurses := true, apart := false, narrowed := true }
def GlassOrdersUptoSaid : Prop := glassOrdersUptoRow.holds Try.pinned (OpenSpec.upto glassOrdersSpec)

/-- 'thermionlaw05.GlassFirst', WHERE WHAT IT READS IS OF BULK AT MOST 1048576: true; the input reads as it did. -/
def glassFirstUptoRow : OpenClaim := { program := "ytpbadgghhiommaa", sum := "71f4d9c2a21bb77b1b01f8ad96815ef01d7c27f8f740c72f5e82729280f803ef", func := "thermion/thermionlaw05.GlassFirst", spec := "glassFirst", unfollowed := true, recurses := true, apart := false, narrowed := true }
def GlassFirstUptoSaid : Prop := glassFirstUptoRow.holds Try.pinned (OpenSpec.upto glassFirstSpec)

/-- 'thermionlaw05.GlassBears', WHERE WHAT IT READS IS OF BULK AT MOST 1048576: true; the input reads as it did. -/
def glassBearsUptoRow : OpenClaim := { program := "ytpbadgghhiommaa", sum := "71f4d9c2a21bb77b1b01f8ad96815ef01d7c27f8f740c72f5e82729280f803ef", func := "thermion/thermionlaw05.GlassBears", spec := "glassBears", unfollowed := true, recurses := true, apart := false, narrowed := true }
def GlassBearsUptoSaid : Prop := glassBearsUptoRow.holds Try.pinned (OpenSpec.upto glassBearsSpec)

/-- 'thermionlaw05.GlassTruths', WHERE WHAT IT READS IS OF BULK AT MOST 1048576: true; the input reads as it did. -/
def glassTruthsUptoRow : OpenClaim := { program := "ytpbadgghhiommaa", sum := "71f4d9c2a21bb77b1b01f8ad96815ef01d7c27f8f740c72f5e82729280f803ef", func := "thermion/thermionlaw05.GlassTruths", spec := "glassTruths", unfollowed := true, recurses := true, apart := false, narrowed := true }
def GlassTruthsUptoSaid : Prop := glassTruthsUptoRow.holds Try.pinned (OpenSpec.upto glassTruthsSpec)

/-- 'thermionlaw05.GlassThicker', WHERE WHAT IT READS IS OF BULK AT MOST 1048576: true; the input reads as it did. -/
def glassThickerUptoRow : OpenClaim := { program := "ytpbadgghhiommaa", sum := "71f4d9c2a21bb77b1b01f8ad96815ef01d7c27f8f740c72f5e82729280f803ef", func := "thermion/thermionlaw05.GlassThicker", spec := "glassThicker", unfollowed := true, recurses := true, apart := false, narrowed := true }
def GlassThickerUptoSaid : Prop := glassThickerUptoRow.holds Try.pinned (OpenSpec.upto glassThickerSpec)

/-- 'thermionlaw05.GlassNarrows', WHERE WHAT IT READS IS OF BULK AT MOST 1048576: true; the input reads as it did. -/
def glassNarrowsUptoRow : OpenClaim := { program := "ytpbadgghhiommaa", sum := "71f4d9c2a21bb77b1b01f8ad96815ef01d7c27f8f740c72f5e82729280f803ef", func := "thermion/thermionlaw05.GlassNarrows", spec := "glassNarrows", unfollowed := true, recurses := true, apart := false, narrowed := true }
def GlassNarrowsUptoSaid : Prop := glassNarrowsUptoRow.holds Try.pinned (OpenSpec.upto glassNarrowsSpec)

/-- 'thermionlaw05.GlassStrains', WHERE WHAT IT READS IS OF BULK AT MOST 1048576: true; the input reads as it did. -/
def glassStrainsUptoRow : OpenClaim := { program := "ytpbadgghhiommaa", sum := "71f4d9c2a21bb77b1b01f8ad96815ef01d7c27f8f740c72f5e82729280f803ef", func := "thermion/thermionlaw05.GlassStrains", spec := "glassStrains", unfollowed := true, recurses := true, apart := false, narrowed := true }
def GlassStrainsUptoSaid : Prop := glassStrainsUptoRow.holds Try.pinned (OpenSpec.upto glassStrainsSpec)

/-- 'thermionlaw05.GlassFastest', WHERE WHAT IT READS IS OF BULK AT MOST 1048576: true; the input reads as it did. -/
def glassFastestUptoRow : OpenClaim := { program := "ytpbadgghhiommaa", sum := "71f4d9c2a21bb77b1b01f8ad96815ef01d7c27f8f740c72f5e82729280f803ef", func := "thermion/thermionlaw05.GlassFastest", spec := "glassFastest", unfollowed := true, recurses := true, apart := false, narrowed := true }
def GlassFastestUptoSaid : Prop := glassFastestUptoRow.holds Try.pinned (OpenSpec.upto glassFastestSpec)

/-- 'thermionlaw05.GlassQuickest', WHERE WHAT IT READS IS OF BULK AT MOST 1048576: true; the input reads as it did. -/
def glassQuickestUptoRow : OpenClaim := { program := "ytpbadgghhiommaa", sum := "71f4d9c2a21bb77b1b01f8ad96815ef01d7c27f8f740c72f5e82729280f803ef", func := "thermion/thermionlaw05.GlassQuickest", spec := "glassQuickest", unfollowed := true, recurses := true, apart := false, narrowed := true }
def GlassQuickestUptoSaid : Prop := glassQuickestUptoRow.holds Try.pinned (OpenSpec.upto glassQuickestSpec)

end Rows
end Go.Proofs.Ytpbadgghhiommaa
