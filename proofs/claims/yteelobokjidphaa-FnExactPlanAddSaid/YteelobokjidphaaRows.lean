/-
  No cell of these rows narrows 'for every input' (looked for: loops, veiled, ifaces, maps, wideKeys, modest, calm, conditions, laid).
  DERIVED. THE GIVEN ROWS OF THIS SEAT. 14 by the template 'for every input the law returns true; each argument reads behind the call as it read before'; 0 by the template 'total and deterministic' (their statements: YteelobokjidphaaTotals.lean).
  GIVEN WITH THE SEED: the statements are not yours to turn. If you find one false, say at which input.
  Laid BY PROGRAM, IN A SANDBOX (cutbox-rows.mjs): the forced cells as the released guide's own fill.sh prints them over the translation 73f0cef34bac627d… (all of the seat's roots in one cut). By AI agents, Wed Nov 11 2026. No macro, syntax, notation, axiom, sorry.
-/
import Derived.Test.YteelobokjidphaaChecked
import GoSem.Claim
import GoSem.ClaimJoined
import GoSem.ClaimMapViews
import Derived.JoinedTies
import Derived.KernelRfl
namespace Go.Proofs.Yteelobokjidphaa
/- THE CELL 'sum', in the pinned program and in every row, IS THE sha256 OF THE DUMP (.gsa) THAT YteelobokjidphaaProg.lean LOADS. Nothing in Lean hashes anything: it is a label: what it is worth is what the hold of that sum in a sandbox is worth. -/
noncomputable def Try.pinned : Pinned := { name := "yteelobokjidphaa", sum := "73f0cef34bac627dc7f2a2b61ef3dbd5f096649f2a537efcd8c582edcdf30df5", checked := Try.checked }
namespace Rows
def none {H : Type} : Left H := { results := [], args := [] }

/-- 'laws.FnExactValueOf': WHATEVER THE INPUT: true; the input reads as it did. -/
def fnExactValueOfSpec : ChangeSpec := { name := "fnExactValueOf", fn := fun _ => fun
  | [d1, d2] => { results := [.lit (.bool true)], args := [d1, d2] }
  | _ => none }
def fnExactValueOfRow : OpenClaim := { program := "yteelobokjidphaa", sum := "73f0cef34bac627dc7f2a2b61ef3dbd5f096649f2a537efcd8c582edcdf30df5", func := "loop.example/workplans/laws.FnExactValueOf", spec := "fnExactValueOf", unfollowed := true, recurses := true, apart := false }
def FnExactValueOfSaid : Prop := fnExactValueOfRow.holds Try.pinned (OpenSpec.ofChange fnExactValueOfSpec)

/-- ITS FALSE NEIGHBOUR: 'it returns false'. Refute it at one input. -/
def fnExactValueOfWrong : ChangeSpec := { name := "fnExactValueOf", fn := fun _ => fun
  | [d1, d2] => { results := [.lit (.bool false)], args := [d1, d2] }
  | _ => none }
def FnExactValueOfWrongFalsely : Prop := fnExactValueOfRow.holds Try.pinned (OpenSpec.ofChange fnExactValueOfWrong)

/-- 'laws.FnExactValuesOf': WHATEVER THE INPUT: true; the input reads as it did. -/
def fnExactValuesOfSpec : ChangeSpec := { name := "fnExactValuesOf", fn := fun _ => fun
  | [d] => { results := [.lit (.bool true)], args := [d] }
  | _ => none }
def fnExactValuesOfRow : OpenClaim := { program := "yteelobokjidphaa", sum := "73f0cef34bac627dc7f2a2b61ef3dbd5f096649f2a537efcd8c582edcdf30df5", func := "loop.example/workplans/laws.FnExactValuesOf", spec := "fnExactValuesOf", unfollowed := true, recurses := true, apart := false }
def FnExactValuesOfSaid : Prop := fnExactValuesOfRow.holds Try.pinned (OpenSpec.ofChange fnExactValuesOfSpec)

/-- ITS FALSE NEIGHBOUR: 'it returns false'. Refute it at one input. -/
def fnExactValuesOfWrong : ChangeSpec := { name := "fnExactValuesOf", fn := fun _ => fun
  | [d] => { results := [.lit (.bool false)], args := [d] }
  | _ => none }
def FnExactValuesOfWrongFalsely : Prop := fnExactValuesOfRow.holds Try.pinned (OpenSpec.ofChange fnExactValuesOfWrong)

/-- 'laws.FnExactValueStep': WHATEVER THE INPUT: true; the input reads as it did. -/
def fnExactValueStepSpec : ChangeSpec := { name := "fnExactValueStep", fn := fun _ => fun
  | [d1, d2, d3] => { results := [.lit (.bool true)], args := [d1, d2, d3] }
  | _ => none }
def fnExactValueStepRow : OpenClaim := { program := "yteelobokjidphaa", sum := "73f0cef34bac627dc7f2a2b61ef3dbd5f096649f2a537efcd8c582edcdf30df5", func := "loop.example/workplans/laws.FnExactValueStep", spec := "fnExactValueStep", unfollowed := true, recurses := true, apart := false }
def FnExactValueStepSaid : Prop := fnExactValueStepRow.holds Try.pinned (OpenSpec.ofChange fnExactValueStepSpec)

/-- ITS FALSE NEIGHBOUR: 'it returns false'. Refute it at one input. -/
def fnExactValueStepWrong : ChangeSpec := { name := "fnExactValueStep", fn := fun _ => fun
  | [d1, d2, d3] => { results := [.lit (.bool false)], args := [d1, d2, d3] }
  | _ => none }
def FnExactValueStepWrongFalsely : Prop := fnExactValueStepRow.holds Try.pinned (OpenSpec.ofChange fnExactValueStepWrong)

/-- 'laws.FnExactPlanAdd': WHATEVER THE INPUT: true; the input reads as it did. -/
def fnExactPlanAddSpec : ChangeSpec := { name := "fnExactPlanAdd", fn := fun _ => fun
  | [d1, d2] => { results := [.lit (.bool true)], args := [d1, d2] }
  | _ => none }
def fnExactPlanAddRow : OpenClaim := { program := "yteelobokjidphaa", sum := "73f0cef34bac627dc7f2a2b61ef3dbd5f096649f2a537efcd8c582edcdf30df5", func := "loop.example/workplans/laws.FnExactPlanAdd", spec := "fnExactPlanAdd", unfollowed := true, recurses := true, apart := false }
def FnExactPlanAddSaid : Prop := fnExactPlanAddRow.holds Try.pinned (OpenSpec.ofChange fnExactPlanAddSpec)

/-- ITS FALSE NEIGHBOUR: 'it returns false'. Refute it at one input. -/
def fnExactPlanAddWrong : ChangeSpec := { name := "fnExactPlanAdd", fn := fun _ => fun
  | [d1, d2] => { results := [.lit (.bool false)], args := [d1, d2] }
  | _ => none }
def FnExactPlanAddWrongFalsely : Prop := fnExactPlanAddRow.holds Try.pinned (OpenSpec.ofChange fnExactPlanAddWrong)

/-- 'laws.FnValuesAdd': WHATEVER THE INPUT: true; the input reads as it did. -/
def fnValuesAddSpec : ChangeSpec := { name := "fnValuesAdd", fn := fun _ => fun
  | [d] => { results := [.lit (.bool true)], args := [d] }
  | _ => none }
def fnValuesAddRow : OpenClaim := { program := "yteelobokjidphaa", sum := "73f0cef34bac627dc7f2a2b61ef3dbd5f096649f2a537efcd8c582edcdf30df5", func := "loop.example/workplans/laws.FnValuesAdd", spec := "fnValuesAdd", unfollowed := true, recurses := true, apart := false }
def FnValuesAddSaid : Prop := fnValuesAddRow.holds Try.pinned (OpenSpec.ofChange fnValuesAddSpec)

/-- ITS FALSE NEIGHBOUR: 'it returns false'. Refute it at one input. -/
def fnValuesAddWrong : ChangeSpec := { name := "fnValuesAdd", fn := fun _ => fun
  | [d] => { results := [.lit (.bool false)], args := [d] }
  | _ => none }
def FnValuesAddWrongFalsely : Prop := fnValuesAddRow.holds Try.pinned (OpenSpec.ofChange fnValuesAddWrong)

/-- 'laws.FnStepKind': WHATEVER THE INPUT: true; the input reads as it did. -/
def fnStepKindSpec : ChangeSpec := { name := "fnStepKind", fn := fun _ => fun
  | [d] => { results := [.lit (.bool true)], args := [d] }
  | _ => none }
def fnStepKindRow : OpenClaim := { program := "yteelobokjidphaa", sum := "73f0cef34bac627dc7f2a2b61ef3dbd5f096649f2a537efcd8c582edcdf30df5", func := "loop.example/workplans/laws.FnStepKind", spec := "fnStepKind", unfollowed := true, recurses := true, apart := false }
def FnStepKindSaid : Prop := fnStepKindRow.holds Try.pinned (OpenSpec.ofChange fnStepKindSpec)

/-- ITS FALSE NEIGHBOUR: 'it returns false'. Refute it at one input. -/
def fnStepKindWrong : ChangeSpec := { name := "fnStepKind", fn := fun _ => fun
  | [d] => { results := [.lit (.bool false)], args := [d] }
  | _ => none }
def FnStepKindWrongFalsely : Prop := fnStepKindRow.holds Try.pinned (OpenSpec.ofChange fnStepKindWrong)

/-- 'laws.FnValues': WHATEVER THE INPUT: true; the input reads as it did. -/
def fnValuesSpec : ChangeSpec := { name := "fnValues", fn := fun _ => fun
  | [d] => { results := [.lit (.bool true)], args := [d] }
  | _ => none }
def fnValuesRow : OpenClaim := { program := "yteelobokjidphaa", sum := "73f0cef34bac627dc7f2a2b61ef3dbd5f096649f2a537efcd8c582edcdf30df5", func := "loop.example/workplans/laws.FnValues", spec := "fnValues", unfollowed := true, recurses := true, apart := false }
def FnValuesSaid : Prop := fnValuesRow.holds Try.pinned (OpenSpec.ofChange fnValuesSpec)

/-- ITS FALSE NEIGHBOUR: 'it returns false'. Refute it at one input. -/
def fnValuesWrong : ChangeSpec := { name := "fnValues", fn := fun _ => fun
  | [d] => { results := [.lit (.bool false)], args := [d] }
  | _ => none }
def FnValuesWrongFalsely : Prop := fnValuesRow.holds Try.pinned (OpenSpec.ofChange fnValuesWrong)

/-- 'laws.FnValuesPart': WHATEVER THE INPUT: true; the input reads as it did. -/
def fnValuesPartSpec : ChangeSpec := { name := "fnValuesPart", fn := fun _ => fun
  | [d1, d2] => { results := [.lit (.bool true)], args := [d1, d2] }
  | _ => none }
def fnValuesPartRow : OpenClaim := { program := "yteelobokjidphaa", sum := "73f0cef34bac627dc7f2a2b61ef3dbd5f096649f2a537efcd8c582edcdf30df5", func := "loop.example/workplans/laws.FnValuesPart", spec := "fnValuesPart", unfollowed := true, recurses := true, apart := false }
def FnValuesPartSaid : Prop := fnValuesPartRow.holds Try.pinned (OpenSpec.ofChange fnValuesPartSpec)

/-- ITS FALSE NEIGHBOUR: 'it returns false'. Refute it at one input. -/
def fnValuesPartWrong : ChangeSpec := { name := "fnValuesPart", fn := fun _ => fun
  | [d1, d2] => { results := [.lit (.bool false)], args := [d1, d2] }
  | _ => none }
def FnValuesPartWrongFalsely : Prop := fnValuesPartRow.holds Try.pinned (OpenSpec.ofChange fnValuesPartWrong)

/-- 'laws.FnValuesWide': WHATEVER THE INPUT: true; the input reads as it did. -/
def fnValuesWideSpec : ChangeSpec := { name := "fnValuesWide", fn := fun _ => fun
  | [d] => { results := [.lit (.bool true)], args := [d] }
  | _ => none }
def fnValuesWideRow : OpenClaim := { program := "yteelobokjidphaa", sum := "73f0cef34bac627dc7f2a2b61ef3dbd5f096649f2a537efcd8c582edcdf30df5", func := "loop.example/workplans/laws.FnValuesWide", spec := "fnValuesWide", unfollowed := true, recurses := true, apart := false }
def FnValuesWideSaid : Prop := fnValuesWideRow.holds Try.pinned (OpenSpec.ofChange fnValuesWideSpec)

/-- ITS FALSE NEIGHBOUR: 'it returns false'. Refute it at one input. -/
def fnValuesWideWrong : ChangeSpec := { name := "fnValuesWide", fn := fun _ => fun
  | [d] => { results := [.lit (.bool false)], args := [d] }
  | _ => none }
def FnValuesWideWrongFalsely : Prop := fnValuesWideRow.holds Try.pinned (OpenSpec.ofChange fnValuesWideWrong)

/-- 'laws.FnValue': WHATEVER THE INPUT: true; the input reads as it did. -/
def fnValueSpec : ChangeSpec := { name := "fnValue", fn := fun _ => fun
  | [d] => { results := [.lit (.bool true)], args := [d] }
  | _ => none }
def fnValueRow : OpenClaim := { program := "yteelobokjidphaa", sum := "73f0cef34bac627dc7f2a2b61ef3dbd5f096649f2a537efcd8c582edcdf30df5", func := "loop.example/workplans/laws.FnValue", spec := "fnValue", unfollowed := true, recurses := true, apart := false }
def FnValueSaid : Prop := fnValueRow.holds Try.pinned (OpenSpec.ofChange fnValueSpec)

/-- ITS FALSE NEIGHBOUR: 'it returns false'. Refute it at one input. -/
def fnValueWrong : ChangeSpec := { name := "fnValue", fn := fun _ => fun
  | [d] => { results := [.lit (.bool false)], args := [d] }
  | _ => none }
def FnValueWrongFalsely : Prop := fnValueRow.holds Try.pinned (OpenSpec.ofChange fnValueWrong)

/-- 'laws.FnValueStep': WHATEVER THE INPUT: true; the input reads as it did. -/
def fnValueStepSpec : ChangeSpec := { name := "fnValueStep", fn := fun _ => fun
  | [d] => { results := [.lit (.bool true)], args := [d] }
  | _ => none }
def fnValueStepRow : OpenClaim := { program := "yteelobokjidphaa", sum := "73f0cef34bac627dc7f2a2b61ef3dbd5f096649f2a537efcd8c582edcdf30df5", func := "loop.example/workplans/laws.FnValueStep", spec := "fnValueStep", unfollowed := true, recurses := true, apart := false }
def FnValueStepSaid : Prop := fnValueStepRow.holds Try.pinned (OpenSpec.ofChange fnValueStepSpec)

/-- ITS FALSE NEIGHBOUR: 'it returns false'. Refute it at one input. -/
def fnValueStepWrong : ChangeSpec := { name := "fnValueStep", fn := fun _ => fun
  | [d] => { results := [.lit (.bool false)], args := [d] }
  | _ => none }
def FnValueStepWrongFalsely : Prop := fnValueStepRow.holds Try.pinned (OpenSpec.ofChange fnValueStepWrong)

/-- 'laws.FnPlanAdd': WHATEVER THE INPUT: true; the input reads as it did. -/
def fnPlanAddSpec : ChangeSpec := { name := "fnPlanAdd", fn := fun _ => fun
  | [d] => { results := [.lit (.bool true)], args := [d] }
  | _ => none }
def fnPlanAddRow : OpenClaim := { program := "yteelobokjidphaa", sum := "73f0cef34bac627dc7f2a2b61ef3dbd5f096649f2a537efcd8c582edcdf30df5", func := "loop.example/workplans/laws.FnPlanAdd", spec := "fnPlanAdd", unfollowed := true, recurses := true, apart := false }
def FnPlanAddSaid : Prop := fnPlanAddRow.holds Try.pinned (OpenSpec.ofChange fnPlanAddSpec)

/-- ITS FALSE NEIGHBOUR: 'it returns false'. Refute it at one input. -/
def fnPlanAddWrong : ChangeSpec := { name := "fnPlanAdd", fn := fun _ => fun
  | [d] => { results := [.lit (.bool false)], args := [d] }
  | _ => none }
def FnPlanAddWrongFalsely : Prop := fnPlanAddRow.holds Try.pinned (OpenSpec.ofChange fnPlanAddWrong)

/-- 'laws.FnPlanAddUses': WHATEVER THE INPUT: true; the input reads as it did. -/
def fnPlanAddUsesSpec : ChangeSpec := { name := "fnPlanAddUses", fn := fun _ => fun
  | [d] => { results := [.lit (.bool true)], args := [d] }
  | _ => none }
def fnPlanAddUsesRow : OpenClaim := { program := "yteelobokjidphaa", sum := "73f0cef34bac627dc7f2a2b61ef3dbd5f096649f2a537efcd8c582edcdf30df5", func := "loop.example/workplans/laws.FnPlanAddUses", spec := "fnPlanAddUses", unfollowed := true, recurses := true, apart := false }
def FnPlanAddUsesSaid : Prop := fnPlanAddUsesRow.holds Try.pinned (OpenSpec.ofChange fnPlanAddUsesSpec)

/-- ITS FALSE NEIGHBOUR: 'it returns false'. Refute it at one input. -/
def fnPlanAddUsesWrong : ChangeSpec := { name := "fnPlanAddUses", fn := fun _ => fun
  | [d] => { results := [.lit (.bool false)], args := [d] }
  | _ => none }
def FnPlanAddUsesWrongFalsely : Prop := fnPlanAddUsesRow.holds Try.pinned (OpenSpec.ofChange fnPlanAddUsesWrong)

/-- 'laws.FnReadyOne': WHATEVER THE INPUT: true; the input reads as it did. -/
def fnReadyOneSpec : ChangeSpec := { name := "fnReadyOne", fn := fun _ => fun
  | [d] => { results := [.lit (.bool true)], args := [d] }
  | _ => none }
def fnReadyOneRow : OpenClaim := { program := "yteelobokjidphaa", sum := "73f0cef34bac627dc7f2a2b61ef3dbd5f096649f2a537efcd8c582edcdf30df5", func := "loop.example/workplans/laws.FnReadyOne", spec := "fnReadyOne", unfollowed := true, recurses := true, apart := false }
def FnReadyOneSaid : Prop := fnReadyOneRow.holds Try.pinned (OpenSpec.ofChange fnReadyOneSpec)

/-- ITS FALSE NEIGHBOUR: 'it returns false'. Refute it at one input. -/
def fnReadyOneWrong : ChangeSpec := { name := "fnReadyOne", fn := fun _ => fun
  | [d] => { results := [.lit (.bool false)], args := [d] }
  | _ => none }
def FnReadyOneWrongFalsely : Prop := fnReadyOneRow.holds Try.pinned (OpenSpec.ofChange fnReadyOneWrong)

/- THE SECOND FORM. 'bulk': how many values and letters a reading holds, each counted each time it is reached (what is shared counts as often as it is met; a slice's spare places count too). A statement '..UptoSaid' is the law's where the arguments, and the package variables that the reading takes, are together of bulk at most 1048576: NARROWER than '..Said'. Prove '..Said' where nothing that the law and all that it calls make is longer than what came in: it says more and counts as full. Else prove '..UptoSaid'. A law counts once. -/
mutual
def uptoBulk {H : Type} : DataW H → Nat
  | .lit (.string bytes) => bytes.length + 1
  | .lit _ => 1
  | .nil => 1
  | .ptr d => uptoBulk d + 1
  | .slice elems spare => uptoBulkAll elems + uptoBulkAll spare + 1
  | .agg parts => uptoBulkAll parts + 1
  | .iface _ d => uptoBulk d + 1
  | .map entries => uptoBulkEntries entries + 1
  | .held _ => 1
def uptoBulkAll {H : Type} : List (DataW H) → Nat
  | [] => 0
  | d :: r => uptoBulk d + uptoBulkAll r
def uptoBulkEntries {H : Type} : List (Lit × DataW H) → Nat
  | [] => 0
  | x :: r => uptoBulkEntry x + uptoBulkEntries r
def uptoBulkEntry {H : Type} : Lit × DataW H → Nat
  | (.string bytes, d) => bytes.length + uptoBulk d + 1
  | (_, d) => uptoBulk d + 1
 end
def uptoSmall : (H : Type) → List (DataW H) → Bool := fun _ ds => decide (uptoBulkAll ds ≤ 1048576)
def OpenSpec.upto (s : _root_.Go.ChangeSpec) : _root_.Go.OpenSpec := { _root_.Go.OpenSpec.ofChange s with cond := some uptoSmall }

/-- 'laws.FnExactValueOf', WHERE WHAT IT READS IS OF BULK AT MOST 1048576: true; the input reads as it did. -/
def fnExactValueOfUptoRow : OpenClaim := { program := "yteelobokjidphaa", sum := "73f0cef34bac627dc7f2a2b61ef3dbd5f096649f2a537efcd8c582edcdf30df5", func := "loop.example/workplans/laws.FnExactValueOf", spec := "fnExactValueOf", unfollowed := true, recurses := true, apart := false, narrowed := true }
def FnExactValueOfUptoSaid : Prop := fnExactValueOfUptoRow.holds Try.pinned (OpenSpec.upto fnExactValueOfSpec)

/-- 'laws.FnExactValuesOf', WHERE WHAT IT READS IS OF BULK AT MOST 1048576: true; the input reads as it did. -/
def fnExactValuesOfUptoRow : OpenClaim := { program := "yteelobokjidphaa", sum := "73f0cef34bac627dc7f2a2b61ef3dbd5f096649f2a537efcd8c582edcdf30df5", func := "loop.example/workplans/laws.FnExactValuesOf", spec := "fnExactValuesOf", unfollowed := true, recurses := true, apart := false, narrowed := true }
def FnExactValuesOfUptoSaid : Prop := fnExactValuesOfUptoRow.holds Try.pinned (OpenSpec.upto fnExactValuesOfSpec)

/-- 'laws.FnExactValueStep', WHERE WHAT IT READS IS OF BULK AT MOST 1048576: true; the input reads as it did. -/
def fnExactValueStepUptoRow : OpenClaim := { program := "yteelobokjidphaa", sum := "73f0cef34bac627dc7f2a2b61ef3dbd5f096649f2a537efcd8c582edcdf30df5", func := "loop.example/workplans/laws.FnExactValueStep", spec := "fnExactValueStep", unfollowed := true, recurses := true, apart := false, narrowed := true }
def FnExactValueStepUptoSaid : Prop := fnExactValueStepUptoRow.holds Try.pinned (OpenSpec.upto fnExactValueStepSpec)

/-- 'laws.FnExactPlanAdd', WHERE WHAT IT READS IS OF BULK AT MOST 1048576: true; the input reads as it did. -/
def fnExactPlanAddUptoRow : OpenClaim := { program := "yteelobokjidphaa", sum := "73f0cef34bac627dc7f2a2b61ef3dbd5f096649f2a537efcd8c582edcdf30df5", func := "loop.example/workplans/laws.FnExactPlanAdd", spec := "fnExactPlanAdd", unfollowed := true, recurses := true, apart := false, narrowed := true }
def FnExactPlanAddUptoSaid : Prop := fnExactPlanAddUptoRow.holds Try.pinned (OpenSpec.upto fnExactPlanAddSpec)

/-- 'laws.FnValuesAdd', WHERE WHAT IT READS IS OF BULK AT MOST 1048576: true; the input reads as it did. -/
def fnValuesAddUptoRow : OpenClaim := { program := "yteelobokjidphaa", sum := "73f0cef34bac627dc7f2a2b61ef3dbd5f096649f2a537efcd8c582edcdf30df5", func := "loop.example/workplans/laws.FnValuesAdd", spec := "fnValuesAdd", unfollowed := true, recurses := true, apart := false, narrowed := true }
def FnValuesAddUptoSaid : Prop := fnValuesAddUptoRow.holds Try.pinned (OpenSpec.upto fnValuesAddSpec)

/-- 'laws.FnStepKind', WHERE WHAT IT READS IS OF BULK AT MOST 1048576: true; the input reads as it did. -/
def fnStepKindUptoRow : OpenClaim := { program := "yteelobokjidphaa", sum := "73f0cef34bac627dc7f2a2b61ef3dbd5f096649f2a537efcd8c582edcdf30df5", func := "loop.example/workplans/laws.FnStepKind", spec := "fnStepKind", unfollowed := true, recurses := true, apart := false, narrowed := true }
def FnStepKindUptoSaid : Prop := fnStepKindUptoRow.holds Try.pinned (OpenSpec.upto fnStepKindSpec)

/-- 'laws.FnValues', WHERE WHAT IT READS IS OF BULK AT MOST 1048576: true; the input reads as it did. -/
def fnValuesUptoRow : OpenClaim := { program := "yteelobokjidphaa", sum := "73f0cef34bac627dc7f2a2b61ef3dbd5f096649f2a537efcd8c582edcdf30df5", func := "loop.example/workplans/laws.FnValues", spec := "fnValues", unfollowed := true, recurses := true, apart := false, narrowed := true }
def FnValuesUptoSaid : Prop := fnValuesUptoRow.holds Try.pinned (OpenSpec.upto fnValuesSpec)

/-- 'laws.FnValuesPart', WHERE WHAT IT READS IS OF BULK AT MOST 1048576: true; the input reads as it did. -/
def fnValuesPartUptoRow : OpenClaim := { program := "yteelobokjidphaa", sum := "73f0cef34bac627dc7f2a2b61ef3dbd5f096649f2a537efcd8c582edcdf30df5", func := "loop.example/workplans/laws.FnValuesPart", spec := "fnValuesPart", unfollowed := true, recurses := true, apart := false, narrowed := true }
def FnValuesPartUptoSaid : Prop := fnValuesPartUptoRow.holds Try.pinned (OpenSpec.upto fnValuesPartSpec)

/-- 'laws.FnValuesWide', WHERE WHAT IT READS IS OF BULK AT MOST 1048576: true; the input reads as it did. -/
def fnValuesWideUptoRow : OpenClaim := { program := "yteelobokjidphaa", sum := "73f0cef34bac627dc7f2a2b61ef3dbd5f096649f2a537efcd8c582edcdf30df5", func := "loop.example/workplans/laws.FnValuesWide", spec := "fnValuesWide", unfollowed := true, recurses := true, apart := false, narrowed := true }
def FnValuesWideUptoSaid : Prop := fnValuesWideUptoRow.holds Try.pinned (OpenSpec.upto fnValuesWideSpec)

/-- 'laws.FnValue', WHERE WHAT IT READS IS OF BULK AT MOST 1048576: true; the input reads as it did. -/
def fnValueUptoRow : OpenClaim := { program := "yteelobokjidphaa", sum := "73f0cef34bac627dc7f2a2b61ef3dbd5f096649f2a537efcd8c582edcdf30df5", func := "loop.example/workplans/laws.FnValue", spec := "fnValue", unfollowed := true, recurses := true, apart := false, narrowed := true }
def FnValueUptoSaid : Prop := fnValueUptoRow.holds Try.pinned (OpenSpec.upto fnValueSpec)

/-- 'laws.FnValueStep', WHERE WHAT IT READS IS OF BULK AT MOST 1048576: true; the input reads as it did. -/
def fnValueStepUptoRow : OpenClaim := { program := "yteelobokjidphaa", sum := "73f0cef34bac627dc7f2a2b61ef3dbd5f096649f2a537efcd8c582edcdf30df5", func := "loop.example/workplans/laws.FnValueStep", spec := "fnValueStep", unfollowed := true, recurses := true, apart := false, narrowed := true }
def FnValueStepUptoSaid : Prop := fnValueStepUptoRow.holds Try.pinned (OpenSpec.upto fnValueStepSpec)

/-- 'laws.FnPlanAdd', WHERE WHAT IT READS IS OF BULK AT MOST 1048576: true; the input reads as it did. -/
def fnPlanAddUptoRow : OpenClaim := { program := "yteelobokjidphaa", sum := "73f0cef34bac627dc7f2a2b61ef3dbd5f096649f2a537efcd8c582edcdf30df5", func := "loop.example/workplans/laws.FnPlanAdd", spec := "fnPlanAdd", unfollowed := true, recurses := true, apart := false, narrowed := true }
def FnPlanAddUptoSaid : Prop := fnPlanAddUptoRow.holds Try.pinned (OpenSpec.upto fnPlanAddSpec)

/-- 'laws.FnPlanAddUses', WHERE WHAT IT READS IS OF BULK AT MOST 1048576: true; the input reads as it did. -/
def fnPlanAddUsesUptoRow : OpenClaim := { program := "yteelobokjidphaa", sum := "73f0cef34bac627dc7f2a2b61ef3dbd5f096649f2a537efcd8c582edcdf30df5", func := "loop.example/workplans/laws.FnPlanAddUses", spec := "fnPlanAddUses", unfollowed := true, recurses := true, apart := false, narrowed := true }
def FnPlanAddUsesUptoSaid : Prop := fnPlanAddUsesUptoRow.holds Try.pinned (OpenSpec.upto fnPlanAddUsesSpec)

/-- 'laws.FnReadyOne', WHERE WHAT IT READS IS OF BULK AT MOST 1048576: true; the input reads as it did. -/
def fnReadyOneUptoRow : OpenClaim := { program := "yteelobokjidphaa", sum := "73f0cef34bac627dc7f2a2b61ef3dbd5f096649f2a537efcd8c582edcdf30df5", func := "loop.example/workplans/laws.FnReadyOne", spec := "fnReadyOne", unfollowed := true, recurses := true, apart := false, narrowed := true }
def FnReadyOneUptoSaid : Prop := fnReadyOneUptoRow.holds Try.pinned (OpenSpec.upto fnReadyOneSpec)

end Rows
end Go.Proofs.Yteelobokjidphaa
