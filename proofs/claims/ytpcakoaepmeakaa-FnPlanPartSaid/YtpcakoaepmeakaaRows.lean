/-
  No cell of these rows narrows 'for every input' (looked for: loops, veiled, ifaces, maps, wideKeys, modest, calm, conditions, laid).
  DERIVED. THE GIVEN ROWS OF THIS SEAT. 12 by the template 'for every input the law returns true; each argument reads behind the call as it read before'; 0 by the template 'total and deterministic' (their statements: YtpcakoaepmeakaaTotals.lean).
  GIVEN WITH THE SEED: the statements are not yours to turn. If you find one false, say at which input.
  Laid BY PROGRAM, IN A SANDBOX (cutbox-rows.mjs): the forced cells as the released guide's own fill.sh prints them over the translation 1cd2d9d5862c63f6… (all of the seat's roots in one cut). By AI agents, Wed Nov 11 2026. No macro, syntax, notation, axiom, sorry.
-/
import Derived.Test.YtpcakoaepmeakaaChecked
import GoSem.Claim
import GoSem.ClaimJoined
import GoSem.ClaimMapViews
import Derived.JoinedTies
import Derived.KernelRfl
namespace Go.Proofs.Ytpcakoaepmeakaa
/- THE CELL 'sum', in the pinned program and in every row, IS THE sha256 OF THE DUMP (.gsa) THAT YtpcakoaepmeakaaProg.lean LOADS. Nothing in Lean hashes anything: it is a label: what it is worth is what the hold of that sum in a sandbox is worth. -/
noncomputable def Try.pinned : Pinned := { name := "ytpcakoaepmeakaa", sum := "1cd2d9d5862c63f6092f08f79e9715f871f5af90a35732a066bd4813a647317b", checked := Try.checked }
namespace Rows
def none {H : Type} : Left H := { results := [], args := [] }

/-- 'laws.FnKindRunSwap': WHATEVER THE INPUT: true; the input reads as it did. -/
def fnKindRunSwapSpec : ChangeSpec := { name := "fnKindRunSwap", fn := fun _ => fun
  | [d] => { results := [.lit (.bool true)], args := [d] }
  | _ => none }
def fnKindRunSwapRow : OpenClaim := { program := "ytpcakoaepmeakaa", sum := "1cd2d9d5862c63f6092f08f79e9715f871f5af90a35732a066bd4813a647317b", func := "loop.example/workplans/laws.FnKindRunSwap", spec := "fnKindRunSwap", unfollowed := true, recurses := true, apart := false }
def FnKindRunSwapSaid : Prop := fnKindRunSwapRow.holds Try.pinned (OpenSpec.ofChange fnKindRunSwapSpec)

/-- ITS FALSE NEIGHBOUR: 'it returns false'. Refute it at one input. -/
def fnKindRunSwapWrong : ChangeSpec := { name := "fnKindRunSwap", fn := fun _ => fun
  | [d] => { results := [.lit (.bool false)], args := [d] }
  | _ => none }
def FnKindRunSwapWrongFalsely : Prop := fnKindRunSwapRow.holds Try.pinned (OpenSpec.ofChange fnKindRunSwapWrong)

/-- 'laws.FnKindRun': WHATEVER THE INPUT: true; the input reads as it did. -/
def fnKindRunSpec : ChangeSpec := { name := "fnKindRun", fn := fun _ => fun
  | [d] => { results := [.lit (.bool true)], args := [d] }
  | _ => none }
def fnKindRunRow : OpenClaim := { program := "ytpcakoaepmeakaa", sum := "1cd2d9d5862c63f6092f08f79e9715f871f5af90a35732a066bd4813a647317b", func := "loop.example/workplans/laws.FnKindRun", spec := "fnKindRun", unfollowed := true, recurses := true, apart := false }
def FnKindRunSaid : Prop := fnKindRunRow.holds Try.pinned (OpenSpec.ofChange fnKindRunSpec)

/-- ITS FALSE NEIGHBOUR: 'it returns false'. Refute it at one input. -/
def fnKindRunWrong : ChangeSpec := { name := "fnKindRun", fn := fun _ => fun
  | [d] => { results := [.lit (.bool false)], args := [d] }
  | _ => none }
def FnKindRunWrongFalsely : Prop := fnKindRunRow.holds Try.pinned (OpenSpec.ofChange fnKindRunWrong)

/-- 'laws.FnExactKindRun': WHATEVER THE INPUT: true; the input reads as it did. -/
def fnExactKindRunSpec : ChangeSpec := { name := "fnExactKindRun", fn := fun _ => fun
  | [d1, d2] => { results := [.lit (.bool true)], args := [d1, d2] }
  | _ => none }
def fnExactKindRunRow : OpenClaim := { program := "ytpcakoaepmeakaa", sum := "1cd2d9d5862c63f6092f08f79e9715f871f5af90a35732a066bd4813a647317b", func := "loop.example/workplans/laws.FnExactKindRun", spec := "fnExactKindRun", unfollowed := true, recurses := true, apart := false }
def FnExactKindRunSaid : Prop := fnExactKindRunRow.holds Try.pinned (OpenSpec.ofChange fnExactKindRunSpec)

/-- ITS FALSE NEIGHBOUR: 'it returns false'. Refute it at one input. -/
def fnExactKindRunWrong : ChangeSpec := { name := "fnExactKindRun", fn := fun _ => fun
  | [d1, d2] => { results := [.lit (.bool false)], args := [d1, d2] }
  | _ => none }
def FnExactKindRunWrongFalsely : Prop := fnExactKindRunRow.holds Try.pinned (OpenSpec.ofChange fnExactKindRunWrong)

/-- 'laws.FnExactPlanValid': WHATEVER THE INPUT: true; the input reads as it did. -/
def fnExactPlanValidSpec : ChangeSpec := { name := "fnExactPlanValid", fn := fun _ => fun
  | [d] => { results := [.lit (.bool true)], args := [d] }
  | _ => none }
def fnExactPlanValidRow : OpenClaim := { program := "ytpcakoaepmeakaa", sum := "1cd2d9d5862c63f6092f08f79e9715f871f5af90a35732a066bd4813a647317b", func := "loop.example/workplans/laws.FnExactPlanValid", spec := "fnExactPlanValid", unfollowed := true, recurses := true, apart := false }
def FnExactPlanValidSaid : Prop := fnExactPlanValidRow.holds Try.pinned (OpenSpec.ofChange fnExactPlanValidSpec)

/-- ITS FALSE NEIGHBOUR: 'it returns false'. Refute it at one input. -/
def fnExactPlanValidWrong : ChangeSpec := { name := "fnExactPlanValid", fn := fun _ => fun
  | [d] => { results := [.lit (.bool false)], args := [d] }
  | _ => none }
def FnExactPlanValidWrongFalsely : Prop := fnExactPlanValidRow.holds Try.pinned (OpenSpec.ofChange fnExactPlanValidWrong)

/-- 'laws.FnPlanNodes': WHATEVER THE INPUT: true; the input reads as it did. -/
def fnPlanNodesSpec : ChangeSpec := { name := "fnPlanNodes", fn := fun _ => fun
  | [d] => { results := [.lit (.bool true)], args := [d] }
  | _ => none }
def fnPlanNodesRow : OpenClaim := { program := "ytpcakoaepmeakaa", sum := "1cd2d9d5862c63f6092f08f79e9715f871f5af90a35732a066bd4813a647317b", func := "loop.example/workplans/laws.FnPlanNodes", spec := "fnPlanNodes", unfollowed := true, recurses := true, apart := false }
def FnPlanNodesSaid : Prop := fnPlanNodesRow.holds Try.pinned (OpenSpec.ofChange fnPlanNodesSpec)

/-- ITS FALSE NEIGHBOUR: 'it returns false'. Refute it at one input. -/
def fnPlanNodesWrong : ChangeSpec := { name := "fnPlanNodes", fn := fun _ => fun
  | [d] => { results := [.lit (.bool false)], args := [d] }
  | _ => none }
def FnPlanNodesWrongFalsely : Prop := fnPlanNodesRow.holds Try.pinned (OpenSpec.ofChange fnPlanNodesWrong)

/-- 'laws.FnPlanPart': WHATEVER THE INPUT: true; the input reads as it did. -/
def fnPlanPartSpec : ChangeSpec := { name := "fnPlanPart", fn := fun _ => fun
  | [d1, d2] => { results := [.lit (.bool true)], args := [d1, d2] }
  | _ => none }
def fnPlanPartRow : OpenClaim := { program := "ytpcakoaepmeakaa", sum := "1cd2d9d5862c63f6092f08f79e9715f871f5af90a35732a066bd4813a647317b", func := "loop.example/workplans/laws.FnPlanPart", spec := "fnPlanPart", unfollowed := true, recurses := true, apart := false }
def FnPlanPartSaid : Prop := fnPlanPartRow.holds Try.pinned (OpenSpec.ofChange fnPlanPartSpec)

/-- ITS FALSE NEIGHBOUR: 'it returns false'. Refute it at one input. -/
def fnPlanPartWrong : ChangeSpec := { name := "fnPlanPart", fn := fun _ => fun
  | [d1, d2] => { results := [.lit (.bool false)], args := [d1, d2] }
  | _ => none }
def FnPlanPartWrongFalsely : Prop := fnPlanPartRow.holds Try.pinned (OpenSpec.ofChange fnPlanPartWrong)

/-- 'laws.FnExactPlanUses': WHATEVER THE INPUT: true; the input reads as it did. -/
def fnExactPlanUsesSpec : ChangeSpec := { name := "fnExactPlanUses", fn := fun _ => fun
  | [d1, d2] => { results := [.lit (.bool true)], args := [d1, d2] }
  | _ => none }
def fnExactPlanUsesRow : OpenClaim := { program := "ytpcakoaepmeakaa", sum := "1cd2d9d5862c63f6092f08f79e9715f871f5af90a35732a066bd4813a647317b", func := "loop.example/workplans/laws.FnExactPlanUses", spec := "fnExactPlanUses", unfollowed := true, recurses := true, apart := false }
def FnExactPlanUsesSaid : Prop := fnExactPlanUsesRow.holds Try.pinned (OpenSpec.ofChange fnExactPlanUsesSpec)

/-- ITS FALSE NEIGHBOUR: 'it returns false'. Refute it at one input. -/
def fnExactPlanUsesWrong : ChangeSpec := { name := "fnExactPlanUses", fn := fun _ => fun
  | [d1, d2] => { results := [.lit (.bool false)], args := [d1, d2] }
  | _ => none }
def FnExactPlanUsesWrongFalsely : Prop := fnExactPlanUsesRow.holds Try.pinned (OpenSpec.ofChange fnExactPlanUsesWrong)

/-- 'laws.FnUses': WHATEVER THE INPUT: true; the input reads as it did. -/
def fnUsesSpec : ChangeSpec := { name := "fnUses", fn := fun _ => fun
  | [d] => { results := [.lit (.bool true)], args := [d] }
  | _ => none }
def fnUsesRow : OpenClaim := { program := "ytpcakoaepmeakaa", sum := "1cd2d9d5862c63f6092f08f79e9715f871f5af90a35732a066bd4813a647317b", func := "loop.example/workplans/laws.FnUses", spec := "fnUses", unfollowed := true, recurses := true, apart := false }
def FnUsesSaid : Prop := fnUsesRow.holds Try.pinned (OpenSpec.ofChange fnUsesSpec)

/-- ITS FALSE NEIGHBOUR: 'it returns false'. Refute it at one input. -/
def fnUsesWrong : ChangeSpec := { name := "fnUses", fn := fun _ => fun
  | [d] => { results := [.lit (.bool false)], args := [d] }
  | _ => none }
def FnUsesWrongFalsely : Prop := fnUsesRow.holds Try.pinned (OpenSpec.ofChange fnUsesWrong)

/-- 'laws.FnExactPlanEnds': WHATEVER THE INPUT: true; the input reads as it did. -/
def fnExactPlanEndsSpec : ChangeSpec := { name := "fnExactPlanEnds", fn := fun _ => fun
  | [d] => { results := [.lit (.bool true)], args := [d] }
  | _ => none }
def fnExactPlanEndsRow : OpenClaim := { program := "ytpcakoaepmeakaa", sum := "1cd2d9d5862c63f6092f08f79e9715f871f5af90a35732a066bd4813a647317b", func := "loop.example/workplans/laws.FnExactPlanEnds", spec := "fnExactPlanEnds", unfollowed := true, recurses := true, apart := false }
def FnExactPlanEndsSaid : Prop := fnExactPlanEndsRow.holds Try.pinned (OpenSpec.ofChange fnExactPlanEndsSpec)

/-- ITS FALSE NEIGHBOUR: 'it returns false'. Refute it at one input. -/
def fnExactPlanEndsWrong : ChangeSpec := { name := "fnExactPlanEnds", fn := fun _ => fun
  | [d] => { results := [.lit (.bool false)], args := [d] }
  | _ => none }
def FnExactPlanEndsWrongFalsely : Prop := fnExactPlanEndsRow.holds Try.pinned (OpenSpec.ofChange fnExactPlanEndsWrong)

/-- 'laws.FnEnds': WHATEVER THE INPUT: true; the input reads as it did. -/
def fnEndsSpec : ChangeSpec := { name := "fnEnds", fn := fun _ => fun
  | [d] => { results := [.lit (.bool true)], args := [d] }
  | _ => none }
def fnEndsRow : OpenClaim := { program := "ytpcakoaepmeakaa", sum := "1cd2d9d5862c63f6092f08f79e9715f871f5af90a35732a066bd4813a647317b", func := "loop.example/workplans/laws.FnEnds", spec := "fnEnds", unfollowed := true, recurses := true, apart := false }
def FnEndsSaid : Prop := fnEndsRow.holds Try.pinned (OpenSpec.ofChange fnEndsSpec)

/-- ITS FALSE NEIGHBOUR: 'it returns false'. Refute it at one input. -/
def fnEndsWrong : ChangeSpec := { name := "fnEnds", fn := fun _ => fun
  | [d] => { results := [.lit (.bool false)], args := [d] }
  | _ => none }
def FnEndsWrongFalsely : Prop := fnEndsRow.holds Try.pinned (OpenSpec.ofChange fnEndsWrong)

/-- 'laws.FnExactPlanNeeds': WHATEVER THE INPUT: true; the input reads as it did. -/
def fnExactPlanNeedsSpec : ChangeSpec := { name := "fnExactPlanNeeds", fn := fun _ => fun
  | [d1, d2] => { results := [.lit (.bool true)], args := [d1, d2] }
  | _ => none }
def fnExactPlanNeedsRow : OpenClaim := { program := "ytpcakoaepmeakaa", sum := "1cd2d9d5862c63f6092f08f79e9715f871f5af90a35732a066bd4813a647317b", func := "loop.example/workplans/laws.FnExactPlanNeeds", spec := "fnExactPlanNeeds", unfollowed := true, recurses := true, apart := false }
def FnExactPlanNeedsSaid : Prop := fnExactPlanNeedsRow.holds Try.pinned (OpenSpec.ofChange fnExactPlanNeedsSpec)

/-- ITS FALSE NEIGHBOUR: 'it returns false'. Refute it at one input. -/
def fnExactPlanNeedsWrong : ChangeSpec := { name := "fnExactPlanNeeds", fn := fun _ => fun
  | [d1, d2] => { results := [.lit (.bool false)], args := [d1, d2] }
  | _ => none }
def FnExactPlanNeedsWrongFalsely : Prop := fnExactPlanNeedsRow.holds Try.pinned (OpenSpec.ofChange fnExactPlanNeedsWrong)

/-- 'laws.FnExactPlanAdd': WHATEVER THE INPUT: true; the input reads as it did. -/
def fnExactPlanAddSpec : ChangeSpec := { name := "fnExactPlanAdd", fn := fun _ => fun
  | [d1, d2] => { results := [.lit (.bool true)], args := [d1, d2] }
  | _ => none }
def fnExactPlanAddRow : OpenClaim := { program := "ytpcakoaepmeakaa", sum := "1cd2d9d5862c63f6092f08f79e9715f871f5af90a35732a066bd4813a647317b", func := "loop.example/workplans/laws.FnExactPlanAdd", spec := "fnExactPlanAdd", unfollowed := true, recurses := true, apart := false }
def FnExactPlanAddSaid : Prop := fnExactPlanAddRow.holds Try.pinned (OpenSpec.ofChange fnExactPlanAddSpec)

/-- ITS FALSE NEIGHBOUR: 'it returns false'. Refute it at one input. -/
def fnExactPlanAddWrong : ChangeSpec := { name := "fnExactPlanAdd", fn := fun _ => fun
  | [d1, d2] => { results := [.lit (.bool false)], args := [d1, d2] }
  | _ => none }
def FnExactPlanAddWrongFalsely : Prop := fnExactPlanAddRow.holds Try.pinned (OpenSpec.ofChange fnExactPlanAddWrong)

/- THE SECOND FORM. 'bulk': how many values and letters a reading holds, each counted each time it is reached (what is shared counts as often as it is met; a slice's spare places count too). A statement '..UptoSaid' is the law's where the arguments, and the package variables that the reading takes, are together of bulk at most 1048576: NARROWER than '..Said'. Prove '..Said' where nothing that the law and all that it calls make is longer than what came in: it says more and counts as full. Else prove '..UptoSaid'. A law counts once. -/
mutual
def uptoBulk {H : Type} : DataW H → Nat
  | .lit (.string bytes) => bytes.length + 1
  | .lit _ => 1
  | .nil => 1
  | .ptr d => uptoBulk d + 1
  | .slice elems spare => uptoBulkAll elems + uptoBulkAll spare + 1
  | .agg parts => uptoBulkAll parts + 1
  | .iface _ d => uptoBulk d + 1
  | .map entries => uptoBulkEntries entries + 1
  | .held _ => 1
def uptoBulkAll {H : Type} : List (DataW H) → Nat
  | [] => 0
  | d :: r => uptoBulk d + uptoBulkAll r
def uptoBulkEntries {H : Type} : List (Lit × DataW H) → Nat
  | [] => 0
  | x :: r => uptoBulkEntry x + uptoBulkEntries r
def uptoBulkEntry {H : Type} : Lit × DataW H → Nat
  | (.string bytes, d) => bytes.length + uptoBulk d + 1
  | (_, d) => uptoBulk d + 1
 end
def uptoSmall : (H : Type) → List (DataW H) → Bool := fun _ ds => decide (uptoBulkAll ds ≤ 1048576)
def OpenSpec.upto (s : _root_.Go.ChangeSpec) : _root_.Go.OpenSpec := { _root_.Go.OpenSpec.ofChange s with cond := some uptoSmall }

/-- 'laws.FnKindRunSwap', WHERE WHAT IT READS IS OF BULK AT MOST 1048576: true; the input reads as it did. -/
def fnKindRunSwapUptoRow : OpenClaim := { program := "ytpcakoaepmeakaa", sum := "1cd2d9d5862c63f6092f08f79e9715f871f5af90a35732a066bd4813a647317b", func := "loop.example/workplans/laws.FnKindRunSwap", spec := "fnKindRunSwap", unfollowed := true, recurses := true, apart := false, narrowed := true }
def FnKindRunSwapUptoSaid : Prop := fnKindRunSwapUptoRow.holds Try.pinned (OpenSpec.upto fnKindRunSwapSpec)

/-- 'laws.FnKindRun', WHERE WHAT IT READS IS OF BULK AT MOST 1048576: true; the input reads as it did. -/
def fnKindRunUptoRow : OpenClaim := { program := "ytpcakoaepmeakaa", sum := "1cd2d9d5862c63f6092f08f79e9715f871f5af90a35732a066bd4813a647317b", func := "loop.example/workplans/laws.FnKindRun", spec := "fnKindRun", unfollowed := true, recurses := true, apart := false, narrowed := true }
def FnKindRunUptoSaid : Prop := fnKindRunUptoRow.holds Try.pinned (OpenSpec.upto fnKindRunSpec)

/-- 'laws.FnExactKindRun', WHERE WHAT IT READS IS OF BULK AT MOST 1048576: true; the input reads as it did. -/
def fnExactKindRunUptoRow : OpenClaim := { program := "ytpcakoaepmeakaa", sum := "1cd2d9d5862c63f6092f08f79e9715f871f5af90a35732a066bd4813a647317b", func := "loop.example/workplans/laws.FnExactKindRun", spec := "fnExactKindRun", unfollowed := true, recurses := true, apart := false, narrowed := true }
def FnExactKindRunUptoSaid : Prop := fnExactKindRunUptoRow.holds Try.pinned (OpenSpec.upto fnExactKindRunSpec)

/-- 'laws.FnExactPlanValid', WHERE WHAT IT READS IS OF BULK AT MOST 1048576: true; the input reads as it did. -/
def fnExactPlanValidUptoRow : OpenClaim := { program := "ytpcakoaepmeakaa", sum := "1cd2d9d5862c63f6092f08f79e9715f871f5af90a35732a066bd4813a647317b", func := "loop.example/workplans/laws.FnExactPlanValid", spec := "fnExactPlanValid", unfollowed := true, recurses := true, apart := false, narrowed := true }
def FnExactPlanValidUptoSaid : Prop := fnExactPlanValidUptoRow.holds Try.pinned (OpenSpec.upto fnExactPlanValidSpec)

/-- 'laws.FnPlanNodes', WHERE WHAT IT READS IS OF BULK AT MOST 1048576: true; the input reads as it did. -/
def fnPlanNodesUptoRow : OpenClaim := { program := "ytpcakoaepmeakaa", sum := "1cd2d9d5862c63f6092f08f79e9715f871f5af90a35732a066bd4813a647317b", func := "loop.example/workplans/laws.FnPlanNodes", spec := "fnPlanNodes", unfollowed := true, recurses := true, apart := false, narrowed := true }
def FnPlanNodesUptoSaid : Prop := fnPlanNodesUptoRow.holds Try.pinned (OpenSpec.upto fnPlanNodesSpec)

/-- 'laws.FnPlanPart', WHERE WHAT IT READS IS OF BULK AT MOST 1048576: true; the input reads as it did. -/
def fnPlanPartUptoRow : OpenClaim := { program := "ytpcakoaepmeakaa", sum := "1cd2d9d5862c63f6092f08f79e9715f871f5af90a35732a066bd4813a647317b", func := "loop.example/workplans/laws.FnPlanPart", spec := "fnPlanPart", unfollowed := true, recurses := true, apart := false, narrowed := true }
def FnPlanPartUptoSaid : Prop := fnPlanPartUptoRow.holds Try.pinned (OpenSpec.upto fnPlanPartSpec)

/-- 'laws.FnExactPlanUses', WHERE WHAT IT READS IS OF BULK AT MOST 1048576: true; the input reads as it did. -/
def fnExactPlanUsesUptoRow : OpenClaim := { program := "ytpcakoaepmeakaa", sum := "1cd2d9d5862c63f6092f08f79e9715f871f5af90a35732a066bd4813a647317b", func := "loop.example/workplans/laws.FnExactPlanUses", spec := "fnExactPlanUses", unfollowed := true, recurses := true, apart := false, narrowed := true }
def FnExactPlanUsesUptoSaid : Prop := fnExactPlanUsesUptoRow.holds Try.pinned (OpenSpec.upto fnExactPlanUsesSpec)

/-- 'laws.FnUses', WHERE WHAT IT READS IS OF BULK AT MOST 1048576: true; the input reads as it did. -/
def fnUsesUptoRow : OpenClaim := { program := "ytpcakoaepmeakaa", sum := "1cd2d9d5862c63f6092f08f79e9715f871f5af90a35732a066bd4813a647317b", func := "loop.example/workplans/laws.FnUses", spec := "fnUses", unfollowed := true, recurses := true, apart := false, narrowed := true }
def FnUsesUptoSaid : Prop := fnUsesUptoRow.holds Try.pinned (OpenSpec.upto fnUsesSpec)

/-- 'laws.FnExactPlanEnds', WHERE WHAT IT READS IS OF BULK AT MOST 1048576: true; the input reads as it did. -/
def fnExactPlanEndsUptoRow : OpenClaim := { program := "ytpcakoaepmeakaa", sum := "1cd2d9d5862c63f6092f08f79e9715f871f5af90a35732a066bd4813a647317b", func := "loop.example/workplans/laws.FnExactPlanEnds", spec := "fnExactPlanEnds", unfollowed := true, recurses := true, apart := false, narrowed := true }
def FnExactPlanEndsUptoSaid : Prop := fnExactPlanEndsUptoRow.holds Try.pinned (OpenSpec.upto fnExactPlanEndsSpec)

/-- 'laws.FnEnds', WHERE WHAT IT READS IS OF BULK AT MOST 1048576: true; the input reads as it did. -/
def fnEndsUptoRow : OpenClaim := { program := "ytpcakoaepmeakaa", sum := "1cd2d9d5862c63f6092f08f79e9715f871f5af90a35732a066bd4813a647317b", func := "loop.example/workplans/laws.FnEnds", spec := "fnEnds", unfollowed := true, recurses := true, apart := false, narrowed := true }
def FnEndsUptoSaid : Prop := fnEndsUptoRow.holds Try.pinned (OpenSpec.upto fnEndsSpec)

/-- 'laws.FnExactPlanNeeds', WHERE WHAT IT READS IS OF BULK AT MOST 1048576: true; the input reads as it did. -/
def fnExactPlanNeedsUptoRow : OpenClaim := { program := "ytpcakoaepmeakaa", sum := "1cd2d9d5862c63f6092f08f79e9715f871f5af90a35732a066bd4813a647317b", func := "loop.example/workplans/laws.FnExactPlanNeeds", spec := "fnExactPlanNeeds", unfollowed := true, recurses := true, apart := false, narrowed := true }
def FnExactPlanNeedsUptoSaid : Prop := fnExactPlanNeedsUptoRow.holds Try.pinned (OpenSpec.upto fnExactPlanNeedsSpec)

/-- 'laws.FnExactPlanAdd', WHERE WHAT IT READS IS OF BULK AT MOST 1048576: true; the input reads as it did. -/
def fnExactPlanAddUptoRow : OpenClaim := { program := "ytpcakoaepmeakaa", sum := "1cd2d9d5862c63f6092f08f79e9715f871f5af90a35732a066bd4813a647317b", func := "loop.example/workplans/laws.FnExactPlanAdd", spec := "fnExactPlanAdd", unfollowed := true, recurses := true, apart := false, narrowed := true }
def FnExactPlanAddUptoSaid : Prop := fnExactPlanAddUptoRow.holds Try.pinned (OpenSpec.upto fnExactPlanAddSpec)

end Rows
end Go.Proofs.Ytpcakoaepmeakaa
