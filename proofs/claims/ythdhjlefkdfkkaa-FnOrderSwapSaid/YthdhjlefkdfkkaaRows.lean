/-
  No cell of these rows narrows 'for every input' (looked for: loops, veiled, ifaces, maps, wideKeys, modest, calm, conditions, laid).
  DERIVED. THE GIVEN ROWS OF THIS SEAT. 11 by the template 'for every input the law returns true; each argument reads behind the call as it read before'; 0 by the template 'total and deterministic' (their statements: YthdhjlefkdfkkaaTotals.lean).
  GIVEN WITH THE SEED: the statements are not yours to turn. If you find one false, say at which input.
  Laid BY PROGRAM, IN A SANDBOX (cutbox-rows.mjs): the forced cells as the released guide's own fill.sh prints them over the translation e55800b1efb9c870… (all of the seat's roots in one cut). By AI agents, Wed Nov 11 2026. No macro, syntax, notation, axiom, sorry.
-/
import Derived.Test.YthdhjlefkdfkkaaChecked
import GoSem.Claim
import GoSem.ClaimJoined
import GoSem.ClaimMapViews
import Derived.JoinedTies
import Derived.KernelRfl
namespace Go.Proofs.Ythdhjlefkdfkkaa
/- THE CELL 'sum', in the pinned program and in every row, IS THE sha256 OF THE DUMP (.gsa) THAT YthdhjlefkdfkkaaProg.lean LOADS. Nothing in Lean hashes anything: it is a label: what it is worth is what the hold of that sum in a sandbox is worth. -/
noncomputable def Try.pinned : Pinned := { name := "ythdhjlefkdfkkaa", sum := "e55800b1efb9c870d4c795e0a76a6ec39f279a2b7e3b32d9c8faf4cd0de5f0ac", checked := Try.checked }
namespace Rows
def none {H : Type} : Left H := { results := [], args := [] }

/-- 'laws.FnNeedsOrder': WHATEVER THE INPUT: true; the input reads as it did. -/
def fnNeedsOrderSpec : ChangeSpec := { name := "fnNeedsOrder", fn := fun _ => fun
  | [d] => { results := [.lit (.bool true)], args := [d] }
  | _ => none }
def fnNeedsOrderRow : OpenClaim := { program := "ythdhjlefkdfkkaa", sum := "e55800b1efb9c870d4c795e0a76a6ec39f279a2b7e3b32d9c8faf4cd0de5f0ac", func := "loop.example/workplans/laws.FnNeedsOrder", spec := "fnNeedsOrder", unfollowed := true, recurses := true, apart := false }
def FnNeedsOrderSaid : Prop := fnNeedsOrderRow.holds Try.pinned (OpenSpec.ofChange fnNeedsOrderSpec)

/-- ITS FALSE NEIGHBOUR: 'it returns false'. Refute it at one input. -/
def fnNeedsOrderWrong : ChangeSpec := { name := "fnNeedsOrder", fn := fun _ => fun
  | [d] => { results := [.lit (.bool false)], args := [d] }
  | _ => none }
def FnNeedsOrderWrongFalsely : Prop := fnNeedsOrderRow.holds Try.pinned (OpenSpec.ofChange fnNeedsOrderWrong)

/-- 'laws.FnNeeds': WHATEVER THE INPUT: true; the input reads as it did. -/
def fnNeedsSpec : ChangeSpec := { name := "fnNeeds", fn := fun _ => fun
  | [d] => { results := [.lit (.bool true)], args := [d] }
  | _ => none }
def fnNeedsRow : OpenClaim := { program := "ythdhjlefkdfkkaa", sum := "e55800b1efb9c870d4c795e0a76a6ec39f279a2b7e3b32d9c8faf4cd0de5f0ac", func := "loop.example/workplans/laws.FnNeeds", spec := "fnNeeds", unfollowed := true, recurses := true, apart := false }
def FnNeedsSaid : Prop := fnNeedsRow.holds Try.pinned (OpenSpec.ofChange fnNeedsSpec)

/-- ITS FALSE NEIGHBOUR: 'it returns false'. Refute it at one input. -/
def fnNeedsWrong : ChangeSpec := { name := "fnNeeds", fn := fun _ => fun
  | [d] => { results := [.lit (.bool false)], args := [d] }
  | _ => none }
def FnNeedsWrongFalsely : Prop := fnNeedsRow.holds Try.pinned (OpenSpec.ofChange fnNeedsWrong)

/-- 'laws.FnNeedsBy': WHATEVER THE INPUT: true; the input reads as it did. -/
def fnNeedsBySpec : ChangeSpec := { name := "fnNeedsBy", fn := fun _ => fun
  | [d] => { results := [.lit (.bool true)], args := [d] }
  | _ => none }
def fnNeedsByRow : OpenClaim := { program := "ythdhjlefkdfkkaa", sum := "e55800b1efb9c870d4c795e0a76a6ec39f279a2b7e3b32d9c8faf4cd0de5f0ac", func := "loop.example/workplans/laws.FnNeedsBy", spec := "fnNeedsBy", unfollowed := true, recurses := true, apart := false }
def FnNeedsBySaid : Prop := fnNeedsByRow.holds Try.pinned (OpenSpec.ofChange fnNeedsBySpec)

/-- ITS FALSE NEIGHBOUR: 'it returns false'. Refute it at one input. -/
def fnNeedsByWrong : ChangeSpec := { name := "fnNeedsBy", fn := fun _ => fun
  | [d] => { results := [.lit (.bool false)], args := [d] }
  | _ => none }
def FnNeedsByWrongFalsely : Prop := fnNeedsByRow.holds Try.pinned (OpenSpec.ofChange fnNeedsByWrong)

/-- 'laws.FnNeedsUses': WHATEVER THE INPUT: true; the input reads as it did. -/
def fnNeedsUsesSpec : ChangeSpec := { name := "fnNeedsUses", fn := fun _ => fun
  | [d] => { results := [.lit (.bool true)], args := [d] }
  | _ => none }
def fnNeedsUsesRow : OpenClaim := { program := "ythdhjlefkdfkkaa", sum := "e55800b1efb9c870d4c795e0a76a6ec39f279a2b7e3b32d9c8faf4cd0de5f0ac", func := "loop.example/workplans/laws.FnNeedsUses", spec := "fnNeedsUses", unfollowed := true, recurses := true, apart := false }
def FnNeedsUsesSaid : Prop := fnNeedsUsesRow.holds Try.pinned (OpenSpec.ofChange fnNeedsUsesSpec)

/-- ITS FALSE NEIGHBOUR: 'it returns false'. Refute it at one input. -/
def fnNeedsUsesWrong : ChangeSpec := { name := "fnNeedsUses", fn := fun _ => fun
  | [d] => { results := [.lit (.bool false)], args := [d] }
  | _ => none }
def FnNeedsUsesWrongFalsely : Prop := fnNeedsUsesRow.holds Try.pinned (OpenSpec.ofChange fnNeedsUsesWrong)

/-- 'laws.FnPlanAdd': WHATEVER THE INPUT: true; the input reads as it did. -/
def fnPlanAddSpec : ChangeSpec := { name := "fnPlanAdd", fn := fun _ => fun
  | [d] => { results := [.lit (.bool true)], args := [d] }
  | _ => none }
def fnPlanAddRow : OpenClaim := { program := "ythdhjlefkdfkkaa", sum := "e55800b1efb9c870d4c795e0a76a6ec39f279a2b7e3b32d9c8faf4cd0de5f0ac", func := "loop.example/workplans/laws.FnPlanAdd", spec := "fnPlanAdd", unfollowed := true, recurses := true, apart := false }
def FnPlanAddSaid : Prop := fnPlanAddRow.holds Try.pinned (OpenSpec.ofChange fnPlanAddSpec)

/-- ITS FALSE NEIGHBOUR: 'it returns false'. Refute it at one input. -/
def fnPlanAddWrong : ChangeSpec := { name := "fnPlanAdd", fn := fun _ => fun
  | [d] => { results := [.lit (.bool false)], args := [d] }
  | _ => none }
def FnPlanAddWrongFalsely : Prop := fnPlanAddRow.holds Try.pinned (OpenSpec.ofChange fnPlanAddWrong)

/-- 'laws.FnPlanAddUses': WHATEVER THE INPUT: true; the input reads as it did. -/
def fnPlanAddUsesSpec : ChangeSpec := { name := "fnPlanAddUses", fn := fun _ => fun
  | [d] => { results := [.lit (.bool true)], args := [d] }
  | _ => none }
def fnPlanAddUsesRow : OpenClaim := { program := "ythdhjlefkdfkkaa", sum := "e55800b1efb9c870d4c795e0a76a6ec39f279a2b7e3b32d9c8faf4cd0de5f0ac", func := "loop.example/workplans/laws.FnPlanAddUses", spec := "fnPlanAddUses", unfollowed := true, recurses := true, apart := false }
def FnPlanAddUsesSaid : Prop := fnPlanAddUsesRow.holds Try.pinned (OpenSpec.ofChange fnPlanAddUsesSpec)

/-- ITS FALSE NEIGHBOUR: 'it returns false'. Refute it at one input. -/
def fnPlanAddUsesWrong : ChangeSpec := { name := "fnPlanAddUses", fn := fun _ => fun
  | [d] => { results := [.lit (.bool false)], args := [d] }
  | _ => none }
def FnPlanAddUsesWrongFalsely : Prop := fnPlanAddUsesRow.holds Try.pinned (OpenSpec.ofChange fnPlanAddUsesWrong)

/-- 'laws.FnOrderNumbers': WHATEVER THE INPUT: true; the input reads as it did. -/
def fnOrderNumbersSpec : ChangeSpec := { name := "fnOrderNumbers", fn := fun _ => fun
  | [d] => { results := [.lit (.bool true)], args := [d] }
  | _ => none }
def fnOrderNumbersRow : OpenClaim := { program := "ythdhjlefkdfkkaa", sum := "e55800b1efb9c870d4c795e0a76a6ec39f279a2b7e3b32d9c8faf4cd0de5f0ac", func := "loop.example/workplans/laws.FnOrderNumbers", spec := "fnOrderNumbers", unfollowed := true, recurses := true, apart := false }
def FnOrderNumbersSaid : Prop := fnOrderNumbersRow.holds Try.pinned (OpenSpec.ofChange fnOrderNumbersSpec)

/-- ITS FALSE NEIGHBOUR: 'it returns false'. Refute it at one input. -/
def fnOrderNumbersWrong : ChangeSpec := { name := "fnOrderNumbers", fn := fun _ => fun
  | [d] => { results := [.lit (.bool false)], args := [d] }
  | _ => none }
def FnOrderNumbersWrongFalsely : Prop := fnOrderNumbersRow.holds Try.pinned (OpenSpec.ofChange fnOrderNumbersWrong)

/-- 'laws.FnExactOrderFits': WHATEVER THE INPUT: true; the input reads as it did. -/
def fnExactOrderFitsSpec : ChangeSpec := { name := "fnExactOrderFits", fn := fun _ => fun
  | [d1, d2] => { results := [.lit (.bool true)], args := [d1, d2] }
  | _ => none }
def fnExactOrderFitsRow : OpenClaim := { program := "ythdhjlefkdfkkaa", sum := "e55800b1efb9c870d4c795e0a76a6ec39f279a2b7e3b32d9c8faf4cd0de5f0ac", func := "loop.example/workplans/laws.FnExactOrderFits", spec := "fnExactOrderFits", unfollowed := true, recurses := true, apart := false }
def FnExactOrderFitsSaid : Prop := fnExactOrderFitsRow.holds Try.pinned (OpenSpec.ofChange fnExactOrderFitsSpec)

/-- ITS FALSE NEIGHBOUR: 'it returns false'. Refute it at one input. -/
def fnExactOrderFitsWrong : ChangeSpec := { name := "fnExactOrderFits", fn := fun _ => fun
  | [d1, d2] => { results := [.lit (.bool false)], args := [d1, d2] }
  | _ => none }
def FnExactOrderFitsWrongFalsely : Prop := fnExactOrderFitsRow.holds Try.pinned (OpenSpec.ofChange fnExactOrderFitsWrong)

/-- 'laws.FnOrderSwap': WHATEVER THE INPUT: true; the input reads as it did. -/
def fnOrderSwapSpec : ChangeSpec := { name := "fnOrderSwap", fn := fun _ => fun
  | [d1, d2] => { results := [.lit (.bool true)], args := [d1, d2] }
  | _ => none }
def fnOrderSwapRow : OpenClaim := { program := "ythdhjlefkdfkkaa", sum := "e55800b1efb9c870d4c795e0a76a6ec39f279a2b7e3b32d9c8faf4cd0de5f0ac", func := "loop.example/workplans/laws.FnOrderSwap", spec := "fnOrderSwap", unfollowed := true, recurses := true, apart := false }
def FnOrderSwapSaid : Prop := fnOrderSwapRow.holds Try.pinned (OpenSpec.ofChange fnOrderSwapSpec)

/-- ITS FALSE NEIGHBOUR: 'it returns false'. Refute it at one input. -/
def fnOrderSwapWrong : ChangeSpec := { name := "fnOrderSwap", fn := fun _ => fun
  | [d1, d2] => { results := [.lit (.bool false)], args := [d1, d2] }
  | _ => none }
def FnOrderSwapWrongFalsely : Prop := fnOrderSwapRow.holds Try.pinned (OpenSpec.ofChange fnOrderSwapWrong)

/-- 'laws.FnReady': WHATEVER THE INPUT: true; the input reads as it did. -/
def fnReadySpec : ChangeSpec := { name := "fnReady", fn := fun _ => fun
  | [d] => { results := [.lit (.bool true)], args := [d] }
  | _ => none }
def fnReadyRow : OpenClaim := { program := "ythdhjlefkdfkkaa", sum := "e55800b1efb9c870d4c795e0a76a6ec39f279a2b7e3b32d9c8faf4cd0de5f0ac", func := "loop.example/workplans/laws.FnReady", spec := "fnReady", unfollowed := true, recurses := true, apart := false }
def FnReadySaid : Prop := fnReadyRow.holds Try.pinned (OpenSpec.ofChange fnReadySpec)

/-- ITS FALSE NEIGHBOUR: 'it returns false'. Refute it at one input. -/
def fnReadyWrong : ChangeSpec := { name := "fnReady", fn := fun _ => fun
  | [d] => { results := [.lit (.bool false)], args := [d] }
  | _ => none }
def FnReadyWrongFalsely : Prop := fnReadyRow.holds Try.pinned (OpenSpec.ofChange fnReadyWrong)

/-- 'laws.FnReadyOne': WHATEVER THE INPUT: true; the input reads as it did. -/
def fnReadyOneSpec : ChangeSpec := { name := "fnReadyOne", fn := fun _ => fun
  | [d] => { results := [.lit (.bool true)], args := [d] }
  | _ => none }
def fnReadyOneRow : OpenClaim := { program := "ythdhjlefkdfkkaa", sum := "e55800b1efb9c870d4c795e0a76a6ec39f279a2b7e3b32d9c8faf4cd0de5f0ac", func := "loop.example/workplans/laws.FnReadyOne", spec := "fnReadyOne", unfollowed := true, recurses := true, apart := false }
def FnReadyOneSaid : Prop := fnReadyOneRow.holds Try.pinned (OpenSpec.ofChange fnReadyOneSpec)

/-- ITS FALSE NEIGHBOUR: 'it returns false'. Refute it at one input. -/
def fnReadyOneWrong : ChangeSpec := { name := "fnReadyOne", fn := fun _ => fun
  | [d] => { results := [.lit (.bool false)], args := [d] }
  | _ => none }
def FnReadyOneWrongFalsely : Prop := fnReadyOneRow.holds Try.pinned (OpenSpec.ofChange fnReadyOneWrong)

/- THE SECOND FORM. 'bulk': how many values and letters a reading holds, each counted each time it is reached (what is shared counts as often as it is met; a slice's spare places count too). A statement '..UptoSaid' is the law's where the arguments, and the package variables that the reading takes, are together of bulk at most 1048576: NARROWER than '..Said'. Prove '..Said' where nothing that the law and all that it calls make is longer than what came in: it says more and counts as full. Else prove '..UptoSaid'. A law counts once. -/
mutual
def uptoBulk {H : Type} : DataW H → Nat
  | .lit (.string bytes) => bytes.length + 1
  | .lit _ => 1
  | .nil => 1
  | .ptr d => uptoBulk d + 1
  | .slice elems spare => uptoBulkAll elems + uptoBulkAll spare + 1
  | .agg parts => uptoBulkAll parts + 1
  | .iface _ d => uptoBulk d + 1
  | .map entries => uptoBulkEntries entries + 1
  | .held _ => 1
def uptoBulkAll {H : Type} : List (DataW H) → Nat
  | [] => 0
  | d :: r => uptoBulk d + uptoBulkAll r
def uptoBulkEntries {H : Type} : List (Lit × DataW H) → Nat
  | [] => 0
  | x :: r => uptoBulkEntry x + uptoBulkEntries r
def uptoBulkEntry {H : Type} : Lit × DataW H → Nat
  | (.string bytes, d) => bytes.length + uptoBulk d + 1
  | (_, d) => uptoBulk d + 1
 end
def uptoSmall : (H : Type) → List (DataW H) → Bool := fun _ ds => decide (uptoBulkAll ds ≤ 1048576)
def OpenSpec.upto (s : _root_.Go.ChangeSpec) : _root_.Go.OpenSpec := { _root_.Go.OpenSpec.ofChange s with cond := some uptoSmall }

/-- 'laws.FnNeedsOrder', WHERE WHAT IT READS IS OF BULK AT MOST 1048576: true; the input reads as it did. -/
def fnNeedsOrderUptoRow : OpenClaim := { program := "ythdhjlefkdfkkaa", sum := "e55800b1efb9c870d4c795e0a76a6ec39f279a2b7e3b32d9c8faf4cd0de5f0ac", func := "loop.example/workplans/laws.FnNeedsOrder", spec := "fnNeedsOrder", unfollowed := true, recurses := true, apart := false, narrowed := true }
def FnNeedsOrderUptoSaid : Prop := fnNeedsOrderUptoRow.holds Try.pinned (OpenSpec.upto fnNeedsOrderSpec)

/-- 'laws.FnNeeds', WHERE WHAT IT READS IS OF BULK AT MOST 1048576: true; the input reads as it did. -/
def fnNeedsUptoRow : OpenClaim := { program := "ythdhjlefkdfkkaa", sum := "e55800b1efb9c870d4c795e0a76a6ec39f279a2b7e3b32d9c8faf4cd0de5f0ac", func := "loop.example/workplans/laws.FnNeeds", spec := "fnNeeds", unfollowed := true, recurses := true, apart := false, narrowed := true }
def FnNeedsUptoSaid : Prop := fnNeedsUptoRow.holds Try.pinned (OpenSpec.upto fnNeedsSpec)

/-- 'laws.FnNeedsBy', WHERE WHAT IT READS IS OF BULK AT MOST 1048576: true; the input reads as it did. -/
def fnNeedsByUptoRow : OpenClaim := { program := "ythdhjlefkdfkkaa", sum := "e55800b1efb9c870d4c795e0a76a6ec39f279a2b7e3b32d9c8faf4cd0de5f0ac", func := "loop.example/workplans/laws.FnNeedsBy", spec := "fnNeedsBy", unfollowed := true, recurses := true, apart := false, narrowed := true }
def FnNeedsByUptoSaid : Prop := fnNeedsByUptoRow.holds Try.pinned (OpenSpec.upto fnNeedsBySpec)

/-- 'laws.FnNeedsUses', WHERE WHAT IT READS IS OF BULK AT MOST 1048576: true; the input reads as it did. -/
def fnNeedsUsesUptoRow : OpenClaim := { program := "ythdhjlefkdfkkaa", sum := "e55800b1efb9c870d4c795e0a76a6ec39f279a2b7e3b32d9c8faf4cd0de5f0ac", func := "loop.example/workplans/laws.FnNeedsUses", spec := "fnNeedsUses", unfollowed := true, recurses := true, apart := false, narrowed := true }
def FnNeedsUsesUptoSaid : Prop := fnNeedsUsesUptoRow.holds Try.pinned (OpenSpec.upto fnNeedsUsesSpec)

/-- 'laws.FnPlanAdd', WHERE WHAT IT READS IS OF BULK AT MOST 1048576: true; the input reads as it did. -/
def fnPlanAddUptoRow : OpenClaim := { program := "ythdhjlefkdfkkaa", sum := "e55800b1efb9c870d4c795e0a76a6ec39f279a2b7e3b32d9c8faf4cd0de5f0ac", func := "loop.example/workplans/laws.FnPlanAdd", spec := "fnPlanAdd", unfollowed := true, recurses := true, apart := false, narrowed := true }
def FnPlanAddUptoSaid : Prop := fnPlanAddUptoRow.holds Try.pinned (OpenSpec.upto fnPlanAddSpec)

/-- 'laws.FnPlanAddUses', WHERE WHAT IT READS IS OF BULK AT MOST 1048576: true; the input reads as it did. -/
def fnPlanAddUsesUptoRow : OpenClaim := { program := "ythdhjlefkdfkkaa", sum := "e55800b1efb9c870d4c795e0a76a6ec39f279a2b7e3b32d9c8faf4cd0de5f0ac", func := "loop.example/workplans/laws.FnPlanAddUses", spec := "fnPlanAddUses", unfollowed := true, recurses := true, apart := false, narrowed := true }
def FnPlanAddUsesUptoSaid : Prop := fnPlanAddUsesUptoRow.holds Try.pinned (OpenSpec.upto fnPlanAddUsesSpec)

/-- 'laws.FnOrderNumbers', WHERE WHAT IT READS IS OF BULK AT MOST 1048576: true; the input reads as it did. -/
def fnOrderNumbersUptoRow : OpenClaim := { program := "ythdhjlefkdfkkaa", sum := "e55800b1efb9c870d4c795e0a76a6ec39f279a2b7e3b32d9c8faf4cd0de5f0ac", func := "loop.example/workplans/laws.FnOrderNumbers", spec := "fnOrderNumbers", unfollowed := true, recurses := true, apart := false, narrowed := true }
def FnOrderNumbersUptoSaid : Prop := fnOrderNumbersUptoRow.holds Try.pinned (OpenSpec.upto fnOrderNumbersSpec)

/-- 'laws.FnExactOrderFits', WHERE WHAT IT READS IS OF BULK AT MOST 1048576: true; the input reads as it did. -/
def fnExactOrderFitsUptoRow : OpenClaim := { program := "ythdhjlefkdfkkaa", sum := "e55800b1efb9c870d4c795e0a76a6ec39f279a2b7e3b32d9c8faf4cd0de5f0ac", func := "loop.example/workplans/laws.FnExactOrderFits", spec := "fnExactOrderFits", unfollowed := true, recurses := true, apart := false, narrowed := true }
def FnExactOrderFitsUptoSaid : Prop := fnExactOrderFitsUptoRow.holds Try.pinned (OpenSpec.upto fnExactOrderFitsSpec)

/-- 'laws.FnOrderSwap', WHERE WHAT IT READS IS OF BULK AT MOST 1048576: true; the input reads as it did. -/
def fnOrderSwapUptoRow : OpenClaim := { program := "ythdhjlefkdfkkaa", sum := "e55800b1efb9c870d4c795e0a76a6ec39f279a2b7e3b32d9c8faf4cd0de5f0ac", func := "loop.example/workplans/laws.FnOrderSwap", spec := "fnOrderSwap", unfollowed := true, recurses := true, apart := false, narrowed := true }
def FnOrderSwapUptoSaid : Prop := fnOrderSwapUptoRow.holds Try.pinned (OpenSpec.upto fnOrderSwapSpec)

/-- 'laws.FnReady', WHERE WHAT IT READS IS OF BULK AT MOST 1048576: true; the input reads as it did. -/
def fnReadyUptoRow : OpenClaim := { program := "ythdhjlefkdfkkaa", sum := "e55800b1efb9c870d4c795e0a76a6ec39f279a2b7e3b32d9c8faf4cd0de5f0ac", func := "loop.example/workplans/laws.FnReady", spec := "fnReady", unfollowed := true, recurses := true, apart := false, narrowed := true }
def FnReadyUptoSaid : Prop := fnReadyUptoRow.holds Try.pinned (OpenSpec.upto fnReadySpec)

/-- 'laws.FnReadyOne', WHERE WHAT IT READS IS OF BULK AT MOST 1048576: true; the input reads as it did. -/
def fnReadyOneUptoRow : OpenClaim := { program := "ythdhjlefkdfkkaa", sum := "e55800b1efb9c870d4c795e0a76a6ec39f279a2b7e3b32d9c8faf4cd0de5f0ac", func := "loop.example/workplans/laws.FnReadyOne", spec := "fnReadyOne", unfollowed := true, recurses := true, apart := false, narrowed := true }
def FnReadyOneUptoSaid : Prop := fnReadyOneUptoRow.holds Try.pinned (OpenSpec.upto fnReadyOneSpec)

end Rows
end Go.Proofs.Ythdhjlefkdfkkaa
