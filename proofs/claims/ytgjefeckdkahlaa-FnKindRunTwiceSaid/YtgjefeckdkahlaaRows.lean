/-
  No cell of these rows narrows 'for every input' (looked for: loops, veiled, ifaces, maps, wideKeys, modest, calm, conditions, laid).
  DERIVED. THE GIVEN ROWS OF THIS SEAT. 12 by the template 'for every input the law returns true; each argument reads behind the call as it read before'; 0 by the template 'total and deterministic' (their statements: YtgjefeckdkahlaaTotals.lean).
  GIVEN WITH THE SEED: the statements are not yours to turn. If you find one false, say at which input.
  Laid BY PROGRAM, IN A SANDBOX (cutbox-rows.mjs): the forced cells as the released guide's own fill.sh prints them over the translation f4a9d67165503ccc… (all of the seat's roots in one cut). By AI agents, Wed Nov 11 2026. No macro, syntax, notation, axiom, sorry.
-/
import Derived.Test.YtgjefeckdkahlaaChecked
import GoSem.Claim
import GoSem.ClaimJoined
import GoSem.ClaimMapViews
import Derived.JoinedTies
import Derived.KernelRfl
namespace Go.Proofs.Ytgjefeckdkahlaa
/- THE CELL 'sum', in the pinned program and in every row, IS THE sha256 OF THE DUMP (.gsa) THAT YtgjefeckdkahlaaProg.lean LOADS. Nothing in Lean hashes anything: it is a label: what it is worth is what the hold of that sum in a sandbox is worth. -/
noncomputable def Try.pinned : Pinned := { name := "ytgjefeckdkahlaa", sum := "f4a9d67165503ccc70dd80a09a047da3378f71f3bda657bdc04222ecb660084e", checked := Try.checked }
namespace Rows
def none {H : Type} : Left H := { results := [], args := [] }

/-- 'laws.FnExactRowSort': WHATEVER THE INPUT: true; the input reads as it did. -/
def fnExactRowSortSpec : ChangeSpec := { name := "fnExactRowSort", fn := fun _ => fun
  | [d] => { results := [.lit (.bool true)], args := [d] }
  | _ => none }
def fnExactRowSortRow : OpenClaim := { program := "ytgjefeckdkahlaa", sum := "f4a9d67165503ccc70dd80a09a047da3378f71f3bda657bdc04222ecb660084e", func := "loop.example/workplans/laws.FnExactRowSort", spec := "fnExactRowSort", recurses := true, apart := false }
def FnExactRowSortSaid : Prop := fnExactRowSortRow.holds Try.pinned (OpenSpec.ofChange fnExactRowSortSpec)

/-- ITS FALSE NEIGHBOUR: 'it returns false'. Refute it at one input. -/
def fnExactRowSortWrong : ChangeSpec := { name := "fnExactRowSort", fn := fun _ => fun
  | [d] => { results := [.lit (.bool false)], args := [d] }
  | _ => none }
def FnExactRowSortWrongFalsely : Prop := fnExactRowSortRow.holds Try.pinned (OpenSpec.ofChange fnExactRowSortWrong)

/-- 'laws.FnSort': WHATEVER THE INPUT: true; the input reads as it did. -/
def fnSortSpec : ChangeSpec := { name := "fnSort", fn := fun _ => fun
  | [d] => { results := [.lit (.bool true)], args := [d] }
  | _ => none }
def fnSortRow : OpenClaim := { program := "ytgjefeckdkahlaa", sum := "f4a9d67165503ccc70dd80a09a047da3378f71f3bda657bdc04222ecb660084e", func := "loop.example/workplans/laws.FnSort", spec := "fnSort", recurses := true, apart := false }
def FnSortSaid : Prop := fnSortRow.holds Try.pinned (OpenSpec.ofChange fnSortSpec)

/-- ITS FALSE NEIGHBOUR: 'it returns false'. Refute it at one input. -/
def fnSortWrong : ChangeSpec := { name := "fnSort", fn := fun _ => fun
  | [d] => { results := [.lit (.bool false)], args := [d] }
  | _ => none }
def FnSortWrongFalsely : Prop := fnSortRow.holds Try.pinned (OpenSpec.ofChange fnSortWrong)

/-- 'laws.FnSortTwice': WHATEVER THE INPUT: true; the input reads as it did. -/
def fnSortTwiceSpec : ChangeSpec := { name := "fnSortTwice", fn := fun _ => fun
  | [d] => { results := [.lit (.bool true)], args := [d] }
  | _ => none }
def fnSortTwiceRow : OpenClaim := { program := "ytgjefeckdkahlaa", sum := "f4a9d67165503ccc70dd80a09a047da3378f71f3bda657bdc04222ecb660084e", func := "loop.example/workplans/laws.FnSortTwice", spec := "fnSortTwice", recurses := true, apart := false }
def FnSortTwiceSaid : Prop := fnSortTwiceRow.holds Try.pinned (OpenSpec.ofChange fnSortTwiceSpec)

/-- ITS FALSE NEIGHBOUR: 'it returns false'. Refute it at one input. -/
def fnSortTwiceWrong : ChangeSpec := { name := "fnSortTwice", fn := fun _ => fun
  | [d] => { results := [.lit (.bool false)], args := [d] }
  | _ => none }
def FnSortTwiceWrongFalsely : Prop := fnSortTwiceRow.holds Try.pinned (OpenSpec.ofChange fnSortTwiceWrong)

/-- 'laws.FnExactKindValid': WHATEVER THE INPUT: true; the input reads as it did. -/
def fnExactKindValidSpec : ChangeSpec := { name := "fnExactKindValid", fn := fun _ => fun
  | [d] => { results := [.lit (.bool true)], args := [d] }
  | _ => none }
def fnExactKindValidRow : OpenClaim := { program := "ytgjefeckdkahlaa", sum := "f4a9d67165503ccc70dd80a09a047da3378f71f3bda657bdc04222ecb660084e", func := "loop.example/workplans/laws.FnExactKindValid", spec := "fnExactKindValid", unfollowed := true, recurses := true, apart := false }
def FnExactKindValidSaid : Prop := fnExactKindValidRow.holds Try.pinned (OpenSpec.ofChange fnExactKindValidSpec)

/-- ITS FALSE NEIGHBOUR: 'it returns false'. Refute it at one input. -/
def fnExactKindValidWrong : ChangeSpec := { name := "fnExactKindValid", fn := fun _ => fun
  | [d] => { results := [.lit (.bool false)], args := [d] }
  | _ => none }
def FnExactKindValidWrongFalsely : Prop := fnExactKindValidRow.holds Try.pinned (OpenSpec.ofChange fnExactKindValidWrong)

/-- 'laws.FnExactKindSwaps': WHATEVER THE INPUT: true; the input reads as it did. -/
def fnExactKindSwapsSpec : ChangeSpec := { name := "fnExactKindSwaps", fn := fun _ => fun
  | [d] => { results := [.lit (.bool true)], args := [d] }
  | _ => none }
def fnExactKindSwapsRow : OpenClaim := { program := "ytgjefeckdkahlaa", sum := "f4a9d67165503ccc70dd80a09a047da3378f71f3bda657bdc04222ecb660084e", func := "loop.example/workplans/laws.FnExactKindSwaps", spec := "fnExactKindSwaps", unfollowed := true, recurses := true, apart := false }
def FnExactKindSwapsSaid : Prop := fnExactKindSwapsRow.holds Try.pinned (OpenSpec.ofChange fnExactKindSwapsSpec)

/-- ITS FALSE NEIGHBOUR: 'it returns false'. Refute it at one input. -/
def fnExactKindSwapsWrong : ChangeSpec := { name := "fnExactKindSwaps", fn := fun _ => fun
  | [d] => { results := [.lit (.bool false)], args := [d] }
  | _ => none }
def FnExactKindSwapsWrongFalsely : Prop := fnExactKindSwapsRow.holds Try.pinned (OpenSpec.ofChange fnExactKindSwapsWrong)

/-- 'laws.FnExactKindNeeds': WHATEVER THE INPUT: true; the input reads as it did. -/
def fnExactKindNeedsSpec : ChangeSpec := { name := "fnExactKindNeeds", fn := fun _ => fun
  | [d] => { results := [.lit (.bool true)], args := [d] }
  | _ => none }
def fnExactKindNeedsRow : OpenClaim := { program := "ytgjefeckdkahlaa", sum := "f4a9d67165503ccc70dd80a09a047da3378f71f3bda657bdc04222ecb660084e", func := "loop.example/workplans/laws.FnExactKindNeeds", spec := "fnExactKindNeeds", unfollowed := true, recurses := true, apart := false }
def FnExactKindNeedsSaid : Prop := fnExactKindNeedsRow.holds Try.pinned (OpenSpec.ofChange fnExactKindNeedsSpec)

/-- ITS FALSE NEIGHBOUR: 'it returns false'. Refute it at one input. -/
def fnExactKindNeedsWrong : ChangeSpec := { name := "fnExactKindNeeds", fn := fun _ => fun
  | [d] => { results := [.lit (.bool false)], args := [d] }
  | _ => none }
def FnExactKindNeedsWrongFalsely : Prop := fnExactKindNeedsRow.holds Try.pinned (OpenSpec.ofChange fnExactKindNeedsWrong)

/-- 'laws.FnKindPart': WHATEVER THE INPUT: true; the input reads as it did. -/
def fnKindPartSpec : ChangeSpec := { name := "fnKindPart", fn := fun _ => fun
  | [d] => { results := [.lit (.bool true)], args := [d] }
  | _ => none }
def fnKindPartRow : OpenClaim := { program := "ytgjefeckdkahlaa", sum := "f4a9d67165503ccc70dd80a09a047da3378f71f3bda657bdc04222ecb660084e", func := "loop.example/workplans/laws.FnKindPart", spec := "fnKindPart", unfollowed := true, recurses := true, apart := false }
def FnKindPartSaid : Prop := fnKindPartRow.holds Try.pinned (OpenSpec.ofChange fnKindPartSpec)

/-- ITS FALSE NEIGHBOUR: 'it returns false'. Refute it at one input. -/
def fnKindPartWrong : ChangeSpec := { name := "fnKindPart", fn := fun _ => fun
  | [d] => { results := [.lit (.bool false)], args := [d] }
  | _ => none }
def FnKindPartWrongFalsely : Prop := fnKindPartRow.holds Try.pinned (OpenSpec.ofChange fnKindPartWrong)

/-- 'laws.FnKindNeeds': WHATEVER THE INPUT: true; the input reads as it did. -/
def fnKindNeedsSpec : ChangeSpec := { name := "fnKindNeeds", fn := fun _ => fun
  | [d] => { results := [.lit (.bool true)], args := [d] }
  | _ => none }
def fnKindNeedsRow : OpenClaim := { program := "ytgjefeckdkahlaa", sum := "f4a9d67165503ccc70dd80a09a047da3378f71f3bda657bdc04222ecb660084e", func := "loop.example/workplans/laws.FnKindNeeds", spec := "fnKindNeeds", unfollowed := true, recurses := true, apart := false }
def FnKindNeedsSaid : Prop := fnKindNeedsRow.holds Try.pinned (OpenSpec.ofChange fnKindNeedsSpec)

/-- ITS FALSE NEIGHBOUR: 'it returns false'. Refute it at one input. -/
def fnKindNeedsWrong : ChangeSpec := { name := "fnKindNeeds", fn := fun _ => fun
  | [d] => { results := [.lit (.bool false)], args := [d] }
  | _ => none }
def FnKindNeedsWrongFalsely : Prop := fnKindNeedsRow.holds Try.pinned (OpenSpec.ofChange fnKindNeedsWrong)

/-- 'laws.FnKindSwaps': WHATEVER THE INPUT: true; the input reads as it did. -/
def fnKindSwapsSpec : ChangeSpec := { name := "fnKindSwaps", fn := fun _ => fun
  | [d] => { results := [.lit (.bool true)], args := [d] }
  | _ => none }
def fnKindSwapsRow : OpenClaim := { program := "ytgjefeckdkahlaa", sum := "f4a9d67165503ccc70dd80a09a047da3378f71f3bda657bdc04222ecb660084e", func := "loop.example/workplans/laws.FnKindSwaps", spec := "fnKindSwaps", unfollowed := true, recurses := true, apart := false }
def FnKindSwapsSaid : Prop := fnKindSwapsRow.holds Try.pinned (OpenSpec.ofChange fnKindSwapsSpec)

/-- ITS FALSE NEIGHBOUR: 'it returns false'. Refute it at one input. -/
def fnKindSwapsWrong : ChangeSpec := { name := "fnKindSwaps", fn := fun _ => fun
  | [d] => { results := [.lit (.bool false)], args := [d] }
  | _ => none }
def FnKindSwapsWrongFalsely : Prop := fnKindSwapsRow.holds Try.pinned (OpenSpec.ofChange fnKindSwapsWrong)

/-- 'laws.FnKindFixed': WHATEVER THE INPUT: true; the input reads as it did. -/
def fnKindFixedSpec : ChangeSpec := { name := "fnKindFixed", fn := fun _ => fun
  | [d] => { results := [.lit (.bool true)], args := [d] }
  | _ => none }
def fnKindFixedRow : OpenClaim := { program := "ytgjefeckdkahlaa", sum := "f4a9d67165503ccc70dd80a09a047da3378f71f3bda657bdc04222ecb660084e", func := "loop.example/workplans/laws.FnKindFixed", spec := "fnKindFixed", unfollowed := true, recurses := true, apart := false }
def FnKindFixedSaid : Prop := fnKindFixedRow.holds Try.pinned (OpenSpec.ofChange fnKindFixedSpec)

/-- ITS FALSE NEIGHBOUR: 'it returns false'. Refute it at one input. -/
def fnKindFixedWrong : ChangeSpec := { name := "fnKindFixed", fn := fun _ => fun
  | [d] => { results := [.lit (.bool false)], args := [d] }
  | _ => none }
def FnKindFixedWrongFalsely : Prop := fnKindFixedRow.holds Try.pinned (OpenSpec.ofChange fnKindFixedWrong)

/-- 'laws.FnKindRunSame': WHATEVER THE INPUT: true; the input reads as it did. -/
def fnKindRunSameSpec : ChangeSpec := { name := "fnKindRunSame", fn := fun _ => fun
  | [d] => { results := [.lit (.bool true)], args := [d] }
  | _ => none }
def fnKindRunSameRow : OpenClaim := { program := "ytgjefeckdkahlaa", sum := "f4a9d67165503ccc70dd80a09a047da3378f71f3bda657bdc04222ecb660084e", func := "loop.example/workplans/laws.FnKindRunSame", spec := "fnKindRunSame", unfollowed := true, recurses := true, apart := false }
def FnKindRunSameSaid : Prop := fnKindRunSameRow.holds Try.pinned (OpenSpec.ofChange fnKindRunSameSpec)

/-- ITS FALSE NEIGHBOUR: 'it returns false'. Refute it at one input. -/
def fnKindRunSameWrong : ChangeSpec := { name := "fnKindRunSame", fn := fun _ => fun
  | [d] => { results := [.lit (.bool false)], args := [d] }
  | _ => none }
def FnKindRunSameWrongFalsely : Prop := fnKindRunSameRow.holds Try.pinned (OpenSpec.ofChange fnKindRunSameWrong)

/-- 'laws.FnKindRunTwice': WHATEVER THE INPUT: true; the input reads as it did. -/
def fnKindRunTwiceSpec : ChangeSpec := { name := "fnKindRunTwice", fn := fun _ => fun
  | [d] => { results := [.lit (.bool true)], args := [d] }
  | _ => none }
def fnKindRunTwiceRow : OpenClaim := { program := "ytgjefeckdkahlaa", sum := "f4a9d67165503ccc70dd80a09a047da3378f71f3bda657bdc04222ecb660084e", func := "loop.example/workplans/laws.FnKindRunTwice", spec := "fnKindRunTwice", unfollowed := true, recurses := true, apart := false }
def FnKindRunTwiceSaid : Prop := fnKindRunTwiceRow.holds Try.pinned (OpenSpec.ofChange fnKindRunTwiceSpec)

/-- ITS FALSE NEIGHBOUR: 'it returns false'. Refute it at one input. -/
def fnKindRunTwiceWrong : ChangeSpec := { name := "fnKindRunTwice", fn := fun _ => fun
  | [d] => { results := [.lit (.bool false)], args := [d] }
  | _ => none }
def FnKindRunTwiceWrongFalsely : Prop := fnKindRunTwiceRow.holds Try.pinned (OpenSpec.ofChange fnKindRunTwiceWrong)

/- THE SECOND FORM. 'bulk': how many values and letters a reading holds, each counted each time it is reached (what is shared counts as often as it is met; a slice's spare places count too). A statement '..UptoSaid' is the law's where the arguments, and the package variables that the reading takes, are together of bulk at most 1048576: NARROWER than '..Said'. Prove '..Said' where nothing that the law and all that it calls make is longer than what came in: it says more and counts as full. Else prove '..UptoSaid'. A law counts once. -/
mutual
def uptoBulk {H : Type} : DataW H → Nat
  | .lit (.string bytes) => bytes.length + 1
  | .lit _ => 1
  | .nil => 1
  | .ptr d => uptoBulk d + 1
  | .slice elems spare => uptoBulkAll elems + uptoBulkAll spare + 1
  | .agg parts => uptoBulkAll parts + 1
  | .iface _ d => uptoBulk d + 1
  | .map entries => uptoBulkEntries entries + 1
  | .held _ => 1
def uptoBulkAll {H : Type} : List (DataW H) → Nat
  | [] => 0
  | d :: r => uptoBulk d + uptoBulkAll r
def uptoBulkEntries {H : Type} : List (Lit × DataW H) → Nat
  | [] => 0
  | x :: r => uptoBulkEntry x + uptoBulkEntries r
def uptoBulkEntry {H : Type} : Lit × DataW H → Nat
  | (.string bytes, d) => bytes.length + uptoBulk d + 1
  | (_, d) => uptoBulk d + 1
 end
def uptoSmall : (H : Type) → List (DataW H) → Bool := fun _ ds => decide (uptoBulkAll ds ≤ 1048576)
def OpenSpec.upto (s : _root_.Go.ChangeSpec) : _root_.Go.OpenSpec := { _root_.Go.OpenSpec.ofChange s with cond := some uptoSmall }

/-- 'laws.FnExactRowSort', WHERE WHAT IT READS IS OF BULK AT MOST 1048576: true; the input reads as it did. -/
def fnExactRowSortUptoRow : OpenClaim := { program := "ytgjefeckdkahlaa", sum := "f4a9d67165503ccc70dd80a09a047da3378f71f3bda657bdc04222ecb660084e", func := "loop.example/workplans/laws.FnExactRowSort", spec := "fnExactRowSort", recurses := true, apart := false, narrowed := true }
def FnExactRowSortUptoSaid : Prop := fnExactRowSortUptoRow.holds Try.pinned (OpenSpec.upto fnExactRowSortSpec)

/-- 'laws.FnSort', WHERE WHAT IT READS IS OF BULK AT MOST 1048576: true; the input reads as it did. -/
def fnSortUptoRow : OpenClaim := { program := "ytgjefeckdkahlaa", sum := "f4a9d67165503ccc70dd80a09a047da3378f71f3bda657bdc04222ecb660084e", func := "loop.example/workplans/laws.FnSort", spec := "fnSort", recurses := true, apart := false, narrowed := true }
def FnSortUptoSaid : Prop := fnSortUptoRow.holds Try.pinned (OpenSpec.upto fnSortSpec)

/-- 'laws.FnSortTwice', WHERE WHAT IT READS IS OF BULK AT MOST 1048576: true; the input reads as it did. -/
def fnSortTwiceUptoRow : OpenClaim := { program := "ytgjefeckdkahlaa", sum := "f4a9d67165503ccc70dd80a09a047da3378f71f3bda657bdc04222ecb660084e", func := "loop.example/workplans/laws.FnSortTwice", spec := "fnSortTwice", recurses := true, apart := false, narrowed := true }
def FnSortTwiceUptoSaid : Prop := fnSortTwiceUptoRow.holds Try.pinned (OpenSpec.upto fnSortTwiceSpec)

/-- 'laws.FnExactKindValid', WHERE WHAT IT READS IS OF BULK AT MOST 1048576: true; the input reads as it did. -/
def fnExactKindValidUptoRow : OpenClaim := { program := "ytgjefeckdkahlaa", sum := "f4a9d67165503ccc70dd80a09a047da3378f71f3bda657bdc04222ecb660084e", func := "loop.example/workplans/laws.FnExactKindValid", spec := "fnExactKindValid", unfollowed := true, recurses := true, apart := false, narrowed := true }
def FnExactKindValidUptoSaid : Prop := fnExactKindValidUptoRow.holds Try.pinned (OpenSpec.upto fnExactKindValidSpec)

/-- 'laws.FnExactKindSwaps', WHERE WHAT IT READS IS OF BULK AT MOST 1048576: true; the input reads as it did. -/
def fnExactKindSwapsUptoRow : OpenClaim := { program := "ytgjefeckdkahlaa", sum := "f4a9d67165503ccc70dd80a09a047da3378f71f3bda657bdc04222ecb660084e", func := "loop.example/workplans/laws.FnExactKindSwaps", spec := "fnExactKindSwaps", unfollowed := true, recurses := true, apart := false, narrowed := true }
def FnExactKindSwapsUptoSaid : Prop := fnExactKindSwapsUptoRow.holds Try.pinned (OpenSpec.upto fnExactKindSwapsSpec)

/-- 'laws.FnExactKindNeeds', WHERE WHAT IT READS IS OF BULK AT MOST 1048576: true; the input reads as it did. -/
def fnExactKindNeedsUptoRow : OpenClaim := { program := "ytgjefeckdkahlaa", sum := "f4a9d67165503ccc70dd80a09a047da3378f71f3bda657bdc04222ecb660084e", func := "loop.example/workplans/laws.FnExactKindNeeds", spec := "fnExactKindNeeds", unfollowed := true, recurses := true, apart := false, narrowed := true }
def FnExactKindNeedsUptoSaid : Prop := fnExactKindNeedsUptoRow.holds Try.pinned (OpenSpec.upto fnExactKindNeedsSpec)

/-- 'laws.FnKindPart', WHERE WHAT IT READS IS OF BULK AT MOST 1048576: true; the input reads as it did. -/
def fnKindPartUptoRow : OpenClaim := { program := "ytgjefeckdkahlaa", sum := "f4a9d67165503ccc70dd80a09a047da3378f71f3bda657bdc04222ecb660084e", func := "loop.example/workplans/laws.FnKindPart", spec := "fnKindPart", unfollowed := true, recurses := true, apart := false, narrowed := true }
def FnKindPartUptoSaid : Prop := fnKindPartUptoRow.holds Try.pinned (OpenSpec.upto fnKindPartSpec)

/-- 'laws.FnKindNeeds', WHERE WHAT IT READS IS OF BULK AT MOST 1048576: true; the input reads as it did. -/
def fnKindNeedsUptoRow : OpenClaim := { program := "ytgjefeckdkahlaa", sum := "f4a9d67165503ccc70dd80a09a047da3378f71f3bda657bdc04222ecb660084e", func := "loop.example/workplans/laws.FnKindNeeds", spec := "fnKindNeeds", unfollowed := true, recurses := true, apart := false, narrowed := true }
def FnKindNeedsUptoSaid : Prop := fnKindNeedsUptoRow.holds Try.pinned (OpenSpec.upto fnKindNeedsSpec)

/-- 'laws.FnKindSwaps', WHERE WHAT IT READS IS OF BULK AT MOST 1048576: true; the input reads as it did. -/
def fnKindSwapsUptoRow : OpenClaim := { program := "ytgjefeckdkahlaa", sum := "f4a9d67165503ccc70dd80a09a047da3378f71f3bda657bdc04222ecb660084e", func := "loop.example/workplans/laws.FnKindSwaps", spec := "fnKindSwaps", unfollowed := true, recurses := true, apart := false, narrowed := true }
def FnKindSwapsUptoSaid : Prop := fnKindSwapsUptoRow.holds Try.pinned (OpenSpec.upto fnKindSwapsSpec)

/-- 'laws.FnKindFixed', WHERE WHAT IT READS IS OF BULK AT MOST 1048576: true; the input reads as it did. -/
def fnKindFixedUptoRow : OpenClaim := { program := "ytgjefeckdkahlaa", sum := "f4a9d67165503ccc70dd80a09a047da3378f71f3bda657bdc04222ecb660084e", func := "loop.example/workplans/laws.FnKindFixed", spec := "fnKindFixed", unfollowed := true, recurses := true, apart := false, narrowed := true }
def FnKindFixedUptoSaid : Prop := fnKindFixedUptoRow.holds Try.pinned (OpenSpec.upto fnKindFixedSpec)

/-- 'laws.FnKindRunSame', WHERE WHAT IT READS IS OF BULK AT MOST 1048576: true; the input reads as it did. -/
def fnKindRunSameUptoRow : OpenClaim := { program := "ytgjefeckdkahlaa", sum := "f4a9d67165503ccc70dd80a09a047da3378f71f3bda657bdc04222ecb660084e", func := "loop.example/workplans/laws.FnKindRunSame", spec := "fnKindRunSame", unfollowed := true, recurses := true, apart := false, narrowed := true }
def FnKindRunSameUptoSaid : Prop := fnKindRunSameUptoRow.holds Try.pinned (OpenSpec.upto fnKindRunSameSpec)

/-- 'laws.FnKindRunTwice', WHERE WHAT IT READS IS OF BULK AT MOST 1048576: true; the input reads as it did. -/
def fnKindRunTwiceUptoRow : OpenClaim := { program := "ytgjefeckdkahlaa", sum := "f4a9d67165503ccc70dd80a09a047da3378f71f3bda657bdc04222ecb660084e", func := "loop.example/workplans/laws.FnKindRunTwice", spec := "fnKindRunTwice", unfollowed := true, recurses := true, apart := false, narrowed := true }
def FnKindRunTwiceUptoSaid : Prop := fnKindRunTwiceUptoRow.holds Try.pinned (OpenSpec.upto fnKindRunTwiceSpec)

end Rows
end Go.Proofs.Ytgjefeckdkahlaa
