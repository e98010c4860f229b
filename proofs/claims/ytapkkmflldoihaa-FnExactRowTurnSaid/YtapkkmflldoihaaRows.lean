/-
  No cell of these rows narrows 'for every input' (looked for: loops, veiled, ifaces, maps, wideKeys, modest, calm, conditions, laid).
  DERIVED. THE GIVEN ROWS OF THIS SEAT. 6 by the template 'for every input the law returns true; each argument reads behind the call as it read before'; 0 by the template 'total and deterministic' (their statements: YtapkkmflldoihaaTotals.lean).
  GIVEN WITH THE SEED: the statements are not yours to turn. If you find one false, say at which input.
  Laid BY PROGRAM, IN A SANDBOX (cutbox-rows.mjs): the forced cells as the released guide's own fill.sh prints them over the translation 9c6e2bf6c24f0cc2… (all of the seat's roots in one cut). By AI agents, Wed Nov 11 2026. No macro, syntax, notation, axiom, sorry.
-/
import Derived.Test.YtapkkmflldoihaaChecked
import GoSem.Claim
import GoSem.ClaimJoined
import GoSem.ClaimMapViews
import Derived.JoinedTies
import Derived.KernelRfl
namespace Go.Proofs.Ytapkkmflldoihaa
/- THE CELL 'sum', in the pinned program and in every row, IS THE sha256 OF THE DUMP (.gsa) THAT YtapkkmflldoihaaProg.lean LOADS. Nothing in Lean hashes anything: it is a label: what it is worth is what the hold of that sum in a sandbox is worth. -/
noncomputable def Try.pinned : Pinned := { name := "ytapkkmflldoihaa", sum := "9c6e2bf6c24f0cc28476aa818c96c5af861df47b82992d9ab903d1159a4df939", checked := Try.checked }
namespace Rows
def none {H : Type} : Left H := { results := [], args := [] }

/-- 'laws.FnExactConstants': WHATEVER THE INPUT: true; the input reads as it did. -/
def fnExactConstantsSpec : ChangeSpec := { name := "fnExactConstants", fn := fun _ => fun
  | [] => { results := [.lit (.bool true)], args := [] }
  | _ => none }
def fnExactConstantsRow : OpenClaim := { program := "ytapkkmflldoihaa", sum := "9c6e2bf6c24f0cc28476aa818c96c5af861df47b82992d9ab903d1159a4df939", func := "loop.example/workplans/laws.FnExactConstants", spec := "fnExactConstants", apart := false }
def FnExactConstantsSaid : Prop := fnExactConstantsRow.holds Try.pinned (OpenSpec.ofChange fnExactConstantsSpec)

/-- ITS FALSE NEIGHBOUR: 'it returns false'. Refute it at one input. -/
def fnExactConstantsWrong : ChangeSpec := { name := "fnExactConstants", fn := fun _ => fun
  | [] => { results := [.lit (.bool false)], args := [] }
  | _ => none }
def FnExactConstantsWrongFalsely : Prop := fnExactConstantsRow.holds Try.pinned (OpenSpec.ofChange fnExactConstantsWrong)

/-- 'laws.FnExactRowValid': WHATEVER THE INPUT: true; the input reads as it did. -/
def fnExactRowValidSpec : ChangeSpec := { name := "fnExactRowValid", fn := fun _ => fun
  | [d] => { results := [.lit (.bool true)], args := [d] }
  | _ => none }
def fnExactRowValidRow : OpenClaim := { program := "ytapkkmflldoihaa", sum := "9c6e2bf6c24f0cc28476aa818c96c5af861df47b82992d9ab903d1159a4df939", func := "loop.example/workplans/laws.FnExactRowValid", spec := "fnExactRowValid", apart := false }
def FnExactRowValidSaid : Prop := fnExactRowValidRow.holds Try.pinned (OpenSpec.ofChange fnExactRowValidSpec)

/-- ITS FALSE NEIGHBOUR: 'it returns false'. Refute it at one input. -/
def fnExactRowValidWrong : ChangeSpec := { name := "fnExactRowValid", fn := fun _ => fun
  | [d] => { results := [.lit (.bool false)], args := [d] }
  | _ => none }
def FnExactRowValidWrongFalsely : Prop := fnExactRowValidRow.holds Try.pinned (OpenSpec.ofChange fnExactRowValidWrong)

/-- 'laws.FnRowPart': WHATEVER THE INPUT: true; the input reads as it did. -/
def fnRowPartSpec : ChangeSpec := { name := "fnRowPart", fn := fun _ => fun
  | [d] => { results := [.lit (.bool true)], args := [d] }
  | _ => none }
def fnRowPartRow : OpenClaim := { program := "ytapkkmflldoihaa", sum := "9c6e2bf6c24f0cc28476aa818c96c5af861df47b82992d9ab903d1159a4df939", func := "loop.example/workplans/laws.FnRowPart", spec := "fnRowPart", apart := false }
def FnRowPartSaid : Prop := fnRowPartRow.holds Try.pinned (OpenSpec.ofChange fnRowPartSpec)

/-- ITS FALSE NEIGHBOUR: 'it returns false'. Refute it at one input. -/
def fnRowPartWrong : ChangeSpec := { name := "fnRowPart", fn := fun _ => fun
  | [d] => { results := [.lit (.bool false)], args := [d] }
  | _ => none }
def FnRowPartWrongFalsely : Prop := fnRowPartRow.holds Try.pinned (OpenSpec.ofChange fnRowPartWrong)

/-- 'laws.FnExactRowAdd': WHATEVER THE INPUT: true; the input reads as it did. -/
def fnExactRowAddSpec : ChangeSpec := { name := "fnExactRowAdd", fn := fun _ => fun
  | [d1, d2] => { results := [.lit (.bool true)], args := [d1, d2] }
  | _ => none }
def fnExactRowAddRow : OpenClaim := { program := "ytapkkmflldoihaa", sum := "9c6e2bf6c24f0cc28476aa818c96c5af861df47b82992d9ab903d1159a4df939", func := "loop.example/workplans/laws.FnExactRowAdd", spec := "fnExactRowAdd", unfollowed := true, recurses := true, apart := false }
def FnExactRowAddSaid : Prop := fnExactRowAddRow.holds Try.pinned (OpenSpec.ofChange fnExactRowAddSpec)

/-- ITS FALSE NEIGHBOUR: 'it returns false'. Refute it at one input. -/
def fnExactRowAddWrong : ChangeSpec := { name := "fnExactRowAdd", fn := fun _ => fun
  | [d1, d2] => { results := [.lit (.bool false)], args := [d1, d2] }
  | _ => none }
def FnExactRowAddWrongFalsely : Prop := fnExactRowAddRow.holds Try.pinned (OpenSpec.ofChange fnExactRowAddWrong)

/-- 'laws.FnExactRowTimes': WHATEVER THE INPUT: true; the input reads as it did. -/
def fnExactRowTimesSpec : ChangeSpec := { name := "fnExactRowTimes", fn := fun _ => fun
  | [d1, d2] => { results := [.lit (.bool true)], args := [d1, d2] }
  | _ => none }
def fnExactRowTimesRow : OpenClaim := { program := "ytapkkmflldoihaa", sum := "9c6e2bf6c24f0cc28476aa818c96c5af861df47b82992d9ab903d1159a4df939", func := "loop.example/workplans/laws.FnExactRowTimes", spec := "fnExactRowTimes", unfollowed := true, recurses := true, apart := false }
def FnExactRowTimesSaid : Prop := fnExactRowTimesRow.holds Try.pinned (OpenSpec.ofChange fnExactRowTimesSpec)

/-- ITS FALSE NEIGHBOUR: 'it returns false'. Refute it at one input. -/
def fnExactRowTimesWrong : ChangeSpec := { name := "fnExactRowTimes", fn := fun _ => fun
  | [d1, d2] => { results := [.lit (.bool false)], args := [d1, d2] }
  | _ => none }
def FnExactRowTimesWrongFalsely : Prop := fnExactRowTimesRow.holds Try.pinned (OpenSpec.ofChange fnExactRowTimesWrong)

/-- 'laws.FnExactRowTurn': WHATEVER THE INPUT: true; the input reads as it did. -/
def fnExactRowTurnSpec : ChangeSpec := { name := "fnExactRowTurn", fn := fun _ => fun
  | [d] => { results := [.lit (.bool true)], args := [d] }
  | _ => none }
def fnExactRowTurnRow : OpenClaim := { program := "ytapkkmflldoihaa", sum := "9c6e2bf6c24f0cc28476aa818c96c5af861df47b82992d9ab903d1159a4df939", func := "loop.example/workplans/laws.FnExactRowTurn", spec := "fnExactRowTurn", apart := false }
def FnExactRowTurnSaid : Prop := fnExactRowTurnRow.holds Try.pinned (OpenSpec.ofChange fnExactRowTurnSpec)

/-- ITS FALSE NEIGHBOUR: 'it returns false'. Refute it at one input. -/
def fnExactRowTurnWrong : ChangeSpec := { name := "fnExactRowTurn", fn := fun _ => fun
  | [d] => { results := [.lit (.bool false)], args := [d] }
  | _ => none }
def FnExactRowTurnWrongFalsely : Prop := fnExactRowTurnRow.holds Try.pinned (OpenSpec.ofChange fnExactRowTurnWrong)

/- THE SECOND FORM. 'bulk': how many values and letters a reading holds, each counted each time it is reached (what is shared counts as often as it is met; a slice's spare places count too). A statement '..UptoSaid' is the law's where the arguments, and the package variables that the reading takes, are together of bulk at most 1048576: NARROWER than '..Said'. Prove '..Said' where nothing that the law and all that it calls make is longer than what came in: it says more and counts as full. Else prove '..UptoSaid'. A law counts once. -/
mutual
def uptoBulk {H : Type} : DataW H → Nat
  | .lit (.string bytes) => bytes.length + 1
  | .lit _ => 1
  | .nil => 1
  | .ptr d => uptoBulk d + 1
  | .slice elems spare => uptoBulkAll elems + uptoBulkAll spare + 1
  | .agg parts => uptoBulkAll parts + 1
  | .iface _ d => uptoBulk d + 1
  | .map entries => uptoBulkEntries entries + 1
  | .held _ => 1
def uptoBulkAll {H : Type} : List (DataW H) → Nat
  | [] => 0
  | d :: r => uptoBulk d + uptoBulkAll r
def uptoBulkEntries {H : Type} : List (Lit × DataW H) → Nat
  | [] => 0
  | x :: r => uptoBulkEntry x + uptoBulkEntries r
def uptoBulkEntry {H : Type} : Lit × DataW H → Nat
  | (.string bytes, d) => bytes.length + uptoBulk d + 1
  | (_, d) => uptoBulk d + 1
 end
def uptoSmall : (H : Type) → List (DataW H) → Bool := fun _ ds => decide (uptoBulkAll ds ≤ 1048576)
def OpenSpec.upto (s : _root_.Go.ChangeSpec) : _root_.Go.OpenSpec := { _root_.Go.OpenSpec.ofChange s with cond := some uptoSmall }

/-- 'laws.FnExactConstants', WHERE WHAT IT READS IS OF BULK AT MOST 1048576: true; the input reads as it did. -/
def fnExactConstantsUptoRow : OpenClaim := { program := "ytapkkmflldoihaa", sum := "9c6e2bf6c24f0cc28476aa818c96c5af861df47b82992d9ab903d1159a4df939", func := "loop.example/workplans/laws.FnExactConstants", spec := "fnExactConstants", apart := false, narrowed := true }
def FnExactConstantsUptoSaid : Prop := fnExactConstantsUptoRow.holds Try.pinned (OpenSpec.upto fnExactConstantsSpec)

/-- 'laws.FnExactRowValid', WHERE WHAT IT READS IS OF BULK AT MOST 1048576: true; the input reads as it did. -/
def fnExactRowValidUptoRow : OpenClaim := { program := "ytapkkmflldoihaa", sum := "9c6e2bf6c24f0cc28476aa818c96c5af861df47b82992d9ab903d1159a4df939", func := "loop.example/workplans/laws.FnExactRowValid", spec := "fnExactRowValid", apart := false, narrowed := true }
def FnExactRowValidUptoSaid : Prop := fnExactRowValidUptoRow.holds Try.pinned (OpenSpec.upto fnExactRowValidSpec)

/-- 'laws.FnRowPart', WHERE WHAT IT READS IS OF BULK AT MOST 1048576: true; the input reads as it did. -/
def fnRowPartUptoRow : OpenClaim := { program := "ytapkkmflldoihaa", sum := "9c6e2bf6c24f0cc28476aa818c96c5af861df47b82992d9ab903d1159a4df939", func := "loop.example/workplans/laws.FnRowPart", spec := "fnRowPart", apart := false, narrowed := true }
def FnRowPartUptoSaid : Prop := fnRowPartUptoRow.holds Try.pinned (OpenSpec.upto fnRowPartSpec)

/-- 'laws.FnExactRowAdd', WHERE WHAT IT READS IS OF BULK AT MOST 1048576: true; the input reads as it did. -/
def fnExactRowAddUptoRow : OpenClaim := { program := "ytapkkmflldoihaa", sum := "9c6e2bf6c24f0cc28476aa818c96c5af861df47b82992d9ab903d1159a4df939", func := "loop.example/workplans/laws.FnExactRowAdd", spec := "fnExactRowAdd", unfollowed := true, recurses := true, apart := false, narrowed := true }
def FnExactRowAddUptoSaid : Prop := fnExactRowAddUptoRow.holds Try.pinned (OpenSpec.upto fnExactRowAddSpec)

/-- 'laws.FnExactRowTimes', WHERE WHAT IT READS IS OF BULK AT MOST 1048576: true; the input reads as it did. -/
def fnExactRowTimesUptoRow : OpenClaim := { program := "ytapkkmflldoihaa", sum := "9c6e2bf6c24f0cc28476aa818c96c5af861df47b82992d9ab903d1159a4df939", func := "loop.example/workplans/laws.FnExactRowTimes", spec := "fnExactRowTimes", unfollowed := true, recurses := true, apart := false, narrowed := true }
def FnExactRowTimesUptoSaid : Prop := fnExactRowTimesUptoRow.holds Try.pinned (OpenSpec.upto fnExactRowTimesSpec)

/-- 'laws.FnExactRowTurn', WHERE WHAT IT READS IS OF BULK AT MOST 1048576: true; the input reads as it did. -/
def fnExactRowTurnUptoRow : OpenClaim := { program := "ytapkkmflldoihaa", sum := "9c6e2bf6c24f0cc28476aa818c96c5af861df47b82992d9ab903d1159a4df939", func := "loop.example/workplans/laws.FnExactRowTurn", spec := "fnExactRowTurn", apart := false, narrowed := true }
def FnExactRowTurnUptoSaid : Prop := fnExactRowTurnUptoRow.holds Try.pinned (OpenSpec.upto fnExactRowTurnSpec)

end Rows
end Go.Proofs.Ytapkkmflldoihaa
