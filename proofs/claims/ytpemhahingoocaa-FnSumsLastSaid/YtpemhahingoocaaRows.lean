/-
  No cell of these rows narrows 'for every input' (looked for: loops, veiled, ifaces, maps, wideKeys, modest, calm, conditions, laid).
  DERIVED. THE GIVEN ROWS OF THIS SEAT. 12 by the template 'for every input the law returns true; each argument reads behind the call as it read before'; 0 by the template 'total and deterministic' (their statements: YtpemhahingoocaaTotals.lean).
  GIVEN WITH THE SEED: the statements are not yours to turn. If you find one false, say at which input.
  Laid BY PROGRAM, IN A SANDBOX (cutbox-rows.mjs): the forced cells as the released guide's own fill.sh prints them over the translation ef98a29d9a95ee5d… (all of the seat's roots in one cut). By AI agents, Wed Nov 11 2026. No macro, syntax, notation, axiom, sorry.
-/
import Derived.Test.YtpemhahingoocaaChecked
import GoSem.Claim
import GoSem.ClaimJoined
import GoSem.ClaimMapViews
import Derived.JoinedTies
import Derived.KernelRfl
namespace Go.Proofs.Ytpemhahingoocaa
/- THE CELL 'sum', in the pinned program and in every row, IS THE sha256 OF THE DUMP (.gsa) THAT YtpemhahingoocaaProg.lean LOADS. Nothing in Lean hashes anything: it is a label: what it is worth is what the hold of that sum in a sandbox is worth. -/
noncomputable def Try.pinned : Pinned := { name := "ytpemhahingoocaa", sum := "ef98a29d9a95ee5d7095dff7548d74e713525e0d51ae64cc4dc1250e6cdd87b9", checked := Try.checked }
namespace Rows
def none {H : Type} : Left H := { results := [], args := [] }

/-- 'laws.FnExactRowSums': WHATEVER THE INPUT: true; the input reads as it did. -/
def fnExactRowSumsSpec : ChangeSpec := { name := "fnExactRowSums", fn := fun _ => fun
  | [d] => { results := [.lit (.bool true)], args := [d] }
  | _ => none }
def fnExactRowSumsRow : OpenClaim := { program := "ytpemhahingoocaa", sum := "ef98a29d9a95ee5d7095dff7548d74e713525e0d51ae64cc4dc1250e6cdd87b9", func := "loop.example/workplans/laws.FnExactRowSums", spec := "fnExactRowSums", apart := false }
def FnExactRowSumsSaid : Prop := fnExactRowSumsRow.holds Try.pinned (OpenSpec.ofChange fnExactRowSumsSpec)

/-- ITS FALSE NEIGHBOUR: 'it returns false'. Refute it at one input. -/
def fnExactRowSumsWrong : ChangeSpec := { name := "fnExactRowSums", fn := fun _ => fun
  | [d] => { results := [.lit (.bool false)], args := [d] }
  | _ => none }
def FnExactRowSumsWrongFalsely : Prop := fnExactRowSumsRow.holds Try.pinned (OpenSpec.ofChange fnExactRowSumsWrong)

/-- 'laws.FnTurn': WHATEVER THE INPUT: true; the input reads as it did. -/
def fnTurnSpec : ChangeSpec := { name := "fnTurn", fn := fun _ => fun
  | [d] => { results := [.lit (.bool true)], args := [d] }
  | _ => none }
def fnTurnRow : OpenClaim := { program := "ytpemhahingoocaa", sum := "ef98a29d9a95ee5d7095dff7548d74e713525e0d51ae64cc4dc1250e6cdd87b9", func := "loop.example/workplans/laws.FnTurn", spec := "fnTurn", apart := false }
def FnTurnSaid : Prop := fnTurnRow.holds Try.pinned (OpenSpec.ofChange fnTurnSpec)

/-- ITS FALSE NEIGHBOUR: 'it returns false'. Refute it at one input. -/
def fnTurnWrong : ChangeSpec := { name := "fnTurn", fn := fun _ => fun
  | [d] => { results := [.lit (.bool false)], args := [d] }
  | _ => none }
def FnTurnWrongFalsely : Prop := fnTurnRow.holds Try.pinned (OpenSpec.ofChange fnTurnWrong)

/-- 'laws.FnSums': WHATEVER THE INPUT: true; the input reads as it did. -/
def fnSumsSpec : ChangeSpec := { name := "fnSums", fn := fun _ => fun
  | [d] => { results := [.lit (.bool true)], args := [d] }
  | _ => none }
def fnSumsRow : OpenClaim := { program := "ytpemhahingoocaa", sum := "ef98a29d9a95ee5d7095dff7548d74e713525e0d51ae64cc4dc1250e6cdd87b9", func := "loop.example/workplans/laws.FnSums", spec := "fnSums", apart := false }
def FnSumsSaid : Prop := fnSumsRow.holds Try.pinned (OpenSpec.ofChange fnSumsSpec)

/-- ITS FALSE NEIGHBOUR: 'it returns false'. Refute it at one input. -/
def fnSumsWrong : ChangeSpec := { name := "fnSums", fn := fun _ => fun
  | [d] => { results := [.lit (.bool false)], args := [d] }
  | _ => none }
def FnSumsWrongFalsely : Prop := fnSumsRow.holds Try.pinned (OpenSpec.ofChange fnSumsWrong)

/-- 'laws.FnAddAdd': WHATEVER THE INPUT: true; the input reads as it did. -/
def fnAddAddSpec : ChangeSpec := { name := "fnAddAdd", fn := fun _ => fun
  | [d] => { results := [.lit (.bool true)], args := [d] }
  | _ => none }
def fnAddAddRow : OpenClaim := { program := "ytpemhahingoocaa", sum := "ef98a29d9a95ee5d7095dff7548d74e713525e0d51ae64cc4dc1250e6cdd87b9", func := "loop.example/workplans/laws.FnAddAdd", spec := "fnAddAdd", unfollowed := true, recurses := true, apart := false }
def FnAddAddSaid : Prop := fnAddAddRow.holds Try.pinned (OpenSpec.ofChange fnAddAddSpec)

/-- ITS FALSE NEIGHBOUR: 'it returns false'. Refute it at one input. -/
def fnAddAddWrong : ChangeSpec := { name := "fnAddAdd", fn := fun _ => fun
  | [d] => { results := [.lit (.bool false)], args := [d] }
  | _ => none }
def FnAddAddWrongFalsely : Prop := fnAddAddRow.holds Try.pinned (OpenSpec.ofChange fnAddAddWrong)

/-- 'laws.FnAddSwap': WHATEVER THE INPUT: true; the input reads as it did. -/
def fnAddSwapSpec : ChangeSpec := { name := "fnAddSwap", fn := fun _ => fun
  | [d] => { results := [.lit (.bool true)], args := [d] }
  | _ => none }
def fnAddSwapRow : OpenClaim := { program := "ytpemhahingoocaa", sum := "ef98a29d9a95ee5d7095dff7548d74e713525e0d51ae64cc4dc1250e6cdd87b9", func := "loop.example/workplans/laws.FnAddSwap", spec := "fnAddSwap", unfollowed := true, recurses := true, apart := false }
def FnAddSwapSaid : Prop := fnAddSwapRow.holds Try.pinned (OpenSpec.ofChange fnAddSwapSpec)

/-- ITS FALSE NEIGHBOUR: 'it returns false'. Refute it at one input. -/
def fnAddSwapWrong : ChangeSpec := { name := "fnAddSwap", fn := fun _ => fun
  | [d] => { results := [.lit (.bool false)], args := [d] }
  | _ => none }
def FnAddSwapWrongFalsely : Prop := fnAddSwapRow.holds Try.pinned (OpenSpec.ofChange fnAddSwapWrong)

/-- 'laws.FnAddZero': WHATEVER THE INPUT: true; the input reads as it did. -/
def fnAddZeroSpec : ChangeSpec := { name := "fnAddZero", fn := fun _ => fun
  | [d] => { results := [.lit (.bool true)], args := [d] }
  | _ => none }
def fnAddZeroRow : OpenClaim := { program := "ytpemhahingoocaa", sum := "ef98a29d9a95ee5d7095dff7548d74e713525e0d51ae64cc4dc1250e6cdd87b9", func := "loop.example/workplans/laws.FnAddZero", spec := "fnAddZero", unfollowed := true, recurses := true, apart := false }
def FnAddZeroSaid : Prop := fnAddZeroRow.holds Try.pinned (OpenSpec.ofChange fnAddZeroSpec)

/-- ITS FALSE NEIGHBOUR: 'it returns false'. Refute it at one input. -/
def fnAddZeroWrong : ChangeSpec := { name := "fnAddZero", fn := fun _ => fun
  | [d] => { results := [.lit (.bool false)], args := [d] }
  | _ => none }
def FnAddZeroWrongFalsely : Prop := fnAddZeroRow.holds Try.pinned (OpenSpec.ofChange fnAddZeroWrong)

/-- 'laws.FnTimesOne': WHATEVER THE INPUT: true; the input reads as it did. -/
def fnTimesOneSpec : ChangeSpec := { name := "fnTimesOne", fn := fun _ => fun
  | [d] => { results := [.lit (.bool true)], args := [d] }
  | _ => none }
def fnTimesOneRow : OpenClaim := { program := "ytpemhahingoocaa", sum := "ef98a29d9a95ee5d7095dff7548d74e713525e0d51ae64cc4dc1250e6cdd87b9", func := "loop.example/workplans/laws.FnTimesOne", spec := "fnTimesOne", unfollowed := true, recurses := true, apart := false }
def FnTimesOneSaid : Prop := fnTimesOneRow.holds Try.pinned (OpenSpec.ofChange fnTimesOneSpec)

/-- ITS FALSE NEIGHBOUR: 'it returns false'. Refute it at one input. -/
def fnTimesOneWrong : ChangeSpec := { name := "fnTimesOne", fn := fun _ => fun
  | [d] => { results := [.lit (.bool false)], args := [d] }
  | _ => none }
def FnTimesOneWrongFalsely : Prop := fnTimesOneRow.holds Try.pinned (OpenSpec.ofChange fnTimesOneWrong)

/-- 'laws.FnAdd': WHATEVER THE INPUT: true; the input reads as it did. -/
def fnAddSpec : ChangeSpec := { name := "fnAdd", fn := fun _ => fun
  | [d] => { results := [.lit (.bool true)], args := [d] }
  | _ => none }
def fnAddRow : OpenClaim := { program := "ytpemhahingoocaa", sum := "ef98a29d9a95ee5d7095dff7548d74e713525e0d51ae64cc4dc1250e6cdd87b9", func := "loop.example/workplans/laws.FnAdd", spec := "fnAdd", unfollowed := true, recurses := true, apart := false }
def FnAddSaid : Prop := fnAddRow.holds Try.pinned (OpenSpec.ofChange fnAddSpec)

/-- ITS FALSE NEIGHBOUR: 'it returns false'. Refute it at one input. -/
def fnAddWrong : ChangeSpec := { name := "fnAdd", fn := fun _ => fun
  | [d] => { results := [.lit (.bool false)], args := [d] }
  | _ => none }
def FnAddWrongFalsely : Prop := fnAddRow.holds Try.pinned (OpenSpec.ofChange fnAddWrong)

/-- 'laws.FnTimes': WHATEVER THE INPUT: true; the input reads as it did. -/
def fnTimesSpec : ChangeSpec := { name := "fnTimes", fn := fun _ => fun
  | [d] => { results := [.lit (.bool true)], args := [d] }
  | _ => none }
def fnTimesRow : OpenClaim := { program := "ytpemhahingoocaa", sum := "ef98a29d9a95ee5d7095dff7548d74e713525e0d51ae64cc4dc1250e6cdd87b9", func := "loop.example/workplans/laws.FnTimes", spec := "fnTimes", unfollowed := true, recurses := true, apart := false }
def FnTimesSaid : Prop := fnTimesRow.holds Try.pinned (OpenSpec.ofChange fnTimesSpec)

/-- ITS FALSE NEIGHBOUR: 'it returns false'. Refute it at one input. -/
def fnTimesWrong : ChangeSpec := { name := "fnTimes", fn := fun _ => fun
  | [d] => { results := [.lit (.bool false)], args := [d] }
  | _ => none }
def FnTimesWrongFalsely : Prop := fnTimesRow.holds Try.pinned (OpenSpec.ofChange fnTimesWrong)

/-- 'laws.FnTimesAdd': WHATEVER THE INPUT: true; the input reads as it did. -/
def fnTimesAddSpec : ChangeSpec := { name := "fnTimesAdd", fn := fun _ => fun
  | [d] => { results := [.lit (.bool true)], args := [d] }
  | _ => none }
def fnTimesAddRow : OpenClaim := { program := "ytpemhahingoocaa", sum := "ef98a29d9a95ee5d7095dff7548d74e713525e0d51ae64cc4dc1250e6cdd87b9", func := "loop.example/workplans/laws.FnTimesAdd", spec := "fnTimesAdd", unfollowed := true, recurses := true, apart := false }
def FnTimesAddSaid : Prop := fnTimesAddRow.holds Try.pinned (OpenSpec.ofChange fnTimesAddSpec)

/-- ITS FALSE NEIGHBOUR: 'it returns false'. Refute it at one input. -/
def fnTimesAddWrong : ChangeSpec := { name := "fnTimesAdd", fn := fun _ => fun
  | [d] => { results := [.lit (.bool false)], args := [d] }
  | _ => none }
def FnTimesAddWrongFalsely : Prop := fnTimesAddRow.holds Try.pinned (OpenSpec.ofChange fnTimesAddWrong)

/-- 'laws.FnSumsAdd': WHATEVER THE INPUT: true; the input reads as it did. -/
def fnSumsAddSpec : ChangeSpec := { name := "fnSumsAdd", fn := fun _ => fun
  | [d] => { results := [.lit (.bool true)], args := [d] }
  | _ => none }
def fnSumsAddRow : OpenClaim := { program := "ytpemhahingoocaa", sum := "ef98a29d9a95ee5d7095dff7548d74e713525e0d51ae64cc4dc1250e6cdd87b9", func := "loop.example/workplans/laws.FnSumsAdd", spec := "fnSumsAdd", unfollowed := true, recurses := true, apart := false }
def FnSumsAddSaid : Prop := fnSumsAddRow.holds Try.pinned (OpenSpec.ofChange fnSumsAddSpec)

/-- ITS FALSE NEIGHBOUR: 'it returns false'. Refute it at one input. -/
def fnSumsAddWrong : ChangeSpec := { name := "fnSumsAdd", fn := fun _ => fun
  | [d] => { results := [.lit (.bool false)], args := [d] }
  | _ => none }
def FnSumsAddWrongFalsely : Prop := fnSumsAddRow.holds Try.pinned (OpenSpec.ofChange fnSumsAddWrong)

/-- 'laws.FnSumsLast': WHATEVER THE INPUT: true; the input reads as it did. -/
def fnSumsLastSpec : ChangeSpec := { name := "fnSumsLast", fn := fun _ => fun
  | [d] => { results := [.lit (.bool true)], args := [d] }
  | _ => none }
def fnSumsLastRow : OpenClaim := { program := "ytpemhahingoocaa", sum := "ef98a29d9a95ee5d7095dff7548d74e713525e0d51ae64cc4dc1250e6cdd87b9", func := "loop.example/workplans/laws.FnSumsLast", spec := "fnSumsLast", apart := false }
def FnSumsLastSaid : Prop := fnSumsLastRow.holds Try.pinned (OpenSpec.ofChange fnSumsLastSpec)

/-- ITS FALSE NEIGHBOUR: 'it returns false'. Refute it at one input. -/
def fnSumsLastWrong : ChangeSpec := { name := "fnSumsLast", fn := fun _ => fun
  | [d] => { results := [.lit (.bool false)], args := [d] }
  | _ => none }
def FnSumsLastWrongFalsely : Prop := fnSumsLastRow.holds Try.pinned (OpenSpec.ofChange fnSumsLastWrong)

/- THE SECOND FORM. 'bulk': how many values and letters a reading holds, each counted each time it is reached (what is shared counts as often as it is met; a slice's spare places count too). A statement '..UptoSaid' is the law's where the arguments, and the package variables that the reading takes, are together of bulk at most 1048576: NARROWER than '..Said'. Prove '..Said' where nothing that the law and all that it calls make is longer than what came in: it says more and counts as full. Else prove '..UptoSaid'. A law counts once. -/
mutual
def uptoBulk {H : Type} : DataW H → Nat
  | .lit (.string bytes) => bytes.length + 1
  | .lit _ => 1
  | .nil => 1
  | .ptr d => uptoBulk d + 1
  | .slice elems spare => uptoBulkAll elems + uptoBulkAll spare + 1
  | .agg parts => uptoBulkAll parts + 1
  | .iface _ d => uptoBulk d + 1
  | .map entries => uptoBulkEntries entries + 1
  | .held _ => 1
def uptoBulkAll {H : Type} : List (DataW H) → Nat
  | [] => 0
  | d :: r => uptoBulk d + uptoBulkAll r
def uptoBulkEntries {H : Type} : List (Lit × DataW H) → Nat
  | [] => 0
  | x :: r => uptoBulkEntry x + uptoBulkEntries r
def uptoBulkEntry {H : Type} : Lit × DataW H → Nat
  | (.string bytes, d) => bytes.length + uptoBulk d + 1
  | (_, d) => uptoBulk d + 1
 end
def uptoSmall : (H : Type) → List (DataW H) → Bool := fun _ ds => decide (uptoBulkAll ds ≤ 1048576)
def OpenSpec.upto (s : _root_.Go.ChangeSpec) : _root_.Go.OpenSpec := { _root_.Go.OpenSpec.ofChange s with cond := some uptoSmall }

/-- 'laws.FnExactRowSums', WHERE WHAT IT READS IS OF BULK AT MOST 1048576: true; the input reads as it did. -/
def fnExactRowSumsUptoRow : OpenClaim := { program := "ytpemhahingoocaa", sum := "ef98a29d9a95ee5d7095dff7548d74e713525e0d51ae64cc4dc1250e6cdd87b9", func := "loop.example/workplans/laws.FnExactRowSums", spec := "fnExactRowSums", apart := false, narrowed := true }
def FnExactRowSumsUptoSaid : Prop := fnExactRowSumsUptoRow.holds Try.pinned (OpenSpec.upto fnExactRowSumsSpec)

/-- 'laws.FnTurn', WHERE WHAT IT READS IS OF BULK AT MOST 1048576: true; the input reads as it did. -/
def fnTurnUptoRow : OpenClaim := { program := "ytpemhahingoocaa", sum := "ef98a29d9a95ee5d7095dff7548d74e713525e0d51ae64cc4dc1250e6cdd87b9", func := "loop.example/workplans/laws.FnTurn", spec := "fnTurn", apart := false, narrowed := true }
def FnTurnUptoSaid : Prop := fnTurnUptoRow.holds Try.pinned (OpenSpec.upto fnTurnSpec)

/-- 'laws.FnSums', WHERE WHAT IT READS IS OF BULK AT MOST 1048576: true; the input reads as it did. -/
def fnSumsUptoRow : OpenClaim := { program := "ytpemhahingoocaa", sum := "ef98a29d9a95ee5d7095dff7548d74e713525e0d51ae64cc4dc1250e6cdd87b9", func := "loop.example/workplans/laws.FnSums", spec := "fnSums", apart := false, narrowed := true }
def FnSumsUptoSaid : Prop := fnSumsUptoRow.holds Try.pinned (OpenSpec.upto fnSumsSpec)

/-- 'laws.FnAddAdd', WHERE WHAT IT READS IS OF BULK AT MOST 1048576: true; the input reads as it did. -/
def fnAddAddUptoRow : OpenClaim := { program := "ytpemhahingoocaa", sum := "ef98a29d9a95ee5d7095dff7548d74e713525e0d51ae64cc4dc1250e6cdd87b9", func := "loop.example/workplans/laws.FnAddAdd", spec := "fnAddAdd", unfollowed := true, recurses := true, apart := false, narrowed := true }
def FnAddAddUptoSaid : Prop := fnAddAddUptoRow.holds Try.pinned (OpenSpec.upto fnAddAddSpec)

/-- 'laws.FnAddSwap', WHERE WHAT IT READS IS OF BULK AT MOST 1048576: true; the input reads as it did. -/
def fnAddSwapUptoRow : OpenClaim := { program := "ytpemhahingoocaa", sum := "ef98a29d9a95ee5d7095dff7548d74e713525e0d51ae64cc4dc1250e6cdd87b9", func := "loop.example/workplans/laws.FnAddSwap", spec := "fnAddSwap", unfollowed := true, recurses := true, apart := false, narrowed := true }
def FnAddSwapUptoSaid : Prop := fnAddSwapUptoRow.holds Try.pinned (OpenSpec.upto fnAddSwapSpec)

/-- 'laws.FnAddZero', WHERE WHAT IT READS IS OF BULK AT MOST 1048576: true; the input reads as it did. -/
def fnAddZeroUptoRow : OpenClaim := { program := "ytpemhahingoocaa", sum := "ef98a29d9a95ee5d7095dff7548d74e713525e0d51ae64cc4dc1250e6cdd87b9", func := "loop.example/workplans/laws.FnAddZero", spec := "fnAddZero", unfollowed := true, recurses := true, apart := false, narrowed := true }
def FnAddZeroUptoSaid : Prop := fnAddZeroUptoRow.holds Try.pinned (OpenSpec.upto fnAddZeroSpec)

/-- 'laws.FnTimesOne', WHERE WHAT IT READS IS OF BULK AT MOST 1048576: true; the input reads as it did. -/
def fnTimesOneUptoRow : OpenClaim := { program := "ytpemhahingoocaa", sum := "ef98a29d9a95ee5d7095dff7548d74e713525e0d51ae64cc4dc1250e6cdd87b9", func := "loop.example/workplans/laws.FnTimesOne", spec := "fnTimesOne", unfollowed := true, recurses := true, apart := false, narrowed := true }
def FnTimesOneUptoSaid : Prop := fnTimesOneUptoRow.holds Try.pinned (OpenSpec.upto fnTimesOneSpec)

/-- 'laws.FnAdd', WHERE WHAT IT READS IS OF BULK AT MOST 1048576: true; the input reads as it did. -/
def fnAddUptoRow : OpenClaim := { program := "ytpemhahingoocaa", sum := "ef98a29d9a95ee5d7095dff7548d74e713525e0d51ae64cc4dc1250e6cdd87b9", func := "loop.example/workplans/laws.FnAdd", spec := "fnAdd", unfollowed := true, recurses := true, apart := false, narrowed := true }
def FnAddUptoSaid : Prop := fnAddUptoRow.holds Try.pinned (OpenSpec.upto fnAddSpec)

/-- 'laws.FnTimes', WHERE WHAT IT READS IS OF BULK AT MOST 1048576: true; the input reads as it did. -/
def fnTimesUptoRow : OpenClaim := { program := "ytpemhahingoocaa", sum := "ef98a29d9a95ee5d7095dff7548d74e713525e0d51ae64cc4dc1250e6cdd87b9", func := "loop.example/workplans/laws.FnTimes", spec := "fnTimes", unfollowed := true, recurses := true, apart := false, narrowed := true }
def FnTimesUptoSaid : Prop := fnTimesUptoRow.holds Try.pinned (OpenSpec.upto fnTimesSpec)

/-- 'laws.FnTimesAdd', WHERE WHAT IT READS IS OF BULK AT MOST 1048576: true; the input reads as it did. -/
def fnTimesAddUptoRow : OpenClaim := { program := "ytpemhahingoocaa", sum := "ef98a29d9a95ee5d7095dff7548d74e713525e0d51ae64cc4dc1250e6cdd87b9", func := "loop.example/workplans/laws.FnTimesAdd", spec := "fnTimesAdd", unfollowed := true, recurses := true, apart := false, narrowed := true }
def FnTimesAddUptoSaid : Prop := fnTimesAddUptoRow.holds Try.pinned (OpenSpec.upto fnTimesAddSpec)

/-- 'laws.FnSumsAdd', WHERE WHAT IT READS IS OF BULK AT MOST 1048576: true; the input reads as it did. -/
def fnSumsAddUptoRow : OpenClaim := { program := "ytpemhahingoocaa", sum := "ef98a29d9a95ee5d7095dff7548d74e713525e0d51ae64cc4dc1250e6cdd87b9", func := "loop.example/workplans/laws.FnSumsAdd", spec := "fnSumsAdd", unfollowed := true, recurses := true, apart := false, narrowed := true }
def FnSumsAddUptoSaid : Prop := fnSumsAddUptoRow.holds Try.pinned (OpenSpec.upto fnSumsAddSpec)

/-- 'laws.FnSumsLast', WHERE WHAT IT READS IS OF BULK AT MOST 1048576: true; the input reads as it did. -/
def fnSumsLastUptoRow : OpenClaim := { program := "ytpemhahingoocaa", sum := "ef98a29d9a95ee5d7095dff7548d74e713525e0d51ae64cc4dc1250e6cdd87b9", func := "loop.example/workplans/laws.FnSumsLast", spec := "fnSumsLast", apart := false, narrowed := true }
def FnSumsLastUptoSaid : Prop := fnSumsLastUptoRow.holds Try.pinned (OpenSpec.upto fnSumsLastSpec)

end Rows
end Go.Proofs.Ytpemhahingoocaa
