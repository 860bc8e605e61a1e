/-
  No cell of these rows narrows 'for every input' (looked for: loops, veiled, ifaces, maps, wideKeys, modest, calm, conditions, laid).
  DERIVED. THE GIVEN ROWS OF THIS SEAT. 6 by the template 'for every input the law returns true; each argument reads behind the call as it read before'; 0 by the template 'total and deterministic' (their statements: YtfjaohadjmigoaaTotals.lean).
  GIVEN WITH THE SEED: the statements are not yours to turn. If you find one false, say at which input.
  Laid BY PROGRAM, IN A SANDBOX (cutbox-rows.mjs): the forced cells as the released guide's own fill.sh prints them over the translation e2ab47d7bebcee3e… (all of the seat's roots in one cut). By AI agents, Wed Nov 11 2026. No macro, syntax, notation, axiom, sorry.
-/
import Derived.Test.YtfjaohadjmigoaaChecked
import GoSem.Claim
import GoSem.ClaimJoined
import GoSem.ClaimMapViews
import Derived.JoinedTies
import Derived.KernelRfl
namespace Go.Proofs.Ytfjaohadjmigoaa
/- THE CELL 'sum', in the pinned program and in every row, IS THE sha256 OF THE DUMP (.gsa) THAT YtfjaohadjmigoaaProg.lean LOADS. Nothing in Lean hashes anything: it is a label: what it is worth is what the hold of that sum in a sandbox is worth. -/
noncomputable def Try.pinned : Pinned := { name := "ytfjaohadjmigoaa", sum := "e2ab47d7bebcee3e593556fe8f73a06a62c43a4e8b4b14f5be6f349f79457611", checked := Try.checked }
namespace Rows
def none {H : Type} : Left H := { results := [], args := [] }

/-- 'outpostlaw05.CodeChecks': WHATEVER THE INPUT: true; the input reads as it did. -/
def codeChecksSpec : ChangeSpec := { name := "codeChecks", fn := fun _ => fun
  | [d1, d2] => { results := [.lit (.bool true)], args := [d1, d2] }
  | _ => none }
def codeChecksRow : OpenClaim := { program := "ytfjaohadjmigoaa", sum := "e2ab47d7bebcee3e593556fe8f73a06a62c43a4e8b4b14f5be6f349f79457611", func := "outpost/outpostlaw05.CodeChecks", spec := "codeChecks", plainKeys := false, apart := false }
def CodeChecksSaid : Prop := codeChecksRow.holds Try.pinned (OpenSpec.ofChange codeChecksSpec)

/-- ITS FALSE NEIGHBOUR: 'it returns false'. Refute it at one input. -/
def codeChecksWrong : ChangeSpec := { name := "codeChecks", fn := fun _ => fun
  | [d1, d2] => { results := [.lit (.bool false)], args := [d1, d2] }
  | _ => none }
def CodeChecksWrongFalsely : Prop := codeChecksRow.holds Try.pinned (OpenSpec.ofChange codeChecksWrong)

/-- 'outpostlaw05.CodeNames': WHATEVER THE INPUT: true; the input reads as it did. -/
def codeNamesSpec : ChangeSpec := { name := "codeNames", fn := fun _ => fun
  | [] => { results := [.lit (.bool true)], args := [] }
  | _ => none }
def codeNamesRow : OpenClaim := { program := "ytfjaohadjmigoaa", sum := "e2ab47d7bebcee3e593556fe8f73a06a62c43a4e8b4b14f5be6f349f79457611", func := "outpost/outpostlaw05.CodeNames", spec := "codeNames", plainKeys := false, apart := false }
def CodeNamesSaid : Prop := codeNamesRow.holds Try.pinned (OpenSpec.ofChange codeNamesSpec)

/-- ITS FALSE NEIGHBOUR: 'it returns false'. Refute it at one input. -/
def codeNamesWrong : ChangeSpec := { name := "codeNames", fn := fun _ => fun
  | [] => { results := [.lit (.bool false)], args := [] }
  | _ => none }
def CodeNamesWrongFalsely : Prop := codeNamesRow.holds Try.pinned (OpenSpec.ofChange codeNamesWrong)

/-- 'outpostlaw05.CodeCommon': WHATEVER THE INPUT: true; the input reads as it did. -/
def codeCommonSpec : ChangeSpec := { name := "codeCommon", fn := fun _ => fun
  | [d1, d2] => { results := [.lit (.bool true)], args := [d1, d2] }
  | _ => none }
def codeCommonRow : OpenClaim := { program := "ytfjaohadjmigoaa", sum := "e2ab47d7bebcee3e593556fe8f73a06a62c43a4e8b4b14f5be6f349f79457611", func := "outpost/outpostlaw05.CodeCommon", spec := "codeCommon", plainKeys := false, apart := false }
def CodeCommonSaid : Prop := codeCommonRow.holds Try.pinned (OpenSpec.ofChange codeCommonSpec)

/-- ITS FALSE NEIGHBOUR: 'it returns false'. Refute it at one input. -/
def codeCommonWrong : ChangeSpec := { name := "codeCommon", fn := fun _ => fun
  | [d1, d2] => { results := [.lit (.bool false)], args := [d1, d2] }
  | _ => none }
def CodeCommonWrongFalsely : Prop := codeCommonRow.holds Try.pinned (OpenSpec.ofChange codeCommonWrong)

/-- 'outpostlaw05.CodeInverse': WHATEVER THE INPUT: true; the input reads as it did. -/
def codeInverseSpec : ChangeSpec := { name := "codeInverse", fn := fun _ => fun
  | [d] => { results := [.lit (.bool true)], args := [d] }
  | _ => none }
def codeInverseRow : OpenClaim := { program := "ytfjaohadjmigoaa", sum := "e2ab47d7bebcee3e593556fe8f73a06a62c43a4e8b4b14f5be6f349f79457611", func := "outpost/outpostlaw05.CodeInverse", spec := "codeInverse", plainKeys := false, apart := false }
def CodeInverseSaid : Prop := codeInverseRow.holds Try.pinned (OpenSpec.ofChange codeInverseSpec)

/-- ITS FALSE NEIGHBOUR: 'it returns false'. Refute it at one input. -/
def codeInverseWrong : ChangeSpec := { name := "codeInverse", fn := fun _ => fun
  | [d] => { results := [.lit (.bool false)], args := [d] }
  | _ => none }
def CodeInverseWrongFalsely : Prop := codeInverseRow.holds Try.pinned (OpenSpec.ofChange codeInverseWrong)

/-- 'outpostlaw05.CodeNil': WHATEVER THE INPUT: true; the input reads as it did. -/
def codeNilSpec : ChangeSpec := { name := "codeNil", fn := fun _ => fun
  | [d] => { results := [.lit (.bool true)], args := [d] }
  | _ => none }
def codeNilRow : OpenClaim := { program := "ytfjaohadjmigoaa", sum := "e2ab47d7bebcee3e593556fe8f73a06a62c43a4e8b4b14f5be6f349f79457611", func := "outpost/outpostlaw05.CodeNil", spec := "codeNil", recurses := true, plainKeys := false, apart := false }
def CodeNilSaid : Prop := codeNilRow.holds Try.pinned (OpenSpec.ofChange codeNilSpec)

/-- ITS FALSE NEIGHBOUR: 'it returns false'. Refute it at one input. -/
def codeNilWrong : ChangeSpec := { name := "codeNil", fn := fun _ => fun
  | [d] => { results := [.lit (.bool false)], args := [d] }
  | _ => none }
def CodeNilWrongFalsely : Prop := codeNilRow.holds Try.pinned (OpenSpec.ofChange codeNilWrong)

/-- 'outpostlaw05.CodeBooks': WHATEVER THE INPUT: true; the input reads as it did. -/
def codeBooksSpec : ChangeSpec := { name := "codeBooks", fn := fun _ => fun
  | [d1, d2] => { results := [.lit (.bool true)], args := [d1, d2] }
  | _ => none }
def codeBooksRow : OpenClaim := { program := "ytfjaohadjmigoaa", sum := "e2ab47d7bebcee3e593556fe8f73a06a62c43a4e8b4b14f5be6f349f79457611", func := "outpost/outpostlaw05.CodeBooks", spec := "codeBooks", recurses := true, plainKeys := false, apart := false }
def CodeBooksSaid : Prop := codeBooksRow.holds Try.pinned (OpenSpec.ofChange codeBooksSpec)

/-- ITS FALSE NEIGHBOUR: 'it returns false'. Refute it at one input. -/
def codeBooksWrong : ChangeSpec := { name := "codeBooks", fn := fun _ => fun
  | [d1, d2] => { results := [.lit (.bool false)], args := [d1, d2] }
  | _ => none }
def CodeBooksWrongFalsely : Prop := codeBooksRow.holds Try.pinned (OpenSpec.ofChange codeBooksWrong)

/- THE SECOND FORM. 'bulk': how many values and letters a reading holds, each counted each time it is reached (what is shared counts as often as it is met; a slice's spare places count too). A statement '..UptoSaid' is the law's where the arguments, and the package variables that the reading takes, are together of bulk at most 1048576: NARROWER than '..Said'. Prove '..Said' where nothing that the law and all that it calls make is longer than what came in: it says more and counts as full. Else prove '..UptoSaid'. A law counts once. -/
mutual
def uptoBulk {H : Type} : DataW H → Nat
  | .lit (.string bytes) => bytes.length + 1
  | .lit _ => 1
  | .nil => 1
  | .ptr d => uptoBulk d + 1
  | .slice elems spare => uptoBulkAll elems + uptoBulkAll spare + 1
  | .agg parts => uptoBulkAll parts + 1
  | .iface _ d => uptoBulk d + 1
  | .map entries => uptoBulkEntries entries + 1
  | .held _ => 1
def uptoBulkAll {H : Type} : List (DataW H) → Nat
  | [] => 0
  | d :: r => uptoBulk d + uptoBulkAll r
def uptoBulkEntries {H : Type} : List (Lit × DataW H) → Nat
  | [] => 0
  | x :: r => uptoBulkEntry x + uptoBulkEntries r
def uptoBulkEntry {H : Type} : Lit × DataW H → Nat
  | (.string bytes, d) => bytes.length + uptoBulk d + 1
  | (_, d) => uptoBulk d + 1
 end
def uptoSmall : (H : Type) → List (DataW H) → Bool := fun _ ds => decide (uptoBulkAll ds ≤ 1048576)
def OpenSpec.upto (s : _root_.Go.ChangeSpec) : _root_.Go.OpenSpec := { _root_.Go.OpenSpec.ofChange s with cond := some uptoSmall }

/-- 'outpostlaw05.CodeChecks', WHERE WHAT IT READS IS OF BULK AT MOST 1048576: true; the input reads as it did. -/
def codeChecksUptoRow : OpenClaim := { program := "ytfjaohadjmigoaa", sum := "e2ab47d7bebcee3e593556fe8f73a06a62c43a4e8b4b14f5be6f349f79457611", func := "outpost/outpostlaw05.CodeChecks", spec := "codeChecks", plainKeys := false, apart := false, narrowed := true }
def CodeChecksUptoSaid : Prop := codeChecksUptoRow.holds Try.pinned (OpenSpec.upto codeChecksSpec)

/-- 'outpostlaw05.CodeNames', WHERE WHAT IT READS IS OF BULK AT MOST 1048576: true; the input reads as it did. -/
def codeNamesUptoRow : OpenClaim := { program := "ytfjaohadjmigoaa", sum := "e2ab47d7bebcee3e593556fe8f73a06a62c43a4e8b4b14f5be6f349f79457611", func := "outpost/outpostlaw05.CodeNames", spec := "codeNames", plainKeys := false, apart := false, narrowed := true }
def CodeNamesUptoSaid : Prop := codeNamesUptoRow.holds Try.pinned (OpenSpec.upto codeNamesSpec)

/-- 'outpostlaw05.CodeCommon', WHERE WHAT IT READS IS OF BULK AT MOST 1048576: true; the input reads as it did. -/
def codeCommonUptoRow : OpenClaim := { program := "ytfjaohadjmigoaa", sum := "e2ab47d7bebcee3e593556fe8f73a06a62c43a4e8b4b14f5be6f349f79457611", func := "outpost/outpostlaw05.CodeCommon", spec := "codeCommon", plainKeys := false, apart := false, narrowed := true }
def CodeCommonUptoSaid : Prop := codeCommonUptoRow.holds Try.pinned (OpenSpec.upto codeCommonSpec)

/-- 'outpostlaw05.CodeInverse', WHERE WHAT IT READS IS OF BULK AT MOST 1048576: true; the input reads as it did. -/
def codeInverseUptoRow : OpenClaim := { program := "ytfjaohadjmigoaa", sum := "e2ab47d7bebcee3e593556fe8f73a06a62c43a4e8b4b14f5be6f349f79457611", func := "outpost/outpostlaw05.CodeInverse", spec := "codeInverse", plainKeys := false, apart := false, narrowed := true }
def CodeInverseUptoSaid : Prop := codeInverseUptoRow.holds Try.pinned (OpenSpec.upto codeInverseSpec)

/-- 'outpostlaw05.CodeNil', WHERE WHAT IT READS IS OF BULK AT MOST 1048576: true; the input reads as it did. -/
def codeNilUptoRow : OpenClaim := { program := "ytfjaohadjmigoaa", sum := "e2ab47d7bebcee3e593556fe8f73a06a62c43a4e8b4b14f5be6f349f79457611", func := "outpost/outpostlaw05.CodeNil", spec := "codeNil", recurses := true, plainKeys := false, apart := false, narrowed := true }
def CodeNilUptoSaid : Prop := codeNilUptoRow.holds Try.pinned (OpenSpec.upto codeNilSpec)

/-- 'outpostlaw05.CodeBooks', WHERE WHAT IT READS IS OF BULK AT MOST 1048576: true; the input reads as it did. -/
def codeBooksUptoRow : OpenClaim := { program := "ytfjaohadjmigoaa", sum := "e2ab47d7bebcee3e593556fe8f73a06a62c43a4e8b4b14f5be6f349f79457611", func := "outpost/outpostlaw05.CodeBooks", spec := "codeBooks", recurses := true, plainKeys := false, apart := false, narrowed := true }
def CodeBooksUptoSaid : Prop := codeBooksUptoRow.holds Try.pinned (OpenSpec.upto codeBooksSpec)

end Rows
end Go.Proofs.Ytfjaohadjmigoaa
