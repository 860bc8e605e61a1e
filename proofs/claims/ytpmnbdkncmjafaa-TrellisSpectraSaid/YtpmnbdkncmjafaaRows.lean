/-
  No cell of these rows narrows 'for every input' (looked for: loops, veiled, ifaces, maps, wideKeys, modest, calm, conditions, laid).
  DERIVED. THE GIVEN ROWS OF THIS SEAT. 9 by the template 'for every input the law returns true; each argument reads behind the call as it read before'; 0 by the template 'total and deterministic' (their statements: YtpmnbdkncmjafaaTotals.lean).
  GIVEN WITH THE SEED: the statements are not yours to turn. If you find one false, say at which input.
  Laid BY PROGRAM, IN A SANDBOX (cutbox-rows.mjs): the forced cells as the released guide's own fill.sh prints them over the translation 080210a33161565d… (all of the seat's roots in one cut). By AI agents, Wed Nov 11 2026. No macro, syntax, notation, axiom, sorry.
-/
import Derived.Test.YtpmnbdkncmjafaaChecked
import GoSem.Claim
import GoSem.ClaimJoined
import GoSem.ClaimMapViews
import Derived.JoinedTies
import Derived.KernelRfl
namespace Go.Proofs.Ytpmnbdkncmjafaa
/- THE CELL 'sum', in the pinned program and in every row, IS THE sha256 OF THE DUMP (.gsa) THAT YtpmnbdkncmjafaaProg.lean LOADS. Nothing in Lean hashes anything: it is a label: what it is worth is what the hold of that sum in a sandbox is worth. -/
noncomputable def Try.pinned : Pinned := { name := "ytpmnbdkncmjafaa", sum := "080210a33161565db9faf8972b131e24bceca9adb93a5f6bc106aec94633bf4a", checked := Try.checked }
namespace Rows
def none {H : Type} : Left H := { results := [], args := [] }

/-- 'outpostlaw07.TrellisSteps': WHATEVER THE INPUT: true; the input reads as it did. -/
def trellisStepsSpec : ChangeSpec := { name := "trellisSteps", fn := fun _ => fun
  | [d1, d2, d3] => { results := [.lit (.bool true)], args := [d1, d2, d3] }
  | _ => none }
def trellisStepsRow : OpenClaim := { program := "ytpmnbdkncmjafaa", sum := "080210a33161565db9faf8972b131e24bceca9adb93a5f6bc106aec94633bf4a", func := "outpost/outpostlaw07.TrellisSteps", spec := "trellisSteps", apart := false }
def TrellisStepsSaid : Prop := trellisStepsRow.holds Try.pinned (OpenSpec.ofChange trellisStepsSpec)

/-- ITS FALSE NEIGHBOUR: 'it returns false'. Refute it at one input. -/
def trellisStepsWrong : ChangeSpec := { name := "trellisSteps", fn := fun _ => fun
  | [d1, d2, d3] => { results := [.lit (.bool false)], args := [d1, d2, d3] }
  | _ => none }
def TrellisStepsWrongFalsely : Prop := trellisStepsRow.holds Try.pinned (OpenSpec.ofChange trellisStepsWrong)

/-- 'outpostlaw07.TrellisReturns': WHATEVER THE INPUT: true; the input reads as it did. -/
def trellisReturnsSpec : ChangeSpec := { name := "trellisReturns", fn := fun _ => fun
  | [d1, d2, d3] => { results := [.lit (.bool true)], args := [d1, d2, d3] }
  | _ => none }
def trellisReturnsRow : OpenClaim := { program := "ytpmnbdkncmjafaa", sum := "080210a33161565db9faf8972b131e24bceca9adb93a5f6bc106aec94633bf4a", func := "outpost/outpostlaw07.TrellisReturns", spec := "trellisReturns", apart := false }
def TrellisReturnsSaid : Prop := trellisReturnsRow.holds Try.pinned (OpenSpec.ofChange trellisReturnsSpec)

/-- ITS FALSE NEIGHBOUR: 'it returns false'. Refute it at one input. -/
def trellisReturnsWrong : ChangeSpec := { name := "trellisReturns", fn := fun _ => fun
  | [d1, d2, d3] => { results := [.lit (.bool false)], args := [d1, d2, d3] }
  | _ => none }
def TrellisReturnsWrongFalsely : Prop := trellisReturnsRow.holds Try.pinned (OpenSpec.ofChange trellisReturnsWrong)

/-- 'outpostlaw07.TrellisWalks': WHATEVER THE INPUT: true; the input reads as it did. -/
def trellisWalksSpec : ChangeSpec := { name := "trellisWalks", fn := fun _ => fun
  | [d1, d2, d3] => { results := [.lit (.bool true)], args := [d1, d2, d3] }
  | _ => none }
def trellisWalksRow : OpenClaim := { program := "ytpmnbdkncmjafaa", sum := "080210a33161565db9faf8972b131e24bceca9adb93a5f6bc106aec94633bf4a", func := "outpost/outpostlaw07.TrellisWalks", spec := "trellisWalks", apart := false }
def TrellisWalksSaid : Prop := trellisWalksRow.holds Try.pinned (OpenSpec.ofChange trellisWalksSpec)

/-- ITS FALSE NEIGHBOUR: 'it returns false'. Refute it at one input. -/
def trellisWalksWrong : ChangeSpec := { name := "trellisWalks", fn := fun _ => fun
  | [d1, d2, d3] => { results := [.lit (.bool false)], args := [d1, d2, d3] }
  | _ => none }
def TrellisWalksWrongFalsely : Prop := trellisWalksRow.holds Try.pinned (OpenSpec.ofChange trellisWalksWrong)

/-- 'outpostlaw07.TrellisLinear': WHATEVER THE INPUT: true; the input reads as it did. -/
def trellisLinearSpec : ChangeSpec := { name := "trellisLinear", fn := fun _ => fun
  | [d1, d2, d3, d4, d5] => { results := [.lit (.bool true)], args := [d1, d2, d3, d4, d5] }
  | _ => none }
def trellisLinearRow : OpenClaim := { program := "ytpmnbdkncmjafaa", sum := "080210a33161565db9faf8972b131e24bceca9adb93a5f6bc106aec94633bf4a", func := "outpost/outpostlaw07.TrellisLinear", spec := "trellisLinear", apart := false }
def TrellisLinearSaid : Prop := trellisLinearRow.holds Try.pinned (OpenSpec.ofChange trellisLinearSpec)

/-- ITS FALSE NEIGHBOUR: 'it returns false'. Refute it at one input. -/
def trellisLinearWrong : ChangeSpec := { name := "trellisLinear", fn := fun _ => fun
  | [d1, d2, d3, d4, d5] => { results := [.lit (.bool false)], args := [d1, d2, d3, d4, d5] }
  | _ => none }
def TrellisLinearWrongFalsely : Prop := trellisLinearRow.holds Try.pinned (OpenSpec.ofChange trellisLinearWrong)

/-- 'outpostlaw07.TrellisProfiles': WHATEVER THE INPUT: true; the input reads as it did. -/
def trellisProfilesSpec : ChangeSpec := { name := "trellisProfiles", fn := fun _ => fun
  | [d1, d2] => { results := [.lit (.bool true)], args := [d1, d2] }
  | _ => none }
def trellisProfilesRow : OpenClaim := { program := "ytpmnbdkncmjafaa", sum := "080210a33161565db9faf8972b131e24bceca9adb93a5f6bc106aec94633bf4a", func := "outpost/outpostlaw07.TrellisProfiles", spec := "trellisProfiles", unfollowed := true, recurses := true, apart := false }
def TrellisProfilesSaid : Prop := trellisProfilesRow.holds Try.pinned (OpenSpec.ofChange trellisProfilesSpec)

/-- ITS FALSE NEIGHBOUR: 'it returns false'. Refute it at one input. -/
def trellisProfilesWrong : ChangeSpec := { name := "trellisProfiles", fn := fun _ => fun
  | [d1, d2] => { results := [.lit (.bool false)], args := [d1, d2] }
  | _ => none }
def TrellisProfilesWrongFalsely : Prop := trellisProfilesRow.holds Try.pinned (OpenSpec.ofChange trellisProfilesWrong)

/-- 'outpostlaw07.TrellisSpectra': WHATEVER THE INPUT: true; the input reads as it did. -/
def trellisSpectraSpec : ChangeSpec := { name := "trellisSpectra", fn := fun _ => fun
  | [d1, d2] => { results := [.lit (.bool true)], args := [d1, d2] }
  | _ => none }
def trellisSpectraRow : OpenClaim := { program := "ytpmnbdkncmjafaa", sum := "080210a33161565db9faf8972b131e24bceca9adb93a5f6bc106aec94633bf4a", func := "outpost/outpostlaw07.TrellisSpectra", spec := "trellisSpectra", unfollowed := true, recurses := true, apart := false }
def TrellisSpectraSaid : Prop := trellisSpectraRow.holds Try.pinned (OpenSpec.ofChange trellisSpectraSpec)

/-- ITS FALSE NEIGHBOUR: 'it returns false'. Refute it at one input. -/
def trellisSpectraWrong : ChangeSpec := { name := "trellisSpectra", fn := fun _ => fun
  | [d1, d2] => { results := [.lit (.bool false)], args := [d1, d2] }
  | _ => none }
def TrellisSpectraWrongFalsely : Prop := trellisSpectraRow.holds Try.pinned (OpenSpec.ofChange trellisSpectraWrong)

/-- 'outpostlaw07.TrellisFree': WHATEVER THE INPUT: true; the input reads as it did. -/
def trellisFreeSpec : ChangeSpec := { name := "trellisFree", fn := fun _ => fun
  | [d] => { results := [.lit (.bool true)], args := [d] }
  | _ => none }
def trellisFreeRow : OpenClaim := { program := "ytpmnbdkncmjafaa", sum := "080210a33161565db9faf8972b131e24bceca9adb93a5f6bc106aec94633bf4a", func := "outpost/outpostlaw07.TrellisFree", spec := "trellisFree", unfollowed := true, recurses := true, apart := false }
def TrellisFreeSaid : Prop := trellisFreeRow.holds Try.pinned (OpenSpec.ofChange trellisFreeSpec)

/-- ITS FALSE NEIGHBOUR: 'it returns false'. Refute it at one input. -/
def trellisFreeWrong : ChangeSpec := { name := "trellisFree", fn := fun _ => fun
  | [d] => { results := [.lit (.bool false)], args := [d] }
  | _ => none }
def TrellisFreeWrongFalsely : Prop := trellisFreeRow.holds Try.pinned (OpenSpec.ofChange trellisFreeWrong)

/-- 'outpostlaw07.TrellisApart': WHATEVER THE INPUT: true; the input reads as it did. -/
def trellisApartSpec : ChangeSpec := { name := "trellisApart", fn := fun _ => fun
  | [d1, d2, d3] => { results := [.lit (.bool true)], args := [d1, d2, d3] }
  | _ => none }
def trellisApartRow : OpenClaim := { program := "ytpmnbdkncmjafaa", sum := "080210a33161565db9faf8972b131e24bceca9adb93a5f6bc106aec94633bf4a", func := "outpost/outpostlaw07.TrellisApart", spec := "trellisApart", unfollowed := true, recurses := true, apart := false }
def TrellisApartSaid : Prop := trellisApartRow.holds Try.pinned (OpenSpec.ofChange trellisApartSpec)

/-- ITS FALSE NEIGHBOUR: 'it returns false'. Refute it at one input. -/
def trellisApartWrong : ChangeSpec := { name := "trellisApart", fn := fun _ => fun
  | [d1, d2, d3] => { results := [.lit (.bool false)], args := [d1, d2, d3] }
  | _ => none }
def TrellisApartWrongFalsely : Prop := trellisApartRow.holds Try.pinned (OpenSpec.ofChange trellisApartWrong)

/-- 'outpostlaw07.TrellisMirror': WHATEVER THE INPUT: true; the input reads as it did. -/
def trellisMirrorSpec : ChangeSpec := { name := "trellisMirror", fn := fun _ => fun
  | [d1, d2] => { results := [.lit (.bool true)], args := [d1, d2] }
  | _ => none }
def trellisMirrorRow : OpenClaim := { program := "ytpmnbdkncmjafaa", sum := "080210a33161565db9faf8972b131e24bceca9adb93a5f6bc106aec94633bf4a", func := "outpost/outpostlaw07.TrellisMirror", spec := "trellisMirror", unfollowed := true, recurses := true, apart := false }
def TrellisMirrorSaid : Prop := trellisMirrorRow.holds Try.pinned (OpenSpec.ofChange trellisMirrorSpec)

/-- ITS FALSE NEIGHBOUR: 'it returns false'. Refute it at one input. -/
def trellisMirrorWrong : ChangeSpec := { name := "trellisMirror", fn := fun _ => fun
  | [d1, d2] => { results := [.lit (.bool false)], args := [d1, d2] }
  | _ => none }
def TrellisMirrorWrongFalsely : Prop := trellisMirrorRow.holds Try.pinned (OpenSpec.ofChange trellisMirrorWrong)

/- THE SECOND FORM. 'bulk': how many values and letters a reading holds, each counted each time it is reached (what is shared counts as often as it is met; a slice's spare places count too). A statement '..UptoSaid' is the law's where the arguments, and the package variables that the reading takes, are together of bulk at most 1048576: NARROWER than '..Said'. Prove '..Said' where nothing that the law and all that it calls make is longer than what came in: it says more and counts as full. Else prove '..UptoSaid'. A law counts once. -/
mutual
def uptoBulk {H : Type} : DataW H → Nat
  | .lit (.string bytes) => bytes.length + 1
  | .lit _ => 1
  | .nil => 1
  | .ptr d => uptoBulk d + 1
  | .slice elems spare => uptoBulkAll elems + uptoBulkAll spare + 1
  | .agg parts => uptoBulkAll parts + 1
  | .iface _ d => uptoBulk d + 1
  | .map entries => uptoBulkEntries entries + 1
  | .held _ => 1
def uptoBulkAll {H : Type} : List (DataW H) → Nat
  | [] => 0
  | d :: r => uptoBulk d + uptoBulkAll r
def uptoBulkEntries {H : Type} : List (Lit × DataW H) → Nat
  | [] => 0
  | x :: r => uptoBulkEntry x + uptoBulkEntries r
def uptoBulkEntry {H : Type} : Lit × DataW H → Nat
  | (.string bytes, d) => bytes.length + uptoBulk d + 1
  | (_, d) => uptoBulk d + 1
 end
def uptoSmall : (H : Type) → List (DataW H) → Bool := fun _ ds => decide (uptoBulkAll ds ≤ 1048576)
def OpenSpec.upto (s : _root_.Go.ChangeSpec) : _root_.Go.OpenSpec := { _root_.Go.OpenSpec.ofChange s with cond := some uptoSmall }

/-- 'outpostlaw07.TrellisSteps', WHERE WHAT IT READS IS OF BULK AT MOST 1048576: true; the input reads as it did. -/
def trellisStepsUptoRow : OpenClaim := { program := "ytpmnbdkncmjafaa", sum := "080210a33161565db9faf8972b131e24bceca9adb93a5f6bc106aec94633bf4a", func := "outpost/outpostlaw07.TrellisSteps", spec := "trellisSteps", apart := false, narrowed := true }
def TrellisStepsUptoSaid : Prop := trellisStepsUptoRow.holds Try.pinned (OpenSpec.upto trellisStepsSpec)

/-- 'outpostlaw07.TrellisReturns', WHERE WHAT IT READS IS OF BULK AT MOST 1048576: true; the input reads as it did. -/
def trellisReturnsUptoRow : OpenClaim := { program := "ytpmnbdkncmjafaa", sum := "080210a33161565db9faf8972b131e24bceca9adb93a5f6bc106aec94633bf4a", func := "outpost/outpostlaw07.TrellisReturns", spec := "trellisReturns", apart := false, narrowed := true }
def TrellisReturnsUptoSaid : Prop := trellisReturnsUptoRow.holds Try.pinned (OpenSpec.upto trellisReturnsSpec)

/-- 'outpostlaw07.TrellisWalks', WHERE WHAT IT READS IS OF BULK AT MOST 1048576: true; the input reads as it did. -/
def trellisWalksUptoRow : OpenClaim := { program := "ytpmnbdkncmjafaa", sum := "080210a33161565db9faf8972b131e24bceca9adb93a5f6bc106aec94633bf4a", func := "outpost/outpostlaw07.TrellisWalks", spec := "trellisWalks", apart := false, narrowed := true }
def TrellisWalksUptoSaid : Prop := trellisWalksUptoRow.holds Try.pinned (OpenSpec.upto trellisWalksSpec)

/-- 'outpostlaw07.TrellisLinear', WHERE WHAT IT READS IS OF BULK AT MOST 1048576: true; the input reads as it did. -/
def trellisLinearUptoRow : OpenClaim := { program := "ytpmnbdkncmjafaa", sum := "080210a33161565db9faf8972b131e24bceca9adb93a5f6bc106aec94633bf4a", func := "outpost/outpostlaw07.TrellisLinear", spec := "trellisLinear", apart := false, narrowed := true }
def TrellisLinearUptoSaid : Prop := trellisLinearUptoRow.holds Try.pinned (OpenSpec.upto trellisLinearSpec)

/-- 'outpostlaw07.TrellisProfiles', WHERE WHAT IT READS IS OF BULK AT MOST 1048576: true; the input reads as it did. -/
def trellisProfilesUptoRow : OpenClaim := { program := "ytpmnbdkncmjafaa", sum := "080210a33161565db9faf8972b131e24bceca9adb93a5f6bc106aec94633bf4a", func := "outpost/outpostlaw07.TrellisProfiles", spec := "trellisProfiles", unfollowed := true, recurses := true, apart := false, narrowed := true }
def TrellisProfilesUptoSaid : Prop := trellisProfilesUptoRow.holds Try.pinned (OpenSpec.upto trellisProfilesSpec)

/-- 'outpostlaw07.TrellisSpectra', WHERE WHAT IT READS IS OF BULK AT MOST 1048576: true; the input reads as it did. -/
def trellisSpectraUptoRow : OpenClaim := { program := "ytpmnbdkncmjafaa", sum := "080210a33161565db9faf8972b131e24bceca9adb93a5f6bc106aec94633bf4a", func := "outpost/outpostlaw07.TrellisSpectra", spec := "trellisSpectra", unfollowed := true, recurses := true, apart := false, narrowed := true }
def TrellisSpectraUptoSaid : Prop := trellisSpectraUptoRow.holds Try.pinned (OpenSpec.upto trellisSpectraSpec)

/-- 'outpostlaw07.TrellisFree', WHERE WHAT IT READS IS OF BULK AT MOST 1048576: true; the input reads as it did. -/
def trellisFreeUptoRow : OpenClaim := { program := "ytpmnbdkncmjafaa", sum := "080210a33161565db9faf8972b131e24bceca9adb93a5f6bc106aec94633bf4a", func := "outpost/outpostlaw07.TrellisFree", spec := "trellisFree", unfollowed := true, recurses := true, apart := false, narrowed := true }
def TrellisFreeUptoSaid : Prop := trellisFreeUptoRow.holds Try.pinned (OpenSpec.upto trellisFreeSpec)

/-- 'outpostlaw07.TrellisApart', WHERE WHAT IT READS IS OF BULK AT MOST 1048576: true; the input reads as it did. -/
def trellisApartUptoRow : OpenClaim := { program := "ytpmnbdkncmjafaa", sum := "080210a33161565db9faf8972b131e24bceca9adb93a5f6bc106aec94633bf4a", func := "outpost/outpostlaw07.TrellisApart", spec := "trellisApart", unfollowed := true, recurses := true, apart := false, narrowed := true }
def TrellisApartUptoSaid : Prop := trellisApartUptoRow.holds Try.pinned (OpenSpec.upto trellisApartSpec)

/-- 'outpostlaw07.TrellisMirror', WHERE WHAT IT READS IS OF BULK AT MOST 1048576: true; the input reads as it did. -/
def trellisMirrorUptoRow : OpenClaim := { program := "ytpmnbdkncmjafaa", sum := "080210a33161565db9faf8972b131e24bceca9adb93a5f6bc106aec94633bf4a", func := "outpost/outpostlaw07.TrellisMirror", spec := "trellisMirror", unfollowed := true, recurses := true, apart := false, narrowed := true }
def TrellisMirrorUptoSaid : Prop := trellisMirrorUptoRow.holds Try.pinned (OpenSpec.upto trellisMirrorSpec)

end Rows
end Go.Proofs.Ytpmnbdkncmjafaa
