/-
  NARROWER THAN 'FOR EVERY INPUT', by the rows' own cells (each row's printed sentence says how): LfsrBits: laid · LfsrJumps: laid · LfsrChecks: laid · LfsrRuns: laid · LfsrNil: laid · LfsrNamed: laid · LfsrWhitens: laid · LfsrTurns: laid · LfsrBack: laid · LfsrShortest: laid · LfsrGrows: laid · LfsrFound: laid · LfsrPeriods: laid · LfsrGreatest: laid.
  DERIVED. THE GIVEN ROWS OF THIS SEAT. 14 by the template 'for every input the law returns true; each argument reads behind the call as it read before'; 0 by the template 'total and deterministic' (their statements: YtknkkoemghceeaaDoorTotals.lean).
  GIVEN WITH THE SEED: the statements are not yours to turn. If you find one false, say at which input.
  Laid BY PROGRAM, IN A SANDBOX (cutbox-rows.mjs): the forced cells as the released guide's own fill.sh prints them over the translation a7289346e4eb60e8… (all of the seat's roots in one cut). By AI agents, Wed Nov 11 2026. No macro, syntax, notation, axiom, sorry.
-/
import Derived.Test.YtknkkoemghceeaaDoorChecked
import GoSem.Claim
import GoSem.ClaimJoined
import GoSem.ClaimMapViews
import Derived.JoinedTies
import Derived.KernelRfl
namespace Go.Proofs.YtknkkoemghceeaaDoor
/- THE CELL 'sum', in the pinned program and in every row, IS THE sha256 OF THE DUMP (.gsa) THAT YtknkkoemghceeaaDoorProg.lean LOADS. Nothing in Lean hashes anything: it is a label: what it is worth is what the hold of that sum in a sandbox is worth. -/
noncomputable def Tryd.pinned : Pinned := { name := "ytknkkoemghceeaadoor", sum := "a7289346e4eb60e897c02800e7705fbdfe02501bb78e5ba1b6a50d182f757bd1", checked := Tryd.checked }
namespace Rows
def none {H : Type} : Left H := { results := [], args := [] }

/- WHAT THE LISTED PACKAGE-LEVEL VARIABLES READ AS WHEN THE CALL BEGINS. Each datum BY PROGRAM (the guide's laid-datum.mjs) off the statement by which the dump's own 'gosem.cut.vars' lays the variable. In a bare row this is a premise. The card (YtknkkoemghceeaaDoorCards.lean) ties it to the program's text. -/
def laid_math_bits_deBruijn64tab {H : Type} : DataW H := .agg [.lit (.int .u8 0), .lit (.int .u8 1), .lit (.int .u8 56), .lit (.int .u8 2), .lit (.int .u8 57), .lit (.int .u8 49), .lit (.int .u8 28), .lit (.int .u8 3), .lit (.int .u8 61), .lit (.int .u8 58), .lit (.int .u8 42), .lit (.int .u8 50), .lit (.int .u8 38), .lit (.int .u8 29), .lit (.int .u8 17), .lit (.int .u8 4), .lit (.int .u8 62), .lit (.int .u8 47), .lit (.int .u8 59), .lit (.int .u8 36), .lit (.int .u8 45), .lit (.int .u8 43), .lit (.int .u8 51), .lit (.int .u8 22), .lit (.int .u8 53), .lit (.int .u8 39), .lit (.int .u8 33), .lit (.int .u8 30), .lit (.int .u8 24), .lit (.int .u8 18), .lit (.int .u8 12), .lit (.int .u8 5), .lit (.int .u8 63), .lit (.int .u8 55), .lit (.int .u8 48), .lit (.int .u8 27), .lit (.int .u8 60), .lit (.int .u8 41), .lit (.int .u8 37), .lit (.int .u8 16), .lit (.int .u8 46), .lit (.int .u8 35), .lit (.int .u8 44), .lit (.int .u8 21), .lit (.int .u8 52), .lit (.int .u8 32), .lit (.int .u8 23), .lit (.int .u8 11), .lit (.int .u8 54), .lit (.int .u8 26), .lit (.int .u8 40), .lit (.int .u8 15), .lit (.int .u8 34), .lit (.int .u8 20), .lit (.int .u8 31), .lit (.int .u8 10), .lit (.int .u8 25), .lit (.int .u8 14), .lit (.int .u8 19), .lit (.int .u8 9), .lit (.int .u8 13), .lit (.int .u8 8), .lit (.int .u8 7), .lit (.int .u8 6)]

/-- 'outpostlaw04.LfsrBits': WHATEVER THE INPUT: true; the input reads as it did. -/
def lfsrBitsSpec : ChangeSpec := { name := "lfsrBits", fn := fun _ => fun
  | [d1, d2, d3] => { results := [.lit (.bool true)], args := [d1, d2, d3] }
  | _ => none }
def lfsrBitsRow : OpenClaim := { program := "ytknkkoemghceeaadoor", sum := "a7289346e4eb60e897c02800e7705fbdfe02501bb78e5ba1b6a50d182f757bd1", func := "outpost/outpostlaw04.LfsrBits", spec := "lfsrBits", unfollowed := true, recurses := true, named := ["math/bits.deBruijn64tab"], apart := false, laid := [("math/bits.deBruijn64tab", laid_math_bits_deBruijn64tab)] }
def LfsrBitsSaid : Prop := lfsrBitsRow.holds Tryd.pinned (OpenSpec.ofChange lfsrBitsSpec)

/-- ITS FALSE NEIGHBOUR: 'it returns false'. Refute it at one input. -/
def lfsrBitsWrong : ChangeSpec := { name := "lfsrBits", fn := fun _ => fun
  | [d1, d2, d3] => { results := [.lit (.bool false)], args := [d1, d2, d3] }
  | _ => none }
def LfsrBitsWrongFalsely : Prop := lfsrBitsRow.holds Tryd.pinned (OpenSpec.ofChange lfsrBitsWrong)

/-- 'outpostlaw04.LfsrJumps': WHATEVER THE INPUT: true; the input reads as it did. -/
def lfsrJumpsSpec : ChangeSpec := { name := "lfsrJumps", fn := fun _ => fun
  | [d1, d2, d3] => { results := [.lit (.bool true)], args := [d1, d2, d3] }
  | _ => none }
def lfsrJumpsRow : OpenClaim := { program := "ytknkkoemghceeaadoor", sum := "a7289346e4eb60e897c02800e7705fbdfe02501bb78e5ba1b6a50d182f757bd1", func := "outpost/outpostlaw04.LfsrJumps", spec := "lfsrJumps", unfollowed := true, recurses := true, named := ["math/bits.deBruijn64tab"], apart := false, laid := [("math/bits.deBruijn64tab", laid_math_bits_deBruijn64tab)] }
def LfsrJumpsSaid : Prop := lfsrJumpsRow.holds Tryd.pinned (OpenSpec.ofChange lfsrJumpsSpec)

/-- ITS FALSE NEIGHBOUR: 'it returns false'. Refute it at one input. -/
def lfsrJumpsWrong : ChangeSpec := { name := "lfsrJumps", fn := fun _ => fun
  | [d1, d2, d3] => { results := [.lit (.bool false)], args := [d1, d2, d3] }
  | _ => none }
def LfsrJumpsWrongFalsely : Prop := lfsrJumpsRow.holds Tryd.pinned (OpenSpec.ofChange lfsrJumpsWrong)

/-- 'outpostlaw04.LfsrChecks': WHATEVER THE INPUT: true; the input reads as it did. -/
def lfsrChecksSpec : ChangeSpec := { name := "lfsrChecks", fn := fun _ => fun
  | [d] => { results := [.lit (.bool true)], args := [d] }
  | _ => none }
def lfsrChecksRow : OpenClaim := { program := "ytknkkoemghceeaadoor", sum := "a7289346e4eb60e897c02800e7705fbdfe02501bb78e5ba1b6a50d182f757bd1", func := "outpost/outpostlaw04.LfsrChecks", spec := "lfsrChecks", unfollowed := true, recurses := true, named := ["math/bits.deBruijn64tab"], apart := false, laid := [("math/bits.deBruijn64tab", laid_math_bits_deBruijn64tab)] }
def LfsrChecksSaid : Prop := lfsrChecksRow.holds Tryd.pinned (OpenSpec.ofChange lfsrChecksSpec)

/-- ITS FALSE NEIGHBOUR: 'it returns false'. Refute it at one input. -/
def lfsrChecksWrong : ChangeSpec := { name := "lfsrChecks", fn := fun _ => fun
  | [d] => { results := [.lit (.bool false)], args := [d] }
  | _ => none }
def LfsrChecksWrongFalsely : Prop := lfsrChecksRow.holds Tryd.pinned (OpenSpec.ofChange lfsrChecksWrong)

/-- 'outpostlaw04.LfsrRuns': WHATEVER THE INPUT: true; the input reads as it did. -/
def lfsrRunsSpec : ChangeSpec := { name := "lfsrRuns", fn := fun _ => fun
  | [d1, d2] => { results := [.lit (.bool true)], args := [d1, d2] }
  | _ => none }
def lfsrRunsRow : OpenClaim := { program := "ytknkkoemghceeaadoor", sum := "a7289346e4eb60e897c02800e7705fbdfe02501bb78e5ba1b6a50d182f757bd1", func := "outpost/outpostlaw04.LfsrRuns", spec := "lfsrRuns", unfollowed := true, recurses := true, named := ["math/bits.deBruijn64tab"], apart := false, laid := [("math/bits.deBruijn64tab", laid_math_bits_deBruijn64tab)] }
def LfsrRunsSaid : Prop := lfsrRunsRow.holds Tryd.pinned (OpenSpec.ofChange lfsrRunsSpec)

/-- ITS FALSE NEIGHBOUR: 'it returns false'. Refute it at one input. -/
def lfsrRunsWrong : ChangeSpec := { name := "lfsrRuns", fn := fun _ => fun
  | [d1, d2] => { results := [.lit (.bool false)], args := [d1, d2] }
  | _ => none }
def LfsrRunsWrongFalsely : Prop := lfsrRunsRow.holds Tryd.pinned (OpenSpec.ofChange lfsrRunsWrong)

/-- 'outpostlaw04.LfsrNil': WHATEVER THE INPUT: true; the input reads as it did. -/
def lfsrNilSpec : ChangeSpec := { name := "lfsrNil", fn := fun _ => fun
  | [] => { results := [.lit (.bool true)], args := [] }
  | _ => none }
def lfsrNilRow : OpenClaim := { program := "ytknkkoemghceeaadoor", sum := "a7289346e4eb60e897c02800e7705fbdfe02501bb78e5ba1b6a50d182f757bd1", func := "outpost/outpostlaw04.LfsrNil", spec := "lfsrNil", unfollowed := true, recurses := true, named := ["math/bits.deBruijn64tab"], apart := false, laid := [("math/bits.deBruijn64tab", laid_math_bits_deBruijn64tab)] }
def LfsrNilSaid : Prop := lfsrNilRow.holds Tryd.pinned (OpenSpec.ofChange lfsrNilSpec)

/-- ITS FALSE NEIGHBOUR: 'it returns false'. Refute it at one input. -/
def lfsrNilWrong : ChangeSpec := { name := "lfsrNil", fn := fun _ => fun
  | [] => { results := [.lit (.bool false)], args := [] }
  | _ => none }
def LfsrNilWrongFalsely : Prop := lfsrNilRow.holds Tryd.pinned (OpenSpec.ofChange lfsrNilWrong)

/-- 'outpostlaw04.LfsrNamed': WHATEVER THE INPUT: true; the input reads as it did. -/
def lfsrNamedSpec : ChangeSpec := { name := "lfsrNamed", fn := fun _ => fun
  | [d] => { results := [.lit (.bool true)], args := [d] }
  | _ => none }
def lfsrNamedRow : OpenClaim := { program := "ytknkkoemghceeaadoor", sum := "a7289346e4eb60e897c02800e7705fbdfe02501bb78e5ba1b6a50d182f757bd1", func := "outpost/outpostlaw04.LfsrNamed", spec := "lfsrNamed", unfollowed := true, recurses := true, named := ["math/bits.deBruijn64tab"], apart := false, laid := [("math/bits.deBruijn64tab", laid_math_bits_deBruijn64tab)] }
def LfsrNamedSaid : Prop := lfsrNamedRow.holds Tryd.pinned (OpenSpec.ofChange lfsrNamedSpec)

/-- ITS FALSE NEIGHBOUR: 'it returns false'. Refute it at one input. -/
def lfsrNamedWrong : ChangeSpec := { name := "lfsrNamed", fn := fun _ => fun
  | [d] => { results := [.lit (.bool false)], args := [d] }
  | _ => none }
def LfsrNamedWrongFalsely : Prop := lfsrNamedRow.holds Tryd.pinned (OpenSpec.ofChange lfsrNamedWrong)

/-- 'outpostlaw04.LfsrWhitens': WHATEVER THE INPUT: true; the input reads as it did. -/
def lfsrWhitensSpec : ChangeSpec := { name := "lfsrWhitens", fn := fun _ => fun
  | [d1, d2] => { results := [.lit (.bool true)], args := [d1, d2] }
  | _ => none }
def lfsrWhitensRow : OpenClaim := { program := "ytknkkoemghceeaadoor", sum := "a7289346e4eb60e897c02800e7705fbdfe02501bb78e5ba1b6a50d182f757bd1", func := "outpost/outpostlaw04.LfsrWhitens", spec := "lfsrWhitens", unfollowed := true, recurses := true, named := ["math/bits.deBruijn64tab"], apart := false, laid := [("math/bits.deBruijn64tab", laid_math_bits_deBruijn64tab)] }
def LfsrWhitensSaid : Prop := lfsrWhitensRow.holds Tryd.pinned (OpenSpec.ofChange lfsrWhitensSpec)

/-- ITS FALSE NEIGHBOUR: 'it returns false'. Refute it at one input. -/
def lfsrWhitensWrong : ChangeSpec := { name := "lfsrWhitens", fn := fun _ => fun
  | [d1, d2] => { results := [.lit (.bool false)], args := [d1, d2] }
  | _ => none }
def LfsrWhitensWrongFalsely : Prop := lfsrWhitensRow.holds Tryd.pinned (OpenSpec.ofChange lfsrWhitensWrong)

/-- 'outpostlaw04.LfsrTurns': WHATEVER THE INPUT: true; the input reads as it did. -/
def lfsrTurnsSpec : ChangeSpec := { name := "lfsrTurns", fn := fun _ => fun
  | [d1, d2, d3] => { results := [.lit (.bool true)], args := [d1, d2, d3] }
  | _ => none }
def lfsrTurnsRow : OpenClaim := { program := "ytknkkoemghceeaadoor", sum := "a7289346e4eb60e897c02800e7705fbdfe02501bb78e5ba1b6a50d182f757bd1", func := "outpost/outpostlaw04.LfsrTurns", spec := "lfsrTurns", unfollowed := true, recurses := true, named := ["math/bits.deBruijn64tab"], apart := false, laid := [("math/bits.deBruijn64tab", laid_math_bits_deBruijn64tab)] }
def LfsrTurnsSaid : Prop := lfsrTurnsRow.holds Tryd.pinned (OpenSpec.ofChange lfsrTurnsSpec)

/-- ITS FALSE NEIGHBOUR: 'it returns false'. Refute it at one input. -/
def lfsrTurnsWrong : ChangeSpec := { name := "lfsrTurns", fn := fun _ => fun
  | [d1, d2, d3] => { results := [.lit (.bool false)], args := [d1, d2, d3] }
  | _ => none }
def LfsrTurnsWrongFalsely : Prop := lfsrTurnsRow.holds Tryd.pinned (OpenSpec.ofChange lfsrTurnsWrong)

/-- 'outpostlaw04.LfsrBack': WHATEVER THE INPUT: true; the input reads as it did. -/
def lfsrBackSpec : ChangeSpec := { name := "lfsrBack", fn := fun _ => fun
  | [d1, d2, d3] => { results := [.lit (.bool true)], args := [d1, d2, d3] }
  | _ => none }
def lfsrBackRow : OpenClaim := { program := "ytknkkoemghceeaadoor", sum := "a7289346e4eb60e897c02800e7705fbdfe02501bb78e5ba1b6a50d182f757bd1", func := "outpost/outpostlaw04.LfsrBack", spec := "lfsrBack", unfollowed := true, recurses := true, named := ["math/bits.deBruijn64tab"], apart := false, laid := [("math/bits.deBruijn64tab", laid_math_bits_deBruijn64tab)] }
def LfsrBackSaid : Prop := lfsrBackRow.holds Tryd.pinned (OpenSpec.ofChange lfsrBackSpec)

/-- ITS FALSE NEIGHBOUR: 'it returns false'. Refute it at one input. -/
def lfsrBackWrong : ChangeSpec := { name := "lfsrBack", fn := fun _ => fun
  | [d1, d2, d3] => { results := [.lit (.bool false)], args := [d1, d2, d3] }
  | _ => none }
def LfsrBackWrongFalsely : Prop := lfsrBackRow.holds Tryd.pinned (OpenSpec.ofChange lfsrBackWrong)

/-- 'outpostlaw04.LfsrShortest': WHATEVER THE INPUT: true; the input reads as it did. -/
def lfsrShortestSpec : ChangeSpec := { name := "lfsrShortest", fn := fun _ => fun
  | [d] => { results := [.lit (.bool true)], args := [d] }
  | _ => none }
def lfsrShortestRow : OpenClaim := { program := "ytknkkoemghceeaadoor", sum := "a7289346e4eb60e897c02800e7705fbdfe02501bb78e5ba1b6a50d182f757bd1", func := "outpost/outpostlaw04.LfsrShortest", spec := "lfsrShortest", unfollowed := true, recurses := true, named := ["math/bits.deBruijn64tab"], apart := false, laid := [("math/bits.deBruijn64tab", laid_math_bits_deBruijn64tab)] }
def LfsrShortestSaid : Prop := lfsrShortestRow.holds Tryd.pinned (OpenSpec.ofChange lfsrShortestSpec)

/-- ITS FALSE NEIGHBOUR: 'it returns false'. Refute it at one input. -/
def lfsrShortestWrong : ChangeSpec := { name := "lfsrShortest", fn := fun _ => fun
  | [d] => { results := [.lit (.bool false)], args := [d] }
  | _ => none }
def LfsrShortestWrongFalsely : Prop := lfsrShortestRow.holds Tryd.pinned (OpenSpec.ofChange lfsrShortestWrong)

/-- 'outpostlaw04.LfsrGrows': WHATEVER THE INPUT: true; the input reads as it did. -/
def lfsrGrowsSpec : ChangeSpec := { name := "lfsrGrows", fn := fun _ => fun
  | [d] => { results := [.lit (.bool true)], args := [d] }
  | _ => none }
def lfsrGrowsRow : OpenClaim := { program := "ytknkkoemghceeaadoor", sum := "a7289346e4eb60e897c02800e7705fbdfe02501bb78e5ba1b6a50d182f757bd1", func := "outpost/outpostlaw04.LfsrGrows", spec := "lfsrGrows", unfollowed := true, recurses := true, named := ["math/bits.deBruijn64tab"], apart := false, laid := [("math/bits.deBruijn64tab", laid_math_bits_deBruijn64tab)] }
def LfsrGrowsSaid : Prop := lfsrGrowsRow.holds Tryd.pinned (OpenSpec.ofChange lfsrGrowsSpec)

/-- ITS FALSE NEIGHBOUR: 'it returns false'. Refute it at one input. -/
def lfsrGrowsWrong : ChangeSpec := { name := "lfsrGrows", fn := fun _ => fun
  | [d] => { results := [.lit (.bool false)], args := [d] }
  | _ => none }
def LfsrGrowsWrongFalsely : Prop := lfsrGrowsRow.holds Tryd.pinned (OpenSpec.ofChange lfsrGrowsWrong)

/-- 'outpostlaw04.LfsrFound': WHATEVER THE INPUT: true; the input reads as it did. -/
def lfsrFoundSpec : ChangeSpec := { name := "lfsrFound", fn := fun _ => fun
  | [d1, d2] => { results := [.lit (.bool true)], args := [d1, d2] }
  | _ => none }
def lfsrFoundRow : OpenClaim := { program := "ytknkkoemghceeaadoor", sum := "a7289346e4eb60e897c02800e7705fbdfe02501bb78e5ba1b6a50d182f757bd1", func := "outpost/outpostlaw04.LfsrFound", spec := "lfsrFound", unfollowed := true, recurses := true, named := ["math/bits.deBruijn64tab"], apart := false, laid := [("math/bits.deBruijn64tab", laid_math_bits_deBruijn64tab)] }
def LfsrFoundSaid : Prop := lfsrFoundRow.holds Tryd.pinned (OpenSpec.ofChange lfsrFoundSpec)

/-- ITS FALSE NEIGHBOUR: 'it returns false'. Refute it at one input. -/
def lfsrFoundWrong : ChangeSpec := { name := "lfsrFound", fn := fun _ => fun
  | [d1, d2] => { results := [.lit (.bool false)], args := [d1, d2] }
  | _ => none }
def LfsrFoundWrongFalsely : Prop := lfsrFoundRow.holds Tryd.pinned (OpenSpec.ofChange lfsrFoundWrong)

/-- 'outpostlaw04.LfsrPeriods': WHATEVER THE INPUT: true; the input reads as it did. -/
def lfsrPeriodsSpec : ChangeSpec := { name := "lfsrPeriods", fn := fun _ => fun
  | [d] => { results := [.lit (.bool true)], args := [d] }
  | _ => none }
def lfsrPeriodsRow : OpenClaim := { program := "ytknkkoemghceeaadoor", sum := "a7289346e4eb60e897c02800e7705fbdfe02501bb78e5ba1b6a50d182f757bd1", func := "outpost/outpostlaw04.LfsrPeriods", spec := "lfsrPeriods", unfollowed := true, recurses := true, named := ["math/bits.deBruijn64tab"], apart := false, laid := [("math/bits.deBruijn64tab", laid_math_bits_deBruijn64tab)] }
def LfsrPeriodsSaid : Prop := lfsrPeriodsRow.holds Tryd.pinned (OpenSpec.ofChange lfsrPeriodsSpec)

/-- ITS FALSE NEIGHBOUR: 'it returns false'. Refute it at one input. -/
def lfsrPeriodsWrong : ChangeSpec := { name := "lfsrPeriods", fn := fun _ => fun
  | [d] => { results := [.lit (.bool false)], args := [d] }
  | _ => none }
def LfsrPeriodsWrongFalsely : Prop := lfsrPeriodsRow.holds Tryd.pinned (OpenSpec.ofChange lfsrPeriodsWrong)

/-- 'outpostlaw04.LfsrGreatest': WHATEVER THE INPUT: true; the input reads as it did. -/
def lfsrGreatestSpec : ChangeSpec := { name := "lfsrGreatest", fn := fun _ => fun
  | [d1, d2] => { results := [.lit (.bool true)], args := [d1, d2] }
  | _ => none }
def lfsrGreatestRow : OpenClaim := { program := "ytknkkoemghceeaadoor", sum := "a7289346e4eb60e897c02800e7705fbdfe02501bb78e5ba1b6a50d182f757bd1", func := "outpost/outpostlaw04.LfsrGreatest", spec := "lfsrGreatest", unfollowed := true, recurses := true, named := ["math/bits.deBruijn64tab"], apart := false, laid := [("math/bits.deBruijn64tab", laid_math_bits_deBruijn64tab)] }
def LfsrGreatestSaid : Prop := lfsrGreatestRow.holds Tryd.pinned (OpenSpec.ofChange lfsrGreatestSpec)

/-- ITS FALSE NEIGHBOUR: 'it returns false'. Refute it at one input. -/
def lfsrGreatestWrong : ChangeSpec := { name := "lfsrGreatest", fn := fun _ => fun
  | [d1, d2] => { results := [.lit (.bool false)], args := [d1, d2] }
  | _ => none }
def LfsrGreatestWrongFalsely : Prop := lfsrGreatestRow.holds Tryd.pinned (OpenSpec.ofChange lfsrGreatestWrong)

/- THE SECOND FORM. 'bulk': how many values and letters a reading holds, each counted each time it is reached (what is shared counts as often as it is met; a slice's spare places count too). A statement '..UptoSaid' is the law's where the arguments, and the package variables that the reading takes, are together of bulk at most 1048576: NARROWER than '..Said'. Prove '..Said' where nothing that the law and all that it calls make is longer than what came in: it says more and counts as full. Else prove '..UptoSaid'. A law counts once. -/
mutual
def uptoBulk {H : Type} : DataW H → Nat
  | .lit (.string bytes) => bytes.length + 1
  | .lit _ => 1
  | .nil => 1
  | .ptr d => uptoBulk d + 1
  | .slice elems spare => uptoBulkAll elems + uptoBulkAll spare + 1
  | .agg parts => uptoBulkAll parts + 1
  | .iface _ d => uptoBulk d + 1
  | .map entries => uptoBulkEntries entries + 1
  | .held _ => 1
def uptoBulkAll {H : Type} : List (DataW H) → Nat
  | [] => 0
  | d :: r => uptoBulk d + uptoBulkAll r
def uptoBulkEntries {H : Type} : List (Lit × DataW H) → Nat
  | [] => 0
  | x :: r => uptoBulkEntry x + uptoBulkEntries r
def uptoBulkEntry {H : Type} : Lit × DataW H → Nat
  | (.string bytes, d) => bytes.length + uptoBulk d + 1
  | (_, d) => uptoBulk d + 1
 end
def uptoSmall : (H : Type) → List (DataW H) → Bool := fun _ ds => decide (uptoBulkAll ds ≤ 1048576)
def OpenSpec.upto (s : _root_.Go.ChangeSpec) : _root_.Go.OpenSpec := { _root_.Go.OpenSpec.ofChange s with cond := some uptoSmall }

/-- 'outpostlaw04.LfsrBits', WHERE WHAT IT READS IS OF BULK AT MOST 1048576: true; the input reads as it did. -/
def lfsrBitsUptoRow : OpenClaim := { program := "ytknkkoemghceeaadoor", sum := "a7289346e4eb60e897c02800e7705fbdfe02501bb78e5ba1b6a50d182f757bd1", func := "outpost/outpostlaw04.LfsrBits", spec := "lfsrBits", unfollowed := true, recurses := true, named := ["math/bits.deBruijn64tab"], apart := false, laid := [("math/bits.deBruijn64tab", laid_math_bits_deBruijn64tab)], narrowed := true }
def LfsrBitsUptoSaid : Prop := lfsrBitsUptoRow.holds Tryd.pinned (OpenSpec.upto lfsrBitsSpec)

/-- 'outpostlaw04.LfsrJumps', WHERE WHAT IT READS IS OF BULK AT MOST 1048576: true; the input reads as it did. -/
def lfsrJumpsUptoRow : OpenClaim := { program := "ytknkkoemghceeaadoor", sum := "a7289346e4eb60e897c02800e7705fbdfe02501bb78e5ba1b6a50d182f757bd1", func := "outpost/outpostlaw04.LfsrJumps", spec := "lfsrJumps", unfollowed := true, recurses := true, named := ["math/bits.deBruijn64tab"], apart := false, laid := [("math/bits.deBruijn64tab", laid_math_bits_deBruijn64tab)], narrowed := true }
def LfsrJumpsUptoSaid : Prop := lfsrJumpsUptoRow.holds Tryd.pinned (OpenSpec.upto lfsrJumpsSpec)

/-- 'outpostlaw04.LfsrChecks', WHERE WHAT IT READS IS OF BULK AT MOST 1048576: true; the input reads as it did. -/
def lfsrChecksUptoRow : OpenClaim := { program := "ytknkkoemghceeaadoor", sum := "a7289346e4eb60e897c02800e7705fbdfe02501bb78e5ba1b6a50d182f757bd1", func := "outpost/outpostlaw04.LfsrChecks", spec := "lfsrChecks", unfollowed := true, recurses := true, named := ["math/bits.deBruijn64tab"], apart := false, laid := [("math/bits.deBruijn64tab", laid_math_bits_deBruijn64tab)], narrowed := true }
def LfsrChecksUptoSaid : Prop := lfsrChecksUptoRow.holds Tryd.pinned (OpenSpec.upto lfsrChecksSpec)

/-- 'outpostlaw04.LfsrRuns', WHERE WHAT IT READS IS OF BULK AT MOST 1048576: true; the input reads as it did. -/
def lfsrRunsUptoRow : OpenClaim := { program := "ytknkkoemghceeaadoor", sum := "a7289346e4eb60e897c02800e7705fbdfe02501bb78e5ba1b6a50d182f757bd1", func := "outpost/outpostlaw04.LfsrRuns", spec := "lfsrRuns", unfollowed := true, recurses := true, named := ["math/bits.deBruijn64tab"], apart := false, laid := [("math/bits.deBruijn64tab", laid_math_bits_deBruijn64tab)], narrowed := true }
def LfsrRunsUptoSaid : Prop := lfsrRunsUptoRow.holds Tryd.pinned (OpenSpec.upto lfsrRunsSpec)

/-- 'outpostlaw04.LfsrNil', WHERE WHAT IT READS IS OF BULK AT MOST 1048576: true; the input reads as it did. -/
def lfsrNilUptoRow : OpenClaim := { program := "ytknkkoemghceeaadoor", sum := "a7289346e4eb60e897c02800e7705fbdfe02501bb78e5ba1b6a50d182f757bd1", func := "outpost/outpostlaw04.LfsrNil", spec := "lfsrNil", unfollowed := true, recurses := true, named := ["math/bits.deBruijn64tab"], apart := false, laid := [("math/bits.deBruijn64tab", laid_math_bits_deBruijn64tab)], narrowed := true }
def LfsrNilUptoSaid : Prop := lfsrNilUptoRow.holds Tryd.pinned (OpenSpec.upto lfsrNilSpec)

/-- 'outpostlaw04.LfsrNamed', WHERE WHAT IT READS IS OF BULK AT MOST 1048576: true; the input reads as it did. -/
def lfsrNamedUptoRow : OpenClaim := { program := "ytknkkoemghceeaadoor", sum := "a7289346e4eb60e897c02800e7705fbdfe02501bb78e5ba1b6a50d182f757bd1", func := "outpost/outpostlaw04.LfsrNamed", spec := "lfsrNamed", unfollowed := true, recurses := true, named := ["math/bits.deBruijn64tab"], apart := false, laid := [("math/bits.deBruijn64tab", laid_math_bits_deBruijn64tab)], narrowed := true }
def LfsrNamedUptoSaid : Prop := lfsrNamedUptoRow.holds Tryd.pinned (OpenSpec.upto lfsrNamedSpec)

/-- 'outpostlaw04.LfsrWhitens', WHERE WHAT IT READS IS OF BULK AT MOST 1048576: true; the input reads as it did. -/
def lfsrWhitensUptoRow : OpenClaim := { program := "ytknkkoemghceeaadoor", sum := "a7289346e4eb60e897c02800e7705fbdfe02501bb78e5ba1b6a50d182f757bd1", func := "outpost/outpostlaw04.LfsrWhitens", spec := "lfsrWhitens", unfollowed := true, recurses := true, named := ["math/bits.deBruijn64tab"], apart := false, laid := [("math/bits.deBruijn64tab", laid_math_bits_deBruijn64tab)], narrowed := true }
def LfsrWhitensUptoSaid : Prop := lfsrWhitensUptoRow.holds Tryd.pinned (OpenSpec.upto lfsrWhitensSpec)

/-- 'outpostlaw04.LfsrTurns', WHERE WHAT IT READS IS OF BULK AT MOST 1048576: true; the input reads as it did. -/
def lfsrTurnsUptoRow : OpenClaim := { program := "ytknkkoemghceeaadoor", sum := "a7289346e4eb60e897c02800e7705fbdfe02501bb78e5ba1b6a50d182f757bd1", func := "outpost/outpostlaw04.LfsrTurns", spec := "lfsrTurns", unfollowed := true, recurses := true, named := ["math/bits.deBruijn64tab"], apart := false, laid := [("math/bits.deBruijn64tab", laid_math_bits_deBruijn64tab)], narrowed := true }
def LfsrTurnsUptoSaid : Prop := lfsrTurnsUptoRow.holds Tryd.pinned (OpenSpec.upto lfsrTurnsSpec)

/-- 'outpostlaw04.LfsrBack', WHERE WHAT IT READS IS OF BULK AT MOST 1048576: true; the input reads as it did. -/
def lfsrBackUptoRow : OpenClaim := { program := "ytknkkoemghceeaadoor", sum := "a7289346e4eb60e897c02800e7705fbdfe02501bb78e5ba1b6a50d182f757bd1", func := "outpost/outpostlaw04.LfsrBack", spec := "lfsrBack", unfollowed := true, recurses := true, named := ["math/bits.deBruijn64tab"], apart := false, laid := [("math/bits.deBruijn64tab", laid_math_bits_deBruijn64tab)], narrowed := true }
def LfsrBackUptoSaid : Prop := lfsrBackUptoRow.holds Tryd.pinned (OpenSpec.upto lfsrBackSpec)

/-- 'outpostlaw04.LfsrShortest', WHERE WHAT IT READS IS OF BULK AT MOST 1048576: true; the input reads as it did. -/
def lfsrShortestUptoRow : OpenClaim := { program := "ytknkkoemghceeaadoor", sum := "a7289346e4eb60e897c02800e7705fbdfe02501bb78e5ba1b6a50d182f757bd1", func := "outpost/outpostlaw04.LfsrShortest", spec := "lfsrShortest", unfollowed := true, recurses := true, named := ["math/bits.deBruijn64tab"], apart := false, laid := [("math/bits.deBruijn64tab", laid_math_bits_deBruijn64tab)], narrowed := true }
def LfsrShortestUptoSaid : Prop := lfsrShortestUptoRow.holds Tryd.pinned (OpenSpec.upto lfsrShortestSpec)

/-- 'outpostlaw04.LfsrGrows', WHERE WHAT IT READS IS OF BULK AT MOST 1048576: true; the input reads as it did. -/
def lfsrGrowsUptoRow : OpenClaim := { program := "ytknkkoemghceeaadoor", sum := "a7289346e4eb60e897c02800e7705fbdfe02501bb78e5ba1b6a50d182f757bd1", func := "outpost/outpostlaw04.LfsrGrows", spec := "lfsrGrows", unfollowed := true, recurses := true, named := ["math/bits.deBruijn64tab"], apart := false, laid := [("math/bits.deBruijn64tab", laid_math_bits_deBruijn64tab)], narrowed := true }
def LfsrGrowsUptoSaid : Prop := lfsrGrowsUptoRow.holds Tryd.pinned (OpenSpec.upto lfsrGrowsSpec)

/-- 'outpostlaw04.LfsrFound', WHERE WHAT IT READS IS OF BULK AT MOST 1048576: true; the input reads as it did. -/
def lfsrFoundUptoRow : OpenClaim := { program := "ytknkkoemghceeaadoor", sum := "a7289346e4eb60e897c02800e7705fbdfe02501bb78e5ba1b6a50d182f757bd1", func := "outpost/outpostlaw04.LfsrFound", spec := "lfsrFound", unfollowed := true, recurses := true, named := ["math/bits.deBruijn64tab"], apart := false, laid := [("math/bits.deBruijn64tab", laid_math_bits_deBruijn64tab)], narrowed := true }
def LfsrFoundUptoSaid : Prop := lfsrFoundUptoRow.holds Tryd.pinned (OpenSpec.upto lfsrFoundSpec)

/-- 'outpostlaw04.LfsrPeriods', WHERE WHAT IT READS IS OF BULK AT MOST 1048576: true; the input reads as it did. -/
def lfsrPeriodsUptoRow : OpenClaim := { program := "ytknkkoemghceeaadoor", sum := "a7289346e4eb60e897c02800e7705fbdfe02501bb78e5ba1b6a50d182f757bd1", func := "outpost/outpostlaw04.LfsrPeriods", spec := "lfsrPeriods", unfollowed := true, recurses := true, named := ["math/bits.deBruijn64tab"], apart := false, laid := [("math/bits.deBruijn64tab", laid_math_bits_deBruijn64tab)], narrowed := true }
def LfsrPeriodsUptoSaid : Prop := lfsrPeriodsUptoRow.holds Tryd.pinned (OpenSpec.upto lfsrPeriodsSpec)

/-- 'outpostlaw04.LfsrGreatest', WHERE WHAT IT READS IS OF BULK AT MOST 1048576: true; the input reads as it did. -/
def lfsrGreatestUptoRow : OpenClaim := { program := "ytknkkoemghceeaadoor", sum := "a7289346e4eb60e897c02800e7705fbdfe02501bb78e5ba1b6a50d182f757bd1", func := "outpost/outpostlaw04.LfsrGreatest", spec := "lfsrGreatest", unfollowed := true, recurses := true, named := ["math/bits.deBruijn64tab"], apart := false, laid := [("math/bits.deBruijn64tab", laid_math_bits_deBruijn64tab)], narrowed := true }
def LfsrGreatestUptoSaid : Prop := lfsrGreatestUptoRow.holds Tryd.pinned (OpenSpec.upto lfsrGreatestSpec)

end Rows
end Go.Proofs.YtknkkoemghceeaaDoor
