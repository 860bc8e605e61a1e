/-
  No cell of these rows narrows 'for every input' (looked for: loops, veiled, ifaces, maps, wideKeys, modest, calm, conditions, laid).
  DERIVED. THE GIVEN ROWS OF THIS SEAT. 8 by the template 'for every input the law returns true; each argument reads behind the call as it read before'; 0 by the template 'total and deterministic' (their statements: YtlbfndibgojbiaaTotals.lean).
  GIVEN WITH THE SEED: the statements are not yours to turn. If you find one false, say at which input.
  Laid BY PROGRAM, IN A SANDBOX (cutbox-rows.mjs): the forced cells as the released guide's own fill.sh prints them over the translation 45045a6729d0645a… (all of the seat's roots in one cut). By AI agents, Wed Nov 11 2026. No macro, syntax, notation, axiom, sorry.
-/
import Derived.Test.YtlbfndibgojbiaaChecked
import GoSem.Claim
import GoSem.ClaimJoined
import GoSem.ClaimMapViews
import Derived.JoinedTies
import Derived.KernelRfl
namespace Go.Proofs.Ytlbfndibgojbiaa
/- THE CELL 'sum', in the pinned program and in every row, IS THE sha256 OF THE DUMP (.gsa) THAT YtlbfndibgojbiaaProg.lean LOADS. Nothing in Lean hashes anything: it is a label: what it is worth is what the hold of that sum in a sandbox is worth. -/
noncomputable def Try.pinned : Pinned := { name := "ytlbfndibgojbiaa", sum := "45045a6729d0645a252a9131c39d4b802cd9d3f6cf923d7eebc50bb6c55ae167", checked := Try.checked }
namespace Rows
def none {H : Type} : Left H := { results := [], args := [] }

/-- 'outpostlaw25.ModemSymbols': WHATEVER THE INPUT: true; the input reads as it did. -/
def modemSymbolsSpec : ChangeSpec := { name := "modemSymbols", fn := fun _ => fun
  | [d1, d2] => { results := [.lit (.bool true)], args := [d1, d2] }
  | _ => none }
def modemSymbolsRow : OpenClaim := { program := "ytlbfndibgojbiaa", sum := "45045a6729d0645a252a9131c39d4b802cd9d3f6cf923d7eebc50bb6c55ae167", func := "outpost/outpostlaw25.ModemSymbols", spec := "modemSymbols", unfollowed := true, recurses := true, apart := false }
def ModemSymbolsSaid : Prop := modemSymbolsRow.holds Try.pinned (OpenSpec.ofChange modemSymbolsSpec)

/-- ITS FALSE NEIGHBOUR: 'it returns false'. Refute it at one input. -/
def modemSymbolsWrong : ChangeSpec := { name := "modemSymbols", fn := fun _ => fun
  | [d1, d2] => { results := [.lit (.bool false)], args := [d1, d2] }
  | _ => none }
def ModemSymbolsWrongFalsely : Prop := modemSymbolsRow.holds Try.pinned (OpenSpec.ofChange modemSymbolsWrong)

/-- 'outpostlaw25.ModemChecks': WHATEVER THE INPUT: true; the input reads as it did. -/
def modemChecksSpec : ChangeSpec := { name := "modemChecks", fn := fun _ => fun
  | [d] => { results := [.lit (.bool true)], args := [d] }
  | _ => none }
def modemChecksRow : OpenClaim := { program := "ytlbfndibgojbiaa", sum := "45045a6729d0645a252a9131c39d4b802cd9d3f6cf923d7eebc50bb6c55ae167", func := "outpost/outpostlaw25.ModemChecks", spec := "modemChecks", unfollowed := true, recurses := true, apart := false }
def ModemChecksSaid : Prop := modemChecksRow.holds Try.pinned (OpenSpec.ofChange modemChecksSpec)

/-- ITS FALSE NEIGHBOUR: 'it returns false'. Refute it at one input. -/
def modemChecksWrong : ChangeSpec := { name := "modemChecks", fn := fun _ => fun
  | [d] => { results := [.lit (.bool false)], args := [d] }
  | _ => none }
def ModemChecksWrongFalsely : Prop := modemChecksRow.holds Try.pinned (OpenSpec.ofChange modemChecksWrong)

/-- 'outpostlaw25.ModemLevels': WHATEVER THE INPUT: true; the input reads as it did. -/
def modemLevelsSpec : ChangeSpec := { name := "modemLevels", fn := fun _ => fun
  | [d1, d2] => { results := [.lit (.bool true)], args := [d1, d2] }
  | _ => none }
def modemLevelsRow : OpenClaim := { program := "ytlbfndibgojbiaa", sum := "45045a6729d0645a252a9131c39d4b802cd9d3f6cf923d7eebc50bb6c55ae167", func := "outpost/outpostlaw25.ModemLevels", spec := "modemLevels", unfollowed := true, recurses := true, apart := false }
def ModemLevelsSaid : Prop := modemLevelsRow.holds Try.pinned (OpenSpec.ofChange modemLevelsSpec)

/-- ITS FALSE NEIGHBOUR: 'it returns false'. Refute it at one input. -/
def modemLevelsWrong : ChangeSpec := { name := "modemLevels", fn := fun _ => fun
  | [d1, d2] => { results := [.lit (.bool false)], args := [d1, d2] }
  | _ => none }
def ModemLevelsWrongFalsely : Prop := modemLevelsRow.holds Try.pinned (OpenSpec.ofChange modemLevelsWrong)

/-- 'outpostlaw25.ModemWindows': WHATEVER THE INPUT: true; the input reads as it did. -/
def modemWindowsSpec : ChangeSpec := { name := "modemWindows", fn := fun _ => fun
  | [d1, d2, d3] => { results := [.lit (.bool true)], args := [d1, d2, d3] }
  | _ => none }
def modemWindowsRow : OpenClaim := { program := "ytlbfndibgojbiaa", sum := "45045a6729d0645a252a9131c39d4b802cd9d3f6cf923d7eebc50bb6c55ae167", func := "outpost/outpostlaw25.ModemWindows", spec := "modemWindows", unfollowed := true, recurses := true, apart := false }
def ModemWindowsSaid : Prop := modemWindowsRow.holds Try.pinned (OpenSpec.ofChange modemWindowsSpec)

/-- ITS FALSE NEIGHBOUR: 'it returns false'. Refute it at one input. -/
def modemWindowsWrong : ChangeSpec := { name := "modemWindows", fn := fun _ => fun
  | [d1, d2, d3] => { results := [.lit (.bool false)], args := [d1, d2, d3] }
  | _ => none }
def ModemWindowsWrongFalsely : Prop := modemWindowsRow.holds Try.pinned (OpenSpec.ofChange modemWindowsWrong)

/-- 'outpostlaw25.ModemOneLevel': WHATEVER THE INPUT: true; the input reads as it did. -/
def modemOneLevelSpec : ChangeSpec := { name := "modemOneLevel", fn := fun _ => fun
  | [d1, d2, d3, d4] => { results := [.lit (.bool true)], args := [d1, d2, d3, d4] }
  | _ => none }
def modemOneLevelRow : OpenClaim := { program := "ytlbfndibgojbiaa", sum := "45045a6729d0645a252a9131c39d4b802cd9d3f6cf923d7eebc50bb6c55ae167", func := "outpost/outpostlaw25.ModemOneLevel", spec := "modemOneLevel", unfollowed := true, recurses := true, apart := false }
def ModemOneLevelSaid : Prop := modemOneLevelRow.holds Try.pinned (OpenSpec.ofChange modemOneLevelSpec)

/-- ITS FALSE NEIGHBOUR: 'it returns false'. Refute it at one input. -/
def modemOneLevelWrong : ChangeSpec := { name := "modemOneLevel", fn := fun _ => fun
  | [d1, d2, d3, d4] => { results := [.lit (.bool false)], args := [d1, d2, d3, d4] }
  | _ => none }
def ModemOneLevelWrongFalsely : Prop := modemOneLevelRow.holds Try.pinned (OpenSpec.ofChange modemOneLevelWrong)

/-- 'outpostlaw25.ModemSpreads': WHATEVER THE INPUT: true; the input reads as it did. -/
def modemSpreadsSpec : ChangeSpec := { name := "modemSpreads", fn := fun _ => fun
  | [d1, d2, d3] => { results := [.lit (.bool true)], args := [d1, d2, d3] }
  | _ => none }
def modemSpreadsRow : OpenClaim := { program := "ytlbfndibgojbiaa", sum := "45045a6729d0645a252a9131c39d4b802cd9d3f6cf923d7eebc50bb6c55ae167", func := "outpost/outpostlaw25.ModemSpreads", spec := "modemSpreads", unfollowed := true, recurses := true, apart := false }
def ModemSpreadsSaid : Prop := modemSpreadsRow.holds Try.pinned (OpenSpec.ofChange modemSpreadsSpec)

/-- ITS FALSE NEIGHBOUR: 'it returns false'. Refute it at one input. -/
def modemSpreadsWrong : ChangeSpec := { name := "modemSpreads", fn := fun _ => fun
  | [d1, d2, d3] => { results := [.lit (.bool false)], args := [d1, d2, d3] }
  | _ => none }
def ModemSpreadsWrongFalsely : Prop := modemSpreadsRow.holds Try.pinned (OpenSpec.ofChange modemSpreadsWrong)

/-- 'outpostlaw25.ModemOwn': WHATEVER THE INPUT: true; the input reads as it did. -/
def modemOwnSpec : ChangeSpec := { name := "modemOwn", fn := fun _ => fun
  | [d1, d2] => { results := [.lit (.bool true)], args := [d1, d2] }
  | _ => none }
def modemOwnRow : OpenClaim := { program := "ytlbfndibgojbiaa", sum := "45045a6729d0645a252a9131c39d4b802cd9d3f6cf923d7eebc50bb6c55ae167", func := "outpost/outpostlaw25.ModemOwn", spec := "modemOwn", unfollowed := true, recurses := true, apart := false }
def ModemOwnSaid : Prop := modemOwnRow.holds Try.pinned (OpenSpec.ofChange modemOwnSpec)

/-- ITS FALSE NEIGHBOUR: 'it returns false'. Refute it at one input. -/
def modemOwnWrong : ChangeSpec := { name := "modemOwn", fn := fun _ => fun
  | [d1, d2] => { results := [.lit (.bool false)], args := [d1, d2] }
  | _ => none }
def ModemOwnWrongFalsely : Prop := modemOwnRow.holds Try.pinned (OpenSpec.ofChange modemOwnWrong)

/-- 'outpostlaw25.ModemBack': WHATEVER THE INPUT: true; the input reads as it did. -/
def modemBackSpec : ChangeSpec := { name := "modemBack", fn := fun _ => fun
  | [d1, d2, d3] => { results := [.lit (.bool true)], args := [d1, d2, d3] }
  | _ => none }
def modemBackRow : OpenClaim := { program := "ytlbfndibgojbiaa", sum := "45045a6729d0645a252a9131c39d4b802cd9d3f6cf923d7eebc50bb6c55ae167", func := "outpost/outpostlaw25.ModemBack", spec := "modemBack", unfollowed := true, recurses := true, apart := false }
def ModemBackSaid : Prop := modemBackRow.holds Try.pinned (OpenSpec.ofChange modemBackSpec)

/-- ITS FALSE NEIGHBOUR: 'it returns false'. Refute it at one input. -/
def modemBackWrong : ChangeSpec := { name := "modemBack", fn := fun _ => fun
  | [d1, d2, d3] => { results := [.lit (.bool false)], args := [d1, d2, d3] }
  | _ => none }
def ModemBackWrongFalsely : Prop := modemBackRow.holds Try.pinned (OpenSpec.ofChange modemBackWrong)

/- THE SECOND FORM. 'bulk': how many values and letters a reading holds, each counted each time it is reached (what is shared counts as often as it is met; a slice's spare places count too). A statement '..UptoSaid' is the law's where the arguments, and the package variables that the reading takes, are together of bulk at most 1048576: NARROWER than '..Said'. Prove '..Said' where nothing that the law and all that it calls make is longer than what came in: it says more and counts as full. Else prove '..UptoSaid'. A law counts once. -/
mutual
def uptoBulk {H : Type} : DataW H → Nat
  | .lit (.string bytes) => bytes.length + 1
  | .lit _ => 1
  | .nil => 1
  | .ptr d => uptoBulk d + 1
  | .slice elems spare => uptoBulkAll elems + uptoBulkAll spare + 1
  | .agg parts => uptoBulkAll parts + 1
  | .iface _ d => uptoBulk d + 1
  | .map entries => uptoBulkEntries entries + 1
  | .held _ => 1
def uptoBulkAll {H : Type} : List (DataW H) → Nat
  | [] => 0
  | d :: r => uptoBulk d + uptoBulkAll r
def uptoBulkEntries {H : Type} : List (Lit × DataW H) → Nat
  | [] => 0
  | x :: r => uptoBulkEntry x + uptoBulkEntries r
def uptoBulkEntry {H : Type} : Lit × DataW H → Nat
  | (.string bytes, d) => bytes.length + uptoBulk d + 1
  | (_, d) => uptoBulk d + 1
 end
def uptoSmall : (H : Type) → List (DataW H) → Bool := fun _ ds => decide (uptoBulkAll ds ≤ 1048576)
def OpenSpec.upto (s : _root_.Go.ChangeSpec) : _root_.Go.OpenSpec := { _root_.Go.OpenSpec.ofChange s with cond := some uptoSmall }

/-- 'outpostlaw25.ModemSymbols', WHERE WHAT IT READS IS OF BULK AT MOST 1048576: true; the input reads as it did. -/
def modemSymbolsUptoRow : OpenClaim := { program := "ytlbfndibgojbiaa", sum := "45045a6729d0645a252a9131c39d4b802cd9d3f6cf923d7eebc50bb6c55ae167", func := "outpost/outpostlaw25.ModemSymbols", spec := "modemSymbols", unfollowed := true, recurses := true, apart := false, narrowed := true }
def ModemSymbolsUptoSaid : Prop := modemSymbolsUptoRow.holds Try.pinned (OpenSpec.upto modemSymbolsSpec)

/-- 'outpostlaw25.ModemChecks', WHERE WHAT IT READS IS OF BULK AT MOST 1048576: true; the input reads as it did. -/
def modemChecksUptoRow : OpenClaim := { program := "ytlbfndibgojbiaa", sum := "45045a6729d0645a252a9131c39d4b802cd9d3f6cf923d7eebc50bb6c55ae167", func := "outpost/outpostlaw25.ModemChecks", spec := "modemChecks", unfollowed := true, recurses := true, apart := false, narrowed := true }
def ModemChecksUptoSaid : Prop := modemChecksUptoRow.holds Try.pinned (OpenSpec.upto modemChecksSpec)

/-- 'outpostlaw25.ModemLevels', WHERE WHAT IT READS IS OF BULK AT MOST 1048576: true; the input reads as it did. -/
def modemLevelsUptoRow : OpenClaim := { program := "ytlbfndibgojbiaa", sum := "45045a6729d0645a252a9131c39d4b802cd9d3f6cf923d7eebc50bb6c55ae167", func := "outpost/outpostlaw25.ModemLevels", spec := "modemLevels", unfollowed := true, recurses := true, apart := false, narrowed := true }
def ModemLevelsUptoSaid : Prop := modemLevelsUptoRow.holds Try.pinned (OpenSpec.upto modemLevelsSpec)

/-- 'outpostlaw25.ModemWindows', WHERE WHAT IT READS IS OF BULK AT MOST 1048576: true; the input reads as it did. -/
def modemWindowsUptoRow : OpenClaim := { program := "ytlbfndibgojbiaa", sum := "45045a6729d0645a252a9131c39d4b802cd9d3f6cf923d7eebc50bb6c55ae167", func := "outpost/outpostlaw25.ModemWindows", spec := "modemWindows", unfollowed := true, recurses := true, apart := false, narrowed := true }
def ModemWindowsUptoSaid : Prop := modemWindowsUptoRow.holds Try.pinned (OpenSpec.upto modemWindowsSpec)

/-- 'outpostlaw25.ModemOneLevel', WHERE WHAT IT READS IS OF BULK AT MOST 1048576: true; the input reads as it did. -/
def modemOneLevelUptoRow : OpenClaim := { program := "ytlbfndibgojbiaa", sum := "45045a6729d0645a252a9131c39d4b802cd9d3f6cf923d7eebc50bb6c55ae167", func := "outpost/outpostlaw25.ModemOneLevel", spec := "modemOneLevel", unfollowed := true, recurses := true, apart := false, narrowed := true }
def ModemOneLevelUptoSaid : Prop := modemOneLevelUptoRow.holds Try.pinned (OpenSpec.upto modemOneLevelSpec)

/-- 'outpostlaw25.ModemSpreads', WHERE WHAT IT READS IS OF BULK AT MOST 1048576: true; the input reads as it did. -/
def modemSpreadsUptoRow : OpenClaim := { program := "ytlbfndibgojbiaa", sum := "45045a6729d0645a252a9131c39d4b802cd9d3f6cf923d7eebc50bb6c55ae167", func := "outpost/outpostlaw25.ModemSpreads", spec := "modemSpreads", unfollowed := true, recurses := true, apart := false, narrowed := true }
def ModemSpreadsUptoSaid : Prop := modemSpreadsUptoRow.holds Try.pinned (OpenSpec.upto modemSpreadsSpec)

/-- 'outpostlaw25.ModemOwn', WHERE WHAT IT READS IS OF BULK AT MOST 1048576: true; the input reads as it did. -/
def modemOwnUptoRow : OpenClaim := { program := "ytlbfndibgojbiaa", sum := "45045a6729d0645a252a9131c39d4b802cd9d3f6cf923d7eebc50bb6c55ae167", func := "outpost/outpostlaw25.ModemOwn", spec := "modemOwn", unfollowed := true, recurses := true, apart := false, narrowed := true }
def ModemOwnUptoSaid : Prop := modemOwnUptoRow.holds Try.pinned (OpenSpec.upto modemOwnSpec)

/-- 'outpostlaw25.ModemBack', WHERE WHAT IT READS IS OF BULK AT MOST 1048576: true; the input reads as it did. -/
def modemBackUptoRow : OpenClaim := { program := "ytlbfndibgojbiaa", sum := "45045a6729d0645a252a9131c39d4b802cd9d3f6cf923d7eebc50bb6c55ae167", func := "outpost/outpostlaw25.ModemBack", spec := "modemBack", unfollowed := true, recurses := true, apart := false, narrowed := true }
def ModemBackUptoSaid : Prop := modemBackUptoRow.holds Try.pinned (OpenSpec.upto modemBackSpec)

end Rows
end Go.Proofs.Ytlbfndibgojbiaa
