/-
  DERIVED. GIVEN WITH THE SEED: THE CARDS: each row of YtfjaohadjmigoaaDoorRows.lean that lists a variable, with what it lists TIED to the program's text (the seventh form; the later family's looks); each row that meets fmt, with fmt's text TOLD by the authors' own Lean function (tested against real Go, not proved from fmt's source: count such statements apart). THE CARD IS WHAT COUNTS. Prove the row's statement (the work); the ties are given (YtfjaohadjmigoaaDoorTie.lean); close each card by the builder's one call (the guide's Derived/Test/ToyasCard.lean, 'card_holds'). Laid BY PROGRAM, IN A SANDBOX (cutbox-door.mjs). By AI agents, Wed Nov 11 2026. No macro, syntax, notation, axiom, sorry.
-/
import Derived.Test.YtfjaohadjmigoaaDoorRows
import GoSem.ClaimSeven
namespace Go.Proofs.YtfjaohadjmigoaaDoor
namespace Rows

/-- THE TIED CARD OF 'outpostlaw05.CodeMirror'. -/
def codeMirrorCard : Claim7 := { stood := { row := codeMirrorRow, standIns := [], harness := (true, "d64a732c2938d1adffe12fc2486a974a7096c09657a436563967f31f80f97018"), looks := false }, kinds := [], alts := [], laidByText := true, laidKinds := [.data], laidTests := true, laidLooks := .later }
def CodeMirrorCardSaid : Prop := Claim7.holds Tryd.pinned (.plain (OpenSpec.ofChange codeMirrorSpec)) codeMirrorCard

/-- THE TIED CARD OF 'outpostlaw05.CodeTurns'. -/
def codeTurnsCard : Claim7 := { stood := { row := codeTurnsRow, standIns := [], harness := (true, "d64a732c2938d1adffe12fc2486a974a7096c09657a436563967f31f80f97018"), looks := false }, kinds := [], alts := [], laidByText := true, laidKinds := [.data], laidTests := true, laidLooks := .later }
def CodeTurnsCardSaid : Prop := Claim7.holds Tryd.pinned (.plain (OpenSpec.ofChange codeTurnsSpec)) codeTurnsCard

/-- THE SECOND FORM's CARD OF 'outpostlaw05.CodeMirror'. -/
def codeMirrorUptoCard : Claim7 := { stood := { row := codeMirrorUptoRow, standIns := [], harness := (true, "d64a732c2938d1adffe12fc2486a974a7096c09657a436563967f31f80f97018"), looks := false }, kinds := [], alts := [], laidByText := true, laidKinds := [.data], laidTests := true, laidLooks := .later }
def CodeMirrorUptoCardSaid : Prop := Claim7.holds Tryd.pinned (.plain (OpenSpec.upto codeMirrorSpec)) codeMirrorUptoCard

/-- THE SECOND FORM's CARD OF 'outpostlaw05.CodeTurns'. -/
def codeTurnsUptoCard : Claim7 := { stood := { row := codeTurnsUptoRow, standIns := [], harness := (true, "d64a732c2938d1adffe12fc2486a974a7096c09657a436563967f31f80f97018"), looks := false }, kinds := [], alts := [], laidByText := true, laidKinds := [.data], laidTests := true, laidLooks := .later }
def CodeTurnsUptoCardSaid : Prop := Claim7.holds Tryd.pinned (.plain (OpenSpec.upto codeTurnsSpec)) codeTurnsUptoCard
end Rows
end Go.Proofs.YtfjaohadjmigoaaDoor
