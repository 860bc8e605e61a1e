/-
  DERIVED. GIVEN WITH THE SEED: THE CARDS: each row of YtknkkoemghceeaaDoorRows.lean that lists a variable, with what it lists TIED to the program's text (the seventh form; the later family's looks); each row that meets fmt, with fmt's text TOLD by the authors' own Lean function (tested against real Go, not proved from fmt's source: count such statements apart). THE CARD IS WHAT COUNTS. Prove the row's statement (the work); the ties are given (YtknkkoemghceeaaDoorTie.lean); close each card by the builder's one call (the guide's Derived/Test/ToyasCard.lean, 'card_holds'). Laid BY PROGRAM, IN A SANDBOX (cutbox-door.mjs). By AI agents, Wed Nov 11 2026. No macro, syntax, notation, axiom, sorry.
-/
import Derived.Test.YtknkkoemghceeaaDoorRows
import GoSem.ClaimSeven
namespace Go.Proofs.YtknkkoemghceeaaDoor
namespace Rows

/-- THE TIED CARD OF 'outpostlaw04.LfsrBits'. -/
def lfsrBitsCard : Claim7 := { stood := { row := lfsrBitsRow, standIns := [], harness := (true, "b9deab4a9021d5465cbdaa3f230f6bf23ee6f5dc835791093373e9224623aed7"), looks := false }, kinds := [], alts := [], laidByText := true, laidKinds := [.data], laidTests := true, laidLooks := .later }
def LfsrBitsCardSaid : Prop := Claim7.holds Tryd.pinned (.plain (OpenSpec.ofChange lfsrBitsSpec)) lfsrBitsCard

/-- THE TIED CARD OF 'outpostlaw04.LfsrJumps'. -/
def lfsrJumpsCard : Claim7 := { stood := { row := lfsrJumpsRow, standIns := [], harness := (true, "b9deab4a9021d5465cbdaa3f230f6bf23ee6f5dc835791093373e9224623aed7"), looks := false }, kinds := [], alts := [], laidByText := true, laidKinds := [.data], laidTests := true, laidLooks := .later }
def LfsrJumpsCardSaid : Prop := Claim7.holds Tryd.pinned (.plain (OpenSpec.ofChange lfsrJumpsSpec)) lfsrJumpsCard

/-- THE TIED CARD OF 'outpostlaw04.LfsrChecks'. -/
def lfsrChecksCard : Claim7 := { stood := { row := lfsrChecksRow, standIns := [], harness := (true, "b9deab4a9021d5465cbdaa3f230f6bf23ee6f5dc835791093373e9224623aed7"), looks := false }, kinds := [], alts := [], laidByText := true, laidKinds := [.data], laidTests := true, laidLooks := .later }
def LfsrChecksCardSaid : Prop := Claim7.holds Tryd.pinned (.plain (OpenSpec.ofChange lfsrChecksSpec)) lfsrChecksCard

/-- THE TIED CARD OF 'outpostlaw04.LfsrRuns'. -/
def lfsrRunsCard : Claim7 := { stood := { row := lfsrRunsRow, standIns := [], harness := (true, "b9deab4a9021d5465cbdaa3f230f6bf23ee6f5dc835791093373e9224623aed7"), looks := false }, kinds := [], alts := [], laidByText := true, laidKinds := [.data], laidTests := true, laidLooks := .later }
def LfsrRunsCardSaid : Prop := Claim7.holds Tryd.pinned (.plain (OpenSpec.ofChange lfsrRunsSpec)) lfsrRunsCard

/-- THE TIED CARD OF 'outpostlaw04.LfsrNil'. -/
def lfsrNilCard : Claim7 := { stood := { row := lfsrNilRow, standIns := [], harness := (true, "b9deab4a9021d5465cbdaa3f230f6bf23ee6f5dc835791093373e9224623aed7"), looks := false }, kinds := [], alts := [], laidByText := true, laidKinds := [.data], laidTests := true, laidLooks := .later }
def LfsrNilCardSaid : Prop := Claim7.holds Tryd.pinned (.plain (OpenSpec.ofChange lfsrNilSpec)) lfsrNilCard

/-- THE TIED CARD OF 'outpostlaw04.LfsrNamed'. -/
def lfsrNamedCard : Claim7 := { stood := { row := lfsrNamedRow, standIns := [], harness := (true, "b9deab4a9021d5465cbdaa3f230f6bf23ee6f5dc835791093373e9224623aed7"), looks := false }, kinds := [], alts := [], laidByText := true, laidKinds := [.data], laidTests := true, laidLooks := .later }
def LfsrNamedCardSaid : Prop := Claim7.holds Tryd.pinned (.plain (OpenSpec.ofChange lfsrNamedSpec)) lfsrNamedCard

/-- THE TIED CARD OF 'outpostlaw04.LfsrWhitens'. -/
def lfsrWhitensCard : Claim7 := { stood := { row := lfsrWhitensRow, standIns := [], harness := (true, "b9deab4a9021d5465cbdaa3f230f6bf23ee6f5dc835791093373e9224623aed7"), looks := false }, kinds := [], alts := [], laidByText := true, laidKinds := [.data], laidTests := true, laidLooks := .later }
def LfsrWhitensCardSaid : Prop := Claim7.holds Tryd.pinned (.plain (OpenSpec.ofChange lfsrWhitensSpec)) lfsrWhitensCard

/-- THE TIED CARD OF 'outpostlaw04.LfsrTurns'. -/
def lfsrTurnsCard : Claim7 := { stood := { row := lfsrTurnsRow, standIns := [], harness := (true, "b9deab4a9021d5465cbdaa3f230f6bf23ee6f5dc835791093373e9224623aed7"), looks := false }, kinds := [], alts := [], laidByText := true, laidKinds := [.data], laidTests := true, laidLooks := .later }
def LfsrTurnsCardSaid : Prop := Claim7.holds Tryd.pinned (.plain (OpenSpec.ofChange lfsrTurnsSpec)) lfsrTurnsCard

/-- THE TIED CARD OF 'outpostlaw04.LfsrBack'. -/
def lfsrBackCard : Claim7 := { stood := { row := lfsrBackRow, standIns := [], harness := (true, "b9deab4a9021d5465cbdaa3f230f6bf23ee6f5dc835791093373e9224623aed7"), looks := false }, kinds := [], alts := [], laidByText := true, laidKinds := [.data], laidTests := true, laidLooks := .later }
def LfsrBackCardSaid : Prop := Claim7.holds Tryd.pinned (.plain (OpenSpec.ofChange lfsrBackSpec)) lfsrBackCard

/-- THE TIED CARD OF 'outpostlaw04.LfsrShortest'. -/
def lfsrShortestCard : Claim7 := { stood := { row := lfsrShortestRow, standIns := [], harness := (true, "b9deab4a9021d5465cbdaa3f230f6bf23ee6f5dc835791093373e9224623aed7"), looks := false }, kinds := [], alts := [], laidByText := true, laidKinds := [.data], laidTests := true, laidLooks := .later }
def LfsrShortestCardSaid : Prop := Claim7.holds Tryd.pinned (.plain (OpenSpec.ofChange lfsrShortestSpec)) lfsrShortestCard

/-- THE TIED CARD OF 'outpostlaw04.LfsrGrows'. -/
def lfsrGrowsCard : Claim7 := { stood := { row := lfsrGrowsRow, standIns := [], harness := (true, "b9deab4a9021d5465cbdaa3f230f6bf23ee6f5dc835791093373e9224623aed7"), looks := false }, kinds := [], alts := [], laidByText := true, laidKinds := [.data], laidTests := true, laidLooks := .later }
def LfsrGrowsCardSaid : Prop := Claim7.holds Tryd.pinned (.plain (OpenSpec.ofChange lfsrGrowsSpec)) lfsrGrowsCard

/-- THE TIED CARD OF 'outpostlaw04.LfsrFound'. -/
def lfsrFoundCard : Claim7 := { stood := { row := lfsrFoundRow, standIns := [], harness := (true, "b9deab4a9021d5465cbdaa3f230f6bf23ee6f5dc835791093373e9224623aed7"), looks := false }, kinds := [], alts := [], laidByText := true, laidKinds := [.data], laidTests := true, laidLooks := .later }
def LfsrFoundCardSaid : Prop := Claim7.holds Tryd.pinned (.plain (OpenSpec.ofChange lfsrFoundSpec)) lfsrFoundCard

/-- THE TIED CARD OF 'outpostlaw04.LfsrPeriods'. -/
def lfsrPeriodsCard : Claim7 := { stood := { row := lfsrPeriodsRow, standIns := [], harness := (true, "b9deab4a9021d5465cbdaa3f230f6bf23ee6f5dc835791093373e9224623aed7"), looks := false }, kinds := [], alts := [], laidByText := true, laidKinds := [.data], laidTests := true, laidLooks := .later }
def LfsrPeriodsCardSaid : Prop := Claim7.holds Tryd.pinned (.plain (OpenSpec.ofChange lfsrPeriodsSpec)) lfsrPeriodsCard

/-- THE TIED CARD OF 'outpostlaw04.LfsrGreatest'. -/
def lfsrGreatestCard : Claim7 := { stood := { row := lfsrGreatestRow, standIns := [], harness := (true, "b9deab4a9021d5465cbdaa3f230f6bf23ee6f5dc835791093373e9224623aed7"), looks := false }, kinds := [], alts := [], laidByText := true, laidKinds := [.data], laidTests := true, laidLooks := .later }
def LfsrGreatestCardSaid : Prop := Claim7.holds Tryd.pinned (.plain (OpenSpec.ofChange lfsrGreatestSpec)) lfsrGreatestCard

/-- THE SECOND FORM's CARD OF 'outpostlaw04.LfsrBits'. -/
def lfsrBitsUptoCard : Claim7 := { stood := { row := lfsrBitsUptoRow, standIns := [], harness := (true, "b9deab4a9021d5465cbdaa3f230f6bf23ee6f5dc835791093373e9224623aed7"), looks := false }, kinds := [], alts := [], laidByText := true, laidKinds := [.data], laidTests := true, laidLooks := .later }
def LfsrBitsUptoCardSaid : Prop := Claim7.holds Tryd.pinned (.plain (OpenSpec.upto lfsrBitsSpec)) lfsrBitsUptoCard

/-- THE SECOND FORM's CARD OF 'outpostlaw04.LfsrJumps'. -/
def lfsrJumpsUptoCard : Claim7 := { stood := { row := lfsrJumpsUptoRow, standIns := [], harness := (true, "b9deab4a9021d5465cbdaa3f230f6bf23ee6f5dc835791093373e9224623aed7"), looks := false }, kinds := [], alts := [], laidByText := true, laidKinds := [.data], laidTests := true, laidLooks := .later }
def LfsrJumpsUptoCardSaid : Prop := Claim7.holds Tryd.pinned (.plain (OpenSpec.upto lfsrJumpsSpec)) lfsrJumpsUptoCard

/-- THE SECOND FORM's CARD OF 'outpostlaw04.LfsrChecks'. -/
def lfsrChecksUptoCard : Claim7 := { stood := { row := lfsrChecksUptoRow, standIns := [], harness := (true, "b9deab4a9021d5465cbdaa3f230f6bf23ee6f5dc835791093373e9224623aed7"), looks := false }, kinds := [], alts := [], laidByText := true, laidKinds := [.data], laidTests := true, laidLooks := .later }
def LfsrChecksUptoCardSaid : Prop := Claim7.holds Tryd.pinned (.plain (OpenSpec.upto lfsrChecksSpec)) lfsrChecksUptoCard

/-- THE SECOND FORM's CARD OF 'outpostlaw04.LfsrRuns'. -/
def lfsrRunsUptoCard : Claim7 := { stood := { row := lfsrRunsUptoRow, standIns := [], harness := (true, "b9deab4a9021d5465cbdaa3f230f6bf23ee6f5dc835791093373e9224623aed7"), looks := false }, kinds := [], alts := [], laidByText := true, laidKinds := [.data], laidTests := true, laidLooks := .later }
def LfsrRunsUptoCardSaid : Prop := Claim7.holds Tryd.pinned (.plain (OpenSpec.upto lfsrRunsSpec)) lfsrRunsUptoCard

/-- THE SECOND FORM's CARD OF 'outpostlaw04.LfsrNil'. -/
def lfsrNilUptoCard : Claim7 := { stood := { row := lfsrNilUptoRow, standIns := [], harness := (true, "b9deab4a9021d5465cbdaa3f230f6bf23ee6f5dc835791093373e9224623aed7"), looks := false }, kinds := [], alts := [], laidByText := true, laidKinds := [.data], laidTests := true, laidLooks := .later }
def LfsrNilUptoCardSaid : Prop := Claim7.holds Tryd.pinned (.plain (OpenSpec.upto lfsrNilSpec)) lfsrNilUptoCard

/-- THE SECOND FORM's CARD OF 'outpostlaw04.LfsrNamed'. -/
def lfsrNamedUptoCard : Claim7 := { stood := { row := lfsrNamedUptoRow, standIns := [], harness := (true, "b9deab4a9021d5465cbdaa3f230f6bf23ee6f5dc835791093373e9224623aed7"), looks := false }, kinds := [], alts := [], laidByText := true, laidKinds := [.data], laidTests := true, laidLooks := .later }
def LfsrNamedUptoCardSaid : Prop := Claim7.holds Tryd.pinned (.plain (OpenSpec.upto lfsrNamedSpec)) lfsrNamedUptoCard

/-- THE SECOND FORM's CARD OF 'outpostlaw04.LfsrWhitens'. -/
def lfsrWhitensUptoCard : Claim7 := { stood := { row := lfsrWhitensUptoRow, standIns := [], harness := (true, "b9deab4a9021d5465cbdaa3f230f6bf23ee6f5dc835791093373e9224623aed7"), looks := false }, kinds := [], alts := [], laidByText := true, laidKinds := [.data], laidTests := true, laidLooks := .later }
def LfsrWhitensUptoCardSaid : Prop := Claim7.holds Tryd.pinned (.plain (OpenSpec.upto lfsrWhitensSpec)) lfsrWhitensUptoCard

/-- THE SECOND FORM's CARD OF 'outpostlaw04.LfsrTurns'. -/
def lfsrTurnsUptoCard : Claim7 := { stood := { row := lfsrTurnsUptoRow, standIns := [], harness := (true, "b9deab4a9021d5465cbdaa3f230f6bf23ee6f5dc835791093373e9224623aed7"), looks := false }, kinds := [], alts := [], laidByText := true, laidKinds := [.data], laidTests := true, laidLooks := .later }
def LfsrTurnsUptoCardSaid : Prop := Claim7.holds Tryd.pinned (.plain (OpenSpec.upto lfsrTurnsSpec)) lfsrTurnsUptoCard

/-- THE SECOND FORM's CARD OF 'outpostlaw04.LfsrBack'. -/
def lfsrBackUptoCard : Claim7 := { stood := { row := lfsrBackUptoRow, standIns := [], harness := (true, "b9deab4a9021d5465cbdaa3f230f6bf23ee6f5dc835791093373e9224623aed7"), looks := false }, kinds := [], alts := [], laidByText := true, laidKinds := [.data], laidTests := true, laidLooks := .later }
def LfsrBackUptoCardSaid : Prop := Claim7.holds Tryd.pinned (.plain (OpenSpec.upto lfsrBackSpec)) lfsrBackUptoCard

/-- THE SECOND FORM's CARD OF 'outpostlaw04.LfsrShortest'. -/
def lfsrShortestUptoCard : Claim7 := { stood := { row := lfsrShortestUptoRow, standIns := [], harness := (true, "b9deab4a9021d5465cbdaa3f230f6bf23ee6f5dc835791093373e9224623aed7"), looks := false }, kinds := [], alts := [], laidByText := true, laidKinds := [.data], laidTests := true, laidLooks := .later }
def LfsrShortestUptoCardSaid : Prop := Claim7.holds Tryd.pinned (.plain (OpenSpec.upto lfsrShortestSpec)) lfsrShortestUptoCard

/-- THE SECOND FORM's CARD OF 'outpostlaw04.LfsrGrows'. -/
def lfsrGrowsUptoCard : Claim7 := { stood := { row := lfsrGrowsUptoRow, standIns := [], harness := (true, "b9deab4a9021d5465cbdaa3f230f6bf23ee6f5dc835791093373e9224623aed7"), looks := false }, kinds := [], alts := [], laidByText := true, laidKinds := [.data], laidTests := true, laidLooks := .later }
def LfsrGrowsUptoCardSaid : Prop := Claim7.holds Tryd.pinned (.plain (OpenSpec.upto lfsrGrowsSpec)) lfsrGrowsUptoCard

/-- THE SECOND FORM's CARD OF 'outpostlaw04.LfsrFound'. -/
def lfsrFoundUptoCard : Claim7 := { stood := { row := lfsrFoundUptoRow, standIns := [], harness := (true, "b9deab4a9021d5465cbdaa3f230f6bf23ee6f5dc835791093373e9224623aed7"), looks := false }, kinds := [], alts := [], laidByText := true, laidKinds := [.data], laidTests := true, laidLooks := .later }
def LfsrFoundUptoCardSaid : Prop := Claim7.holds Tryd.pinned (.plain (OpenSpec.upto lfsrFoundSpec)) lfsrFoundUptoCard

/-- THE SECOND FORM's CARD OF 'outpostlaw04.LfsrPeriods'. -/
def lfsrPeriodsUptoCard : Claim7 := { stood := { row := lfsrPeriodsUptoRow, standIns := [], harness := (true, "b9deab4a9021d5465cbdaa3f230f6bf23ee6f5dc835791093373e9224623aed7"), looks := false }, kinds := [], alts := [], laidByText := true, laidKinds := [.data], laidTests := true, laidLooks := .later }
def LfsrPeriodsUptoCardSaid : Prop := Claim7.holds Tryd.pinned (.plain (OpenSpec.upto lfsrPeriodsSpec)) lfsrPeriodsUptoCard

/-- THE SECOND FORM's CARD OF 'outpostlaw04.LfsrGreatest'. -/
def lfsrGreatestUptoCard : Claim7 := { stood := { row := lfsrGreatestUptoRow, standIns := [], harness := (true, "b9deab4a9021d5465cbdaa3f230f6bf23ee6f5dc835791093373e9224623aed7"), looks := false }, kinds := [], alts := [], laidByText := true, laidKinds := [.data], laidTests := true, laidLooks := .later }
def LfsrGreatestUptoCardSaid : Prop := Claim7.holds Tryd.pinned (.plain (OpenSpec.upto lfsrGreatestSpec)) lfsrGreatestUptoCard
end Rows
end Go.Proofs.YtknkkoemghceeaaDoor
