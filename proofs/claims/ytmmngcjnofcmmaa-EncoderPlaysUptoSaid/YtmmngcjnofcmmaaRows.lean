/-
  No cell of these rows narrows 'for every input' (looked for: loops, veiled, ifaces, maps, wideKeys, modest, calm, conditions, laid).
  DERIVED. THE GIVEN ROWS OF THIS SEAT. 9 by the template 'for every input the law returns true; each argument reads behind the call as it read before'; 0 by the template 'total and deterministic' (their statements: YtmmngcjnofcmmaaTotals.lean).
  GIVEN WITH THE SEED: the statements are not yours to turn. If you find one false, say at which input.
  Laid BY PROGRAM, IN A SANDBOX (cutbox-rows.mjs): the forced cells as the released guide's own fill.sh prints them over the translation 4ccd25adc652ed8a… (all of the seat's roots in one cut). By AI agents, Wed Nov 11 2026. No macro, syntax, notation, axiom, sorry.
-/
import Derived.Test.YtmmngcjnofcmmaaChecked
import GoSem.Claim
import GoSem.ClaimJoined
import GoSem.ClaimMapViews
import Derived.JoinedTies
import Derived.KernelRfl
namespace Go.Proofs.Ytmmngcjnofcmmaa
/- THE CELL 'sum', in the pinned program and in every row, IS THE sha256 OF THE DUMP (.gsa) THAT YtmmngcjnofcmmaaProg.lean LOADS. Nothing in Lean hashes anything: it is a label: what it is worth is what the hold of that sum in a sandbox is worth. -/
noncomputable def Try.pinned : Pinned := { name := "ytmmngcjnofcmmaa", sum := "4ccd25adc652ed8a2b0575ec2e6b833a8cae8c3dd4684dd393effd0e330fdf6a", checked := Try.checked }
namespace Rows
def none {H : Type} : Left H := { results := [], args := [] }

/-- 'outpostlaw06.EncoderAdds': WHATEVER THE INPUT: true; the input reads as it did. -/
def encoderAddsSpec : ChangeSpec := { name := "encoderAdds", fn := fun _ => fun
  | [d1, d2, d3] => { results := [.lit (.bool true)], args := [d1, d2, d3] }
  | _ => none }
def encoderAddsRow : OpenClaim := { program := "ytmmngcjnofcmmaa", sum := "4ccd25adc652ed8a2b0575ec2e6b833a8cae8c3dd4684dd393effd0e330fdf6a", func := "outpost/outpostlaw06.EncoderAdds", spec := "encoderAdds", unfollowed := true, recurses := true, apart := false }
def EncoderAddsSaid : Prop := encoderAddsRow.holds Try.pinned (OpenSpec.ofChange encoderAddsSpec)

/-- ITS FALSE NEIGHBOUR: 'it returns false'. Refute it at one input. -/
def encoderAddsWrong : ChangeSpec := { name := "encoderAdds", fn := fun _ => fun
  | [d1, d2, d3] => { results := [.lit (.bool false)], args := [d1, d2, d3] }
  | _ => none }
def EncoderAddsWrongFalsely : Prop := encoderAddsRow.holds Try.pinned (OpenSpec.ofChange encoderAddsWrong)

/-- 'outpostlaw06.EncoderBack': WHATEVER THE INPUT: true; the input reads as it did. -/
def encoderBackSpec : ChangeSpec := { name := "encoderBack", fn := fun _ => fun
  | [d] => { results := [.lit (.bool true)], args := [d] }
  | _ => none }
def encoderBackRow : OpenClaim := { program := "ytmmngcjnofcmmaa", sum := "4ccd25adc652ed8a2b0575ec2e6b833a8cae8c3dd4684dd393effd0e330fdf6a", func := "outpost/outpostlaw06.EncoderBack", spec := "encoderBack", unfollowed := true, recurses := true, apart := false }
def EncoderBackSaid : Prop := encoderBackRow.holds Try.pinned (OpenSpec.ofChange encoderBackSpec)

/-- ITS FALSE NEIGHBOUR: 'it returns false'. Refute it at one input. -/
def encoderBackWrong : ChangeSpec := { name := "encoderBack", fn := fun _ => fun
  | [d] => { results := [.lit (.bool false)], args := [d] }
  | _ => none }
def EncoderBackWrongFalsely : Prop := encoderBackRow.holds Try.pinned (OpenSpec.ofChange encoderBackWrong)

/-- 'outpostlaw06.EncoderSteps': WHATEVER THE INPUT: true; the input reads as it did. -/
def encoderStepsSpec : ChangeSpec := { name := "encoderSteps", fn := fun _ => fun
  | [d1, d2, d3] => { results := [.lit (.bool true)], args := [d1, d2, d3] }
  | _ => none }
def encoderStepsRow : OpenClaim := { program := "ytmmngcjnofcmmaa", sum := "4ccd25adc652ed8a2b0575ec2e6b833a8cae8c3dd4684dd393effd0e330fdf6a", func := "outpost/outpostlaw06.EncoderSteps", spec := "encoderSteps", unfollowed := true, recurses := true, apart := false }
def EncoderStepsSaid : Prop := encoderStepsRow.holds Try.pinned (OpenSpec.ofChange encoderStepsSpec)

/-- ITS FALSE NEIGHBOUR: 'it returns false'. Refute it at one input. -/
def encoderStepsWrong : ChangeSpec := { name := "encoderSteps", fn := fun _ => fun
  | [d1, d2, d3] => { results := [.lit (.bool false)], args := [d1, d2, d3] }
  | _ => none }
def EncoderStepsWrongFalsely : Prop := encoderStepsRow.holds Try.pinned (OpenSpec.ofChange encoderStepsWrong)

/-- 'outpostlaw06.EncoderInverts': WHATEVER THE INPUT: true; the input reads as it did. -/
def encoderInvertsSpec : ChangeSpec := { name := "encoderInverts", fn := fun _ => fun
  | [d1, d2] => { results := [.lit (.bool true)], args := [d1, d2] }
  | _ => none }
def encoderInvertsRow : OpenClaim := { program := "ytmmngcjnofcmmaa", sum := "4ccd25adc652ed8a2b0575ec2e6b833a8cae8c3dd4684dd393effd0e330fdf6a", func := "outpost/outpostlaw06.EncoderInverts", spec := "encoderInverts", unfollowed := true, recurses := true, apart := false }
def EncoderInvertsSaid : Prop := encoderInvertsRow.holds Try.pinned (OpenSpec.ofChange encoderInvertsSpec)

/-- ITS FALSE NEIGHBOUR: 'it returns false'. Refute it at one input. -/
def encoderInvertsWrong : ChangeSpec := { name := "encoderInverts", fn := fun _ => fun
  | [d1, d2] => { results := [.lit (.bool false)], args := [d1, d2] }
  | _ => none }
def EncoderInvertsWrongFalsely : Prop := encoderInvertsRow.holds Try.pinned (OpenSpec.ofChange encoderInvertsWrong)

/-- 'outpostlaw06.EncoderPlays': WHATEVER THE INPUT: true; the input reads as it did. -/
def encoderPlaysSpec : ChangeSpec := { name := "encoderPlays", fn := fun _ => fun
  | [d1, d2] => { results := [.lit (.bool true)], args := [d1, d2] }
  | _ => none }
def encoderPlaysRow : OpenClaim := { program := "ytmmngcjnofcmmaa", sum := "4ccd25adc652ed8a2b0575ec2e6b833a8cae8c3dd4684dd393effd0e330fdf6a", func := "outpost/outpostlaw06.EncoderPlays", spec := "encoderPlays", unfollowed := true, recurses := true, apart := false }
def EncoderPlaysSaid : Prop := encoderPlaysRow.holds Try.pinned (OpenSpec.ofChange encoderPlaysSpec)

/-- ITS FALSE NEIGHBOUR: 'it returns false'. Refute it at one input. -/
def encoderPlaysWrong : ChangeSpec := { name := "encoderPlays", fn := fun _ => fun
  | [d1, d2] => { results := [.lit (.bool false)], args := [d1, d2] }
  | _ => none }
def EncoderPlaysWrongFalsely : Prop := encoderPlaysRow.holds Try.pinned (OpenSpec.ofChange encoderPlaysWrong)

/-- 'outpostlaw06.EncoderNil': WHATEVER THE INPUT: true; the input reads as it did. -/
def encoderNilSpec : ChangeSpec := { name := "encoderNil", fn := fun _ => fun
  | [] => { results := [.lit (.bool true)], args := [] }
  | _ => none }
def encoderNilRow : OpenClaim := { program := "ytmmngcjnofcmmaa", sum := "4ccd25adc652ed8a2b0575ec2e6b833a8cae8c3dd4684dd393effd0e330fdf6a", func := "outpost/outpostlaw06.EncoderNil", spec := "encoderNil", unfollowed := true, recurses := true, apart := false }
def EncoderNilSaid : Prop := encoderNilRow.holds Try.pinned (OpenSpec.ofChange encoderNilSpec)

/-- ITS FALSE NEIGHBOUR: 'it returns false'. Refute it at one input. -/
def encoderNilWrong : ChangeSpec := { name := "encoderNil", fn := fun _ => fun
  | [] => { results := [.lit (.bool false)], args := [] }
  | _ => none }
def EncoderNilWrongFalsely : Prop := encoderNilRow.holds Try.pinned (OpenSpec.ofChange encoderNilWrong)

/-- 'outpostlaw06.EncoderEncodes': WHATEVER THE INPUT: true; the input reads as it did. -/
def encoderEncodesSpec : ChangeSpec := { name := "encoderEncodes", fn := fun _ => fun
  | [d1, d2, d3] => { results := [.lit (.bool true)], args := [d1, d2, d3] }
  | _ => none }
def encoderEncodesRow : OpenClaim := { program := "ytmmngcjnofcmmaa", sum := "4ccd25adc652ed8a2b0575ec2e6b833a8cae8c3dd4684dd393effd0e330fdf6a", func := "outpost/outpostlaw06.EncoderEncodes", spec := "encoderEncodes", unfollowed := true, recurses := true, apart := false }
def EncoderEncodesSaid : Prop := encoderEncodesRow.holds Try.pinned (OpenSpec.ofChange encoderEncodesSpec)

/-- ITS FALSE NEIGHBOUR: 'it returns false'. Refute it at one input. -/
def encoderEncodesWrong : ChangeSpec := { name := "encoderEncodes", fn := fun _ => fun
  | [d1, d2, d3] => { results := [.lit (.bool false)], args := [d1, d2, d3] }
  | _ => none }
def EncoderEncodesWrongFalsely : Prop := encoderEncodesRow.holds Try.pinned (OpenSpec.ofChange encoderEncodesWrong)

/-- 'outpostlaw06.EncoderProducts': WHATEVER THE INPUT: true; the input reads as it did. -/
def encoderProductsSpec : ChangeSpec := { name := "encoderProducts", fn := fun _ => fun
  | [d1, d2] => { results := [.lit (.bool true)], args := [d1, d2] }
  | _ => none }
def encoderProductsRow : OpenClaim := { program := "ytmmngcjnofcmmaa", sum := "4ccd25adc652ed8a2b0575ec2e6b833a8cae8c3dd4684dd393effd0e330fdf6a", func := "outpost/outpostlaw06.EncoderProducts", spec := "encoderProducts", unfollowed := true, recurses := true, apart := false }
def EncoderProductsSaid : Prop := encoderProductsRow.holds Try.pinned (OpenSpec.ofChange encoderProductsSpec)

/-- ITS FALSE NEIGHBOUR: 'it returns false'. Refute it at one input. -/
def encoderProductsWrong : ChangeSpec := { name := "encoderProducts", fn := fun _ => fun
  | [d1, d2] => { results := [.lit (.bool false)], args := [d1, d2] }
  | _ => none }
def EncoderProductsWrongFalsely : Prop := encoderProductsRow.holds Try.pinned (OpenSpec.ofChange encoderProductsWrong)

/-- 'outpostlaw06.EncoderTurned': WHATEVER THE INPUT: true; the input reads as it did. -/
def encoderTurnedSpec : ChangeSpec := { name := "encoderTurned", fn := fun _ => fun
  | [d1, d2] => { results := [.lit (.bool true)], args := [d1, d2] }
  | _ => none }
def encoderTurnedRow : OpenClaim := { program := "ytmmngcjnofcmmaa", sum := "4ccd25adc652ed8a2b0575ec2e6b833a8cae8c3dd4684dd393effd0e330fdf6a", func := "outpost/outpostlaw06.EncoderTurned", spec := "encoderTurned", unfollowed := true, recurses := true, apart := false }
def EncoderTurnedSaid : Prop := encoderTurnedRow.holds Try.pinned (OpenSpec.ofChange encoderTurnedSpec)

/-- ITS FALSE NEIGHBOUR: 'it returns false'. Refute it at one input. -/
def encoderTurnedWrong : ChangeSpec := { name := "encoderTurned", fn := fun _ => fun
  | [d1, d2] => { results := [.lit (.bool false)], args := [d1, d2] }
  | _ => none }
def EncoderTurnedWrongFalsely : Prop := encoderTurnedRow.holds Try.pinned (OpenSpec.ofChange encoderTurnedWrong)

/- THE SECOND FORM. 'bulk': how many values and letters a reading holds, each counted each time it is reached (what is shared counts as often as it is met; a slice's spare places count too). A statement '..UptoSaid' is the law's where the arguments, and the package variables that the reading takes, are together of bulk at most 1048576: NARROWER than '..Said'. Prove '..Said' where nothing that the law and all that it calls make is longer than what came in: it says more and counts as full. Else prove '..UptoSaid'. A law counts once. -/
mutual
def uptoBulk {H : Type} : DataW H → Nat
  | .lit (.string bytes) => bytes.length + 1
  | .lit _ => 1
  | .nil => 1
  | .ptr d => uptoBulk d + 1
  | .slice elems spare => uptoBulkAll elems + uptoBulkAll spare + 1
  | .agg parts => uptoBulkAll parts + 1
  | .iface _ d => uptoBulk d + 1
  | .map entries => uptoBulkEntries entries + 1
  | .held _ => 1
def uptoBulkAll {H : Type} : List (DataW H) → Nat
  | [] => 0
  | d :: r => uptoBulk d + uptoBulkAll r
def uptoBulkEntries {H : Type} : List (Lit × DataW H) → Nat
  | [] => 0
  | x :: r => uptoBulkEntry x + uptoBulkEntries r
def uptoBulkEntry {H : Type} : Lit × DataW H → Nat
  | (.string bytes, d) => bytes.length + uptoBulk d + 1
  | (_, d) => uptoBulk d + 1
 end
def uptoSmall : (H : Type) → List (DataW H) → Bool := fun _ ds => decide (uptoBulkAll ds ≤ 1048576)
def OpenSpec.upto (s : _root_.Go.ChangeSpec) : _root_.Go.OpenSpec := { _root_.Go.OpenSpec.ofChange s with cond := some uptoSmall }

/-- 'outpostlaw06.EncoderAdds', WHERE WHAT IT READS IS OF BULK AT MOST 1048576: true; the input reads as it did. -/
def encoderAddsUptoRow : OpenClaim := { program := "ytmmngcjnofcmmaa", sum := "4ccd25adc652ed8a2b0575ec2e6b833a8cae8c3dd4684dd393effd0e330fdf6a", func := "outpost/outpostlaw06.EncoderAdds", spec := "encoderAdds", unfollowed := true, recurses := true, apart := false, narrowed := true }
def EncoderAddsUptoSaid : Prop := encoderAddsUptoRow.holds Try.pinned (OpenSpec.upto encoderAddsSpec)

/-- 'outpostlaw06.EncoderBack', WHERE WHAT IT READS IS OF BULK AT MOST 1048576: true; the input reads as it did. -/
def encoderBackUptoRow : OpenClaim := { program := "ytmmngcjnofcmmaa", sum := "4ccd25adc652ed8a2b0575ec2e6b833a8cae8c3dd4684dd393effd0e330fdf6a", func := "outpost/outpostlaw06.EncoderBack", spec := "encoderBack", unfollowed := true, recurses := true, apart := false, narrowed := true }
def EncoderBackUptoSaid : Prop := encoderBackUptoRow.holds Try.pinned (OpenSpec.upto encoderBackSpec)

/-- 'outpostlaw06.EncoderSteps', WHERE WHAT IT READS IS OF BULK AT MOST 1048576: true; the input reads as it did. -/
def encoderStepsUptoRow : OpenClaim := { program := "ytmmngcjnofcmmaa", sum := "4ccd25adc652ed8a2b0575ec2e6b833a8cae8c3dd4684dd393effd0e330fdf6a", func := "outpost/outpostlaw06.EncoderSteps", spec := "encoderSteps", unfollowed := true, recurses := true, apart := false, narrowed := true }
def EncoderStepsUptoSaid : Prop := encoderStepsUptoRow.holds Try.pinned (OpenSpec.upto encoderStepsSpec)

/-- 'outpostlaw06.EncoderInverts', WHERE WHAT IT READS IS OF BULK AT MOST 1048576: true; the input reads as it did. -/
def encoderInvertsUptoRow : OpenClaim := { program := "ytmmngcjnofcmmaa", sum := "4ccd25adc652ed8a2b0575ec2e6b833a8cae8c3dd4684dd393effd0e330fdf6a", func := "outpost/outpostlaw06.EncoderInverts", spec := "encoderInverts", unfollowed := true, recurses := true, apart := false, narrowed := true }
def EncoderInvertsUptoSaid : Prop := encoderInvertsUptoRow.holds Try.pinned (OpenSpec.upto encoderInvertsSpec)

/-- 'outpostlaw06.EncoderPlays', WHERE WHAT IT READS IS OF BULK AT MOST 1048576: true; the input reads as it did. -/
def encoderPlaysUptoRow : OpenClaim := { program := "ytmmngcjnofcmmaa", sum := "4ccd25adc652ed8a2b0575ec2e6b833a8cae8c3dd4684dd393effd0e330fdf6a", func := "outpost/outpostlaw06.EncoderPlays", spec := "encoderPlays", unfollowed := true, recurses := true, apart := false, narrowed := true }
def EncoderPlaysUptoSaid : Prop := encoderPlaysUptoRow.holds Try.pinned (OpenSpec.upto encoderPlaysSpec)

/-- 'outpostlaw06.EncoderNil', WHERE WHAT IT READS IS OF BULK AT MOST 1048576: true; the input reads as it did. -/
def encoderNilUptoRow : OpenClaim := { program := "ytmmngcjnofcmmaa", sum := "4ccd25adc652ed8a2b0575ec2e6b833a8cae8c3dd4684dd393effd0e330fdf6a", func := "outpost/outpostlaw06.EncoderNil", spec := "encoderNil", unfollowed := true, recurses := true, apart := false, narrowed := true }
def EncoderNilUptoSaid : Prop := encoderNilUptoRow.holds Try.pinned (OpenSpec.upto encoderNilSpec)

/-- 'outpostlaw06.EncoderEncodes', WHERE WHAT IT READS IS OF BULK AT MOST 1048576: true; the input reads as it did. -/
def encoderEncodesUptoRow : OpenClaim := { program := "ytmmngcjnofcmmaa", sum := "4ccd25adc652ed8a2b0575ec2e6b833a8cae8c3dd4684dd393effd0e330fdf6a", func := "outpost/outpostlaw06.EncoderEncodes", spec := "encoderEncodes", unfollowed := true, recurses := true, apart := false, narrowed := true }
def EncoderEncodesUptoSaid : Prop := encoderEncodesUptoRow.holds Try.pinned (OpenSpec.upto encoderEncodesSpec)

/-- 'outpostlaw06.EncoderProducts', WHERE WHAT IT READS IS OF BULK AT MOST 1048576: true; the input reads as it did. -/
def encoderProductsUptoRow : OpenClaim := { program := "ytmmngcjnofcmmaa", sum := "4ccd25adc652ed8a2b0575ec2e6b833a8cae8c3dd4684dd393effd0e330fdf6a", func := "outpost/outpostlaw06.EncoderProducts", spec := "encoderProducts", unfollowed := true, recurses := true, apart := false, narrowed := true }
def EncoderProductsUptoSaid : Prop := encoderProductsUptoRow.holds Try.pinned (OpenSpec.upto encoderProductsSpec)

/-- 'outpostlaw06.EncoderTurned', WHERE WHAT IT READS IS OF BULK AT MOST 1048576: true; the input reads as it did. -/
def encoderTurnedUptoRow : OpenClaim := { program := "ytmmngcjnofcmmaa", sum := "4ccd25adc652ed8a2b0575ec2e6b833a8cae8c3dd4684dd393effd0e330fdf6a", func := "outpost/outpostlaw06.EncoderTurned", spec := "encoderTurned", unfollowed := true, recurses := true, apart := false, narrowed := true }
def EncoderTurnedUptoSaid : Prop := encoderTurnedUptoRow.holds Try.pinned (OpenSpec.upto encoderTurnedSpec)

end Rows
end Go.Proofs.Ytmmngcjnofcmmaa
