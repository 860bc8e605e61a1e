/-
  No cell of these rows narrows 'for every input' (looked for: loops, veiled, ifaces, maps, wideKeys, modest, calm, conditions, laid).
  DERIVED. THE GIVEN ROWS OF THIS SEAT. 6 by the template 'for every input the law returns true; each argument reads behind the call as it read before'; 0 by the template 'total and deterministic' (their statements: YtmagpmoghnmhmaaTotals.lean).
  GIVEN WITH THE SEED: the statements are not yours to turn. If you find one false, say at which input.
  Laid BY PROGRAM, IN A SANDBOX (cutbox-rows.mjs): the forced cells as the released guide's own fill.sh prints them over the translation 34fcedde91aa44c4… (all of the seat's roots in one cut). By AI agents, Wed Nov 11 2026. No macro, syntax, notation, axiom, sorry.
-/
import Derived.Test.YtmagpmoghnmhmaaChecked
import GoSem.Claim
import GoSem.ClaimJoined
import GoSem.ClaimMapViews
import Derived.JoinedTies
import Derived.KernelRfl
namespace Go.Proofs.Ytmagpmoghnmhmaa
/- THE CELL 'sum', in the pinned program and in every row, IS THE sha256 OF THE DUMP (.gsa) THAT YtmagpmoghnmhmaaProg.lean LOADS. Nothing in Lean hashes anything: it is a label: what it is worth is what the hold of that sum in a sandbox is worth. -/
noncomputable def Try.pinned : Pinned := { name := "ytmagpmoghnmhmaa", sum := "34fcedde91aa44c413c35ed5856be5b15b52755ef96bf18ea85b573370582b37", checked := Try.checked }
namespace Rows
def none {H : Type} : Left H := { results := [], args := [] }

/-- 'outpostlaw37.WeatherPlays': WHATEVER THE INPUT: true; the input reads as it did. -/
def weatherPlaysSpec : ChangeSpec := { name := "weatherPlays", fn := fun _ => fun
  | [d1, d2, d3] => { results := [.lit (.bool true)], args := [d1, d2, d3] }
  | _ => none }
def weatherPlaysRow : OpenClaim := { program := "ytmagpmoghnmhmaa", sum := "34fcedde91aa44c413c35ed5856be5b15b52755ef96bf18ea85b573370582b37", func := "outpost/outpostlaw37.WeatherPlays", spec := "weatherPlays", unfollowed := true, recurses := true, apart := false }
def WeatherPlaysSaid : Prop := weatherPlaysRow.holds Try.pinned (OpenSpec.ofChange weatherPlaysSpec)

/-- ITS FALSE NEIGHBOUR: 'it returns false'. Refute it at one input. -/
def weatherPlaysWrong : ChangeSpec := { name := "weatherPlays", fn := fun _ => fun
  | [d1, d2, d3] => { results := [.lit (.bool false)], args := [d1, d2, d3] }
  | _ => none }
def WeatherPlaysWrongFalsely : Prop := weatherPlaysRow.holds Try.pinned (OpenSpec.ofChange weatherPlaysWrong)

/-- 'outpostlaw37.WeatherNil': WHATEVER THE INPUT: true; the input reads as it did. -/
def weatherNilSpec : ChangeSpec := { name := "weatherNil", fn := fun _ => fun
  | [d] => { results := [.lit (.bool true)], args := [d] }
  | _ => none }
def weatherNilRow : OpenClaim := { program := "ytmagpmoghnmhmaa", sum := "34fcedde91aa44c413c35ed5856be5b15b52755ef96bf18ea85b573370582b37", func := "outpost/outpostlaw37.WeatherNil", spec := "weatherNil", unfollowed := true, recurses := true, apart := false }
def WeatherNilSaid : Prop := weatherNilRow.holds Try.pinned (OpenSpec.ofChange weatherNilSpec)

/-- ITS FALSE NEIGHBOUR: 'it returns false'. Refute it at one input. -/
def weatherNilWrong : ChangeSpec := { name := "weatherNil", fn := fun _ => fun
  | [d] => { results := [.lit (.bool false)], args := [d] }
  | _ => none }
def WeatherNilWrongFalsely : Prop := weatherNilRow.holds Try.pinned (OpenSpec.ofChange weatherNilWrong)

/-- 'outpostlaw37.WeatherUndone': WHATEVER THE INPUT: true; the input reads as it did. -/
def weatherUndoneSpec : ChangeSpec := { name := "weatherUndone", fn := fun _ => fun
  | [d1, d2, d3, d4] => { results := [.lit (.bool true)], args := [d1, d2, d3, d4] }
  | _ => none }
def weatherUndoneRow : OpenClaim := { program := "ytmagpmoghnmhmaa", sum := "34fcedde91aa44c413c35ed5856be5b15b52755ef96bf18ea85b573370582b37", func := "outpost/outpostlaw37.WeatherUndone", spec := "weatherUndone", unfollowed := true, recurses := true, apart := false }
def WeatherUndoneSaid : Prop := weatherUndoneRow.holds Try.pinned (OpenSpec.ofChange weatherUndoneSpec)

/-- ITS FALSE NEIGHBOUR: 'it returns false'. Refute it at one input. -/
def weatherUndoneWrong : ChangeSpec := { name := "weatherUndone", fn := fun _ => fun
  | [d1, d2, d3, d4] => { results := [.lit (.bool false)], args := [d1, d2, d3, d4] }
  | _ => none }
def WeatherUndoneWrongFalsely : Prop := weatherUndoneRow.holds Try.pinned (OpenSpec.ofChange weatherUndoneWrong)

/-- 'outpostlaw37.WeatherSpells': WHATEVER THE INPUT: true; the input reads as it did. -/
def weatherSpellsSpec : ChangeSpec := { name := "weatherSpells", fn := fun _ => fun
  | [d1, d2] => { results := [.lit (.bool true)], args := [d1, d2] }
  | _ => none }
def weatherSpellsRow : OpenClaim := { program := "ytmagpmoghnmhmaa", sum := "34fcedde91aa44c413c35ed5856be5b15b52755ef96bf18ea85b573370582b37", func := "outpost/outpostlaw37.WeatherSpells", spec := "weatherSpells", unfollowed := true, recurses := true, apart := false }
def WeatherSpellsSaid : Prop := weatherSpellsRow.holds Try.pinned (OpenSpec.ofChange weatherSpellsSpec)

/-- ITS FALSE NEIGHBOUR: 'it returns false'. Refute it at one input. -/
def weatherSpellsWrong : ChangeSpec := { name := "weatherSpells", fn := fun _ => fun
  | [d1, d2] => { results := [.lit (.bool false)], args := [d1, d2] }
  | _ => none }
def WeatherSpellsWrongFalsely : Prop := weatherSpellsRow.holds Try.pinned (OpenSpec.ofChange weatherSpellsWrong)

/-- 'outpostlaw37.WeatherStrikes': WHATEVER THE INPUT: true; the input reads as it did. -/
def weatherStrikesSpec : ChangeSpec := { name := "weatherStrikes", fn := fun _ => fun
  | [d1, d2, d3] => { results := [.lit (.bool true)], args := [d1, d2, d3] }
  | _ => none }
def weatherStrikesRow : OpenClaim := { program := "ytmagpmoghnmhmaa", sum := "34fcedde91aa44c413c35ed5856be5b15b52755ef96bf18ea85b573370582b37", func := "outpost/outpostlaw37.WeatherStrikes", spec := "weatherStrikes", unfollowed := true, recurses := true, apart := false }
def WeatherStrikesSaid : Prop := weatherStrikesRow.holds Try.pinned (OpenSpec.ofChange weatherStrikesSpec)

/-- ITS FALSE NEIGHBOUR: 'it returns false'. Refute it at one input. -/
def weatherStrikesWrong : ChangeSpec := { name := "weatherStrikes", fn := fun _ => fun
  | [d1, d2, d3] => { results := [.lit (.bool false)], args := [d1, d2, d3] }
  | _ => none }
def WeatherStrikesWrongFalsely : Prop := weatherStrikesRow.holds Try.pinned (OpenSpec.ofChange weatherStrikesWrong)

/-- 'outpostlaw37.WeatherOwn': WHATEVER THE INPUT: true; the input reads as it did. -/
def weatherOwnSpec : ChangeSpec := { name := "weatherOwn", fn := fun _ => fun
  | [d1, d2, d3] => { results := [.lit (.bool true)], args := [d1, d2, d3] }
  | _ => none }
def weatherOwnRow : OpenClaim := { program := "ytmagpmoghnmhmaa", sum := "34fcedde91aa44c413c35ed5856be5b15b52755ef96bf18ea85b573370582b37", func := "outpost/outpostlaw37.WeatherOwn", spec := "weatherOwn", unfollowed := true, recurses := true, apart := false }
def WeatherOwnSaid : Prop := weatherOwnRow.holds Try.pinned (OpenSpec.ofChange weatherOwnSpec)

/-- ITS FALSE NEIGHBOUR: 'it returns false'. Refute it at one input. -/
def weatherOwnWrong : ChangeSpec := { name := "weatherOwn", fn := fun _ => fun
  | [d1, d2, d3] => { results := [.lit (.bool false)], args := [d1, d2, d3] }
  | _ => none }
def WeatherOwnWrongFalsely : Prop := weatherOwnRow.holds Try.pinned (OpenSpec.ofChange weatherOwnWrong)

/- THE SECOND FORM. 'bulk': how many values and letters a reading holds, each counted each time it is reached (what is shared counts as often as it is met; a slice's spare places count too). A statement '..UptoSaid' is the law's where the arguments, and the package variables that the reading takes, are together of bulk at most 1048576: NARROWER than '..Said'. Prove '..Said' where nothing that the law and all that it calls make is longer than what came in: it says more and counts as full. Else prove '..UptoSaid'. A law counts once. -/
mutual
def uptoBulk {H : Type} : DataW H → Nat
  | .lit (.string bytes) => bytes.length + 1
  | .lit _ => 1
  | .nil => 1
  | .ptr d => uptoBulk d + 1
  | .slice elems spare => uptoBulkAll elems + uptoBulkAll spare + 1
  | .agg parts => uptoBulkAll parts + 1
  | .iface _ d => uptoBulk d + 1
  | .map entries => uptoBulkEntries entries + 1
  | .held _ => 1
def uptoBulkAll {H : Type} : List (DataW H) → Nat
  | [] => 0
  | d :: r => uptoBulk d + uptoBulkAll r
def uptoBulkEntries {H : Type} : List (Lit × DataW H) → Nat
  | [] => 0
  | x :: r => uptoBulkEntry x + uptoBulkEntries r
def uptoBulkEntry {H : Type} : Lit × DataW H → Nat
  | (.string bytes, d) => bytes.length + uptoBulk d + 1
  | (_, d) => uptoBulk d + 1
 end
def uptoSmall : (H : Type) → List (DataW H) → Bool := fun _ ds => decide (uptoBulkAll ds ≤ 1048576)
def OpenSpec.upto (s : _root_.Go.ChangeSpec) : _root_.Go.OpenSpec := { _root_.Go.OpenSpec.ofChange s with cond := some uptoSmall }

/-- 'outpostlaw37.WeatherPlays', WHERE WHAT IT READS IS OF BULK AT MOST 1048576: true; the input reads as it did. -/
def weatherPlaysUptoRow : OpenClaim := { program := "ytmagpmoghnmhmaa", sum := "34fcedde91aa44c413c35ed5856be5b15b52755ef96bf18ea85b573370582b37", func := "outpost/outpostlaw37.WeatherPlays", spec := "weatherPlays", unfollowed := true, recurses := true, apart := false, narrowed := true }
def WeatherPlaysUptoSaid : Prop := weatherPlaysUptoRow.holds Try.pinned (OpenSpec.upto weatherPlaysSpec)

/-- 'outpostlaw37.WeatherNil', WHERE WHAT IT READS IS OF BULK AT MOST 1048576: true; the input reads as it did. -/
def weatherNilUptoRow : OpenClaim := { program := "ytmagpmoghnmhmaa", sum := "34fcedde91aa44c413c35ed5856be5b15b52755ef96bf18ea85b573370582b37", func := "outpost/outpostlaw37.WeatherNil", spec := "weatherNil", unfollowed := true, recurses := true, apart := false, narrowed := true }
def WeatherNilUptoSaid : Prop := weatherNilUptoRow.holds Try.pinned (OpenSpec.upto weatherNilSpec)

/-- 'outpostlaw37.WeatherUndone', WHERE WHAT IT READS IS OF BULK AT MOST 1048576: true; the input reads as it did. -/
def weatherUndoneUptoRow : OpenClaim := { program := "ytmagpmoghnmhmaa", sum := "34fcedde91aa44c413c35ed5856be5b15b52755ef96bf18ea85b573370582b37", func := "outpost/outpostlaw37.WeatherUndone", spec := "weatherUndone", unfollowed := true, recurses := true, apart := false, narrowed := true }
def WeatherUndoneUptoSaid : Prop := weatherUndoneUptoRow.holds Try.pinned (OpenSpec.upto weatherUndoneSpec)

/-- 'outpostlaw37.WeatherSpells', WHERE WHAT IT READS IS OF BULK AT MOST 1048576: true; the input reads as it did. -/
def weatherSpellsUptoRow : OpenClaim := { program := "ytmagpmoghnmhmaa", sum := "34fcedde91aa44c413c35ed5856be5b15b52755ef96bf18ea85b573370582b37", func := "outpost/outpostlaw37.WeatherSpells", spec := "weatherSpells", unfollowed := true, recurses := true, apart := false, narrowed := true }
def WeatherSpellsUptoSaid : Prop := weatherSpellsUptoRow.holds Try.pinned (OpenSpec.upto weatherSpellsSpec)

/-- 'outpostlaw37.WeatherStrikes', WHERE WHAT IT READS IS OF BULK AT MOST 1048576: true; the input reads as it did. -/
def weatherStrikesUptoRow : OpenClaim := { program := "ytmagpmoghnmhmaa", sum := "34fcedde91aa44c413c35ed5856be5b15b52755ef96bf18ea85b573370582b37", func := "outpost/outpostlaw37.WeatherStrikes", spec := "weatherStrikes", unfollowed := true, recurses := true, apart := false, narrowed := true }
def WeatherStrikesUptoSaid : Prop := weatherStrikesUptoRow.holds Try.pinned (OpenSpec.upto weatherStrikesSpec)

/-- 'outpostlaw37.WeatherOwn', WHERE WHAT IT READS IS OF BULK AT MOST 1048576: true; the input reads as it did. -/
def weatherOwnUptoRow : OpenClaim := { program := "ytmagpmoghnmhmaa", sum := "34fcedde91aa44c413c35ed5856be5b15b52755ef96bf18ea85b573370582b37", func := "outpost/outpostlaw37.WeatherOwn", spec := "weatherOwn", unfollowed := true, recurses := true, apart := false, narrowed := true }
def WeatherOwnUptoSaid : Prop := weatherOwnUptoRow.holds Try.pinned (OpenSpec.upto weatherOwnSpec)

end Rows
end Go.Proofs.Ytmagpmoghnmhmaa
