/- What comes in as an argument, opened: registers, weathers. -/
import Derived.Test.YtknkkoemghceeaaDoorOpen0
namespace Go.Proofs.YtknkkoemghceeaaDoor
open Go.ChangeShapes Go.WideShapes Go.ChangeAt Go.RowKit

section
variable {H : Type} {enc : TypeId × Value → H} {w : World} {base : Nat} {spare : Nat → Bool} {held : Bool} {r : Reach} {b0 : Nat} {v : Value} {d : DataW H} {p : List MemPlace}
theorem cells_lfsr : Tryd.prog.cellsOf 24 = 3 := by kernel_rfl
theorem cells_u64 : Tryd.prog.cellsOf 22 = 1 := by kernel_rfl
set_option maxRecDepth 100000 in
theorem trod_lfsr {fuel : Nat} {cs : List Value} {y : DataW H × List MemPlace} (hl : cs.length = 3) (hf : DataW.trod enc Tryd.prog w base spare held fuel 24 cs = some y) :
    ∃ (D : Int) (T S : Nat), cs = [.int .i64 D, .int .u64 T, .int .u64 S] ∧ (-9223372036854775808 ≤ D ∧ D ≤ 9223372036854775807) ∧ T ≤ 18446744073709551615 ∧ S ≤ 18446744073709551615 := by
  obtain ⟨c0, c1, c2, rfl⟩ := list3 hl
  obtain ⟨xs, n, _, _, _, hlen, hg⟩ := DataW.trod_struct Tryd.underlying24 hf
  obtain ⟨x0, x1, x2, rfl⟩ := list3 (l := xs) hlen
  have g0 : DataW.trod enc Tryd.prog w base spare held n 3 (([c0, c1, c2].drop 0).take (Tryd.prog.cellsOf 3)) = some x0 := hg 0 _ rfl
  have g1 : DataW.trod enc Tryd.prog w base spare held n 22 (([c0, c1, c2].drop 1).take (Tryd.prog.cellsOf 22)) = some x1 := hg 1 _ rfl
  have g2 : DataW.trod enc Tryd.prog w base spare held n 22 (([c0, c1, c2].drop 2).take (Tryd.prog.cellsOf 22)) = some x2 := hg 2 _ rfl
  rw [cells_int] at g0
  rw [cells_u64] at g1 g2
  obtain ⟨D, e0, _, wD⟩ := DataW.trod_int Tryd.underlying3 g0
  obtain ⟨T, e1, _, wT⟩ := DataW.trod_int Tryd.underlying22 g1
  obtain ⟨S, e2, _, wS⟩ := DataW.trod_int Tryd.underlying22 g2
  obtain ⟨T', rfl, hT⟩ := wf_u64 wT
  obtain ⟨S', rfl, hS⟩ := wf_u64 wS
  simp at e0 e1 e2
  subst e0 e1 e2
  exact ⟨D, T', S', rfl, wf_i64 wD, hT, hS⟩
set_option maxRecDepth 100000 in
theorem open_lfsr (hv : Value.okWide Tryd.prog w r b0 24 v) (h : DataW.Trod enc Tryd.prog w base spare held 24 v d p) :
    ∃ (D : Int) (T S : Nat), v = .agg #[.int .i64 D, .int .u64 T, .int .u64 S] ∧ (-9223372036854775808 ≤ D ∧ D ≤ 9223372036854775807) ∧ T ≤ 18446744073709551615 ∧ S ≤ 18446744073709551615 := by
  obtain ⟨cs, rfl, hsz⟩ := okWide_struct Tryd.underlying24 hv
  obtain ⟨l⟩ := cs
  obtain ⟨fuel, hf⟩ := h
  obtain ⟨D, T, S, e, h1, h2, h3⟩ := trod_lfsr (cs := l) (hsz.trans cells_lfsr) hf
  exact ⟨D, T, S, congrArg (fun z => Value.agg ⟨z⟩) e, h1, h2, h3⟩
end
end Go.Proofs.YtknkkoemghceeaaDoor
