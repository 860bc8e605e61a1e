/- What comes in as an argument, opened: weathers. -/
import Derived.Test.YtmagpmoghnmhmaaOpenL
namespace Go.Proofs.Ytmagpmoghnmhmaa
open Go.ChangeShapes Go.WideShapes Go.ChangeAt Go.RowKit

section
variable {H : Type} {enc : TypeId × Value → H} {w : World} {base : Nat} {spare : Nat → Bool} {held : Bool} {r : Reach} {b0 : Nat} {v : Value} {d : DataW H} {p : List MemPlace}
theorem cells_wea : Try.prog.cellsOf 26 = 7 := by kernel_rfl
theorem list7 {α : Type} {l : List α} (h : l.length = 7) : ∃ a b c d e f g, l = [a, b, c, d, e, f, g] := by
  match l, h with
  | [a, b, c, d, e, f, g], _ => exact ⟨a, b, c, d, e, f, g, rfl⟩
set_option maxRecDepth 100000 in
theorem open_wea (hv : Value.okWide Try.prog w r b0 26 v) (h : DataW.Trod enc Try.prog w base spare held 26 v d p) :
    ∃ (D : Int) (T S : Nat) (W B C M : Int), v = .agg #[.int .i64 D, .int .u64 T, .int .u64 S, .int .i64 W, .int .i64 B, .int .i64 C, .int .i64 M] ∧ T ≤ 18446744073709551615 ∧ S ≤ 18446744073709551615 := by
  obtain ⟨cs, rfl, hsz⟩ := okWide_struct Try.underlying26 hv
  obtain ⟨l⟩ := cs
  obtain ⟨c0, c1, c2, c3, c4, c5, c6, rfl⟩ := list7 (l := l) (hsz.trans cells_wea)
  obtain ⟨fuel, hf⟩ := h
  obtain ⟨xs, n, _, _, _, hlen, hg⟩ := DataW.trod_struct Try.underlying26 hf
  obtain ⟨x0, x1, x2, x3, x4, rfl⟩ := list5 (l := xs) hlen
  have g0 : DataW.trod enc Try.prog w base spare held n 24 (([c0, c1, c2, c3, c4, c5, c6].drop 0).take (Try.prog.cellsOf 24)) = some x0 := hg 0 _ rfl
  have g1 : DataW.trod enc Try.prog w base spare held n 3 (([c0, c1, c2, c3, c4, c5, c6].drop 3).take (Try.prog.cellsOf 3)) = some x1 := hg 1 _ rfl
  have g2 : DataW.trod enc Try.prog w base spare held n 3 (([c0, c1, c2, c3, c4, c5, c6].drop 4).take (Try.prog.cellsOf 3)) = some x2 := hg 2 _ rfl
  have g3 : DataW.trod enc Try.prog w base spare held n 3 (([c0, c1, c2, c3, c4, c5, c6].drop 5).take (Try.prog.cellsOf 3)) = some x3 := hg 3 _ rfl
  have g4 : DataW.trod enc Try.prog w base spare held n 3 (([c0, c1, c2, c3, c4, c5, c6].drop 6).take (Try.prog.cellsOf 3)) = some x4 := hg 4 _ rfl
  rw [cells_lfsr] at g0
  rw [cells_int] at g1 g2 g3 g4
  obtain ⟨D, T, S, e0, _, hT, hS⟩ := trod_lfsr rfl g0
  obtain ⟨W, e1, _⟩ := DataW.trod_int Try.underlying3 g1
  obtain ⟨B, e2, _⟩ := DataW.trod_int Try.underlying3 g2
  obtain ⟨C, e3, _⟩ := DataW.trod_int Try.underlying3 g3
  obtain ⟨M, e4, _⟩ := DataW.trod_int Try.underlying3 g4
  simp at e0 e1 e2 e3 e4
  obtain ⟨rfl, rfl, rfl⟩ := e0
  subst e1 e2 e3 e4
  exact ⟨D, T, S, W, B, C, M, rfl, hT, hS⟩
end
end Go.Proofs.Ytmagpmoghnmhmaa
