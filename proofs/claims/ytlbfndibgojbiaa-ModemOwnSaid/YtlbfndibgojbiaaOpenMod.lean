/- What comes in as an argument, opened: modems. -/
import Derived.Test.YtlbfndibgojbiaaOpenL
import Derived.Test.YtlbfndibgojbiaaOpen
namespace Go.Proofs.Ytlbfndibgojbiaa
open Go.ChangeShapes Go.WideShapes Go.ChangeAt Go.RowKit

section
variable {H : Type} {enc : TypeId × Value → H} {w : World} {base : Nat} {spare : Nat → Bool} {held : Bool} {r : Reach} {b0 : Nat} {v : Value} {d : DataW H} {p : List MemPlace}
theorem list2 {α : Type} {l : List α} (h : l.length = 2) : ∃ a b, l = [a, b] := by
  match l, h with
  | [a, b], _ => exact ⟨a, b, rfl⟩
theorem list12 {α : Type} {l : List α} (h : l.length = 12) : ∃ c0 c1 c2 c3 c4 c5 c6 c7 c8 c9 c10 c11, l = [c0, c1, c2, c3, c4, c5, c6, c7, c8, c9, c10, c11] := by
  match l, h with
  | [c0, c1, c2, c3, c4, c5, c6, c7, c8, c9, c10, c11], _ => exact ⟨c0, c1, c2, c3, c4, c5, c6, c7, c8, c9, c10, c11, rfl⟩
set_option maxRecDepth 100000 in
theorem trod_code {fuel : Nat} {cs : List Value} {y : DataW H × List MemPlace} (hl : cs.length = 5) (hf : DataW.trod enc Try.prog w base spare held fuel 25 cs = some y) :
    ∃ (K R : Int) (a b c : Nat), cs = [.int .i64 K, .int .i64 R, .int .u32 a, .int .u32 b, .int .u32 c] ∧
      (-9223372036854775808 ≤ K ∧ K ≤ 9223372036854775807) ∧ (-9223372036854775808 ≤ R ∧ R ≤ 9223372036854775807) ∧ a ≤ 4294967295 ∧ b ≤ 4294967295 ∧ c ≤ 4294967295 := by
  obtain ⟨c0, c1, c2, c3, c4, rfl⟩ := list5 hl
  obtain ⟨xs, n, _, _, _, hlen, hg⟩ := DataW.trod_struct Try.underlying25 hf
  obtain ⟨x0, x1, x2, rfl⟩ := list3 (l := xs) hlen
  have g0 : DataW.trod enc Try.prog w base spare held n 3 (([c0, c1, c2, c3, c4].drop 0).take (Try.prog.cellsOf 3)) = some x0 := hg 0 _ rfl
  have g1 : DataW.trod enc Try.prog w base spare held n 3 (([c0, c1, c2, c3, c4].drop 1).take (Try.prog.cellsOf 3)) = some x1 := hg 1 _ rfl
  have g2 : DataW.trod enc Try.prog w base spare held n 23 (([c0, c1, c2, c3, c4].drop 2).take (Try.prog.cellsOf 23)) = some x2 := hg 2 _ rfl
  rw [cells_int] at g0 g1
  rw [cells_gen] at g2
  obtain ⟨K, e0, _, wK⟩ := DataW.trod_int Try.underlying3 g0
  obtain ⟨R, e1, _, wR⟩ := DataW.trod_int Try.underlying3 g1
  obtain ⟨ys, m, _, _, _, hl, hy⟩ := DataW.trod_array Try.underlying23 g2
  obtain ⟨y0, y1, y2, rfl⟩ := list3 hl
  have f0 := hy 0 (by omega)
  have f1 := hy 1 (by omega)
  have f2 := hy 2 (by omega)
  rw [cells_u32] at f0 f1 f2
  obtain ⟨a, e2, _, wa⟩ := DataW.trod_int Try.underlying22 f0
  obtain ⟨b, e3, _, wb⟩ := DataW.trod_int Try.underlying22 f1
  obtain ⟨c, e4, _, wc⟩ := DataW.trod_int Try.underlying22 f2
  obtain ⟨a', rfl, ha⟩ := wf_u32 wa
  obtain ⟨b', rfl, hb⟩ := wf_u32 wb
  obtain ⟨c', rfl, hc⟩ := wf_u32 wc
  simp at e0 e1 e2 e3 e4
  subst e0 e1 e2 e3 e4
  exact ⟨K, R, a', b', c', rfl, wf_i64 wK, wf_i64 wR, ha, hb, hc⟩
set_option maxRecDepth 100000 in
theorem trod_marker {fuel : Nat} {cs : List Value} {y : DataW H × List MemPlace} (hl : cs.length = 2) (hf : DataW.trod enc Try.prog w base spare held fuel 30 cs = some y) :
    ∃ (m : Nat) (l : Int), cs = [.int .u64 m, .int .i64 l] ∧ m ≤ 18446744073709551615 := by
  obtain ⟨c0, c1, rfl⟩ := list2 hl
  obtain ⟨xs, n, _, _, _, hlen, hg⟩ := DataW.trod_struct Try.underlying30 hf
  obtain ⟨x0, x1, rfl⟩ := list2 (l := xs) hlen
  have g0 : DataW.trod enc Try.prog w base spare held n 26 (([c0, c1].drop 0).take (Try.prog.cellsOf 26)) = some x0 := hg 0 _ rfl
  have g1 : DataW.trod enc Try.prog w base spare held n 3 (([c0, c1].drop 1).take (Try.prog.cellsOf 3)) = some x1 := hg 1 _ rfl
  rw [cells_u64] at g0
  rw [cells_int] at g1
  obtain ⟨m, e0, _, wm⟩ := DataW.trod_int Try.underlying26 g0
  obtain ⟨l, e1, _, _⟩ := DataW.trod_int Try.underlying3 g1
  obtain ⟨m', rfl, hm⟩ := wf_u64 wm
  simp at e0 e1
  subst e0 e1
  exact ⟨m', l, rfl, hm⟩
theorem cells_modem : Try.prog.cellsOf 32 = 12 := by kernel_rfl
theorem cells_marker : Try.prog.cellsOf 30 = 2 := by kernel_rfl
set_option maxRecDepth 100000 in
theorem open_modem (hv : Value.okWide Try.prog w r b0 32 v) (h : DataW.Trod enc Try.prog w base spare held 32 v d p) :
    ∃ (K R : Int) (a b c : Nat) (D : Int) (T S m : Nat) (l q z : Int), v = .agg #[.int .i64 K, .int .i64 R, .int .u32 a, .int .u32 b, .int .u32 c, .int .i64 D, .int .u64 T, .int .u64 S, .int .u64 m, .int .i64 l, .int .i64 q, .int .i64 z] ∧
      a ≤ 4294967295 ∧ b ≤ 4294967295 ∧ c ≤ 4294967295 ∧ T ≤ 18446744073709551615 ∧ S ≤ 18446744073709551615 ∧ m ≤ 18446744073709551615 := by
  obtain ⟨cs, rfl, hsz⟩ := okWide_struct Try.underlying32 hv
  obtain ⟨lst⟩ := cs
  obtain ⟨c0, c1, c2, c3, c4, c5, c6, c7, c8, c9, c10, c11, rfl⟩ := list12 (l := lst) (hsz.trans cells_modem)
  obtain ⟨fuel, hf⟩ := h
  obtain ⟨xs, n, _, _, _, hlen, hg⟩ := DataW.trod_struct Try.underlying32 hf
  obtain ⟨x0, x1, x2, x3, x4, rfl⟩ := list5 (l := xs) hlen
  have g0 : DataW.trod enc Try.prog w base spare held n 25 (([c0, c1, c2, c3, c4, c5, c6, c7, c8, c9, c10, c11].drop 0).take (Try.prog.cellsOf 25)) = some x0 := hg 0 _ rfl
  have g1 : DataW.trod enc Try.prog w base spare held n 28 (([c0, c1, c2, c3, c4, c5, c6, c7, c8, c9, c10, c11].drop 5).take (Try.prog.cellsOf 28)) = some x1 := hg 1 _ rfl
  have g2 : DataW.trod enc Try.prog w base spare held n 30 (([c0, c1, c2, c3, c4, c5, c6, c7, c8, c9, c10, c11].drop 8).take (Try.prog.cellsOf 30)) = some x2 := hg 2 _ rfl
  have g3 : DataW.trod enc Try.prog w base spare held n 3 (([c0, c1, c2, c3, c4, c5, c6, c7, c8, c9, c10, c11].drop 10).take (Try.prog.cellsOf 3)) = some x3 := hg 3 _ rfl
  have g4 : DataW.trod enc Try.prog w base spare held n 3 (([c0, c1, c2, c3, c4, c5, c6, c7, c8, c9, c10, c11].drop 11).take (Try.prog.cellsOf 3)) = some x4 := hg 4 _ rfl
  rw [cells_code] at g0
  rw [cells_lfsr] at g1
  rw [cells_marker] at g2
  rw [cells_int] at g3 g4
  obtain ⟨K, R, a, b, c, e0, _, _, ha, hb, hc⟩ := trod_code rfl g0
  obtain ⟨D, T, S, e1, _, hT, hS⟩ := trod_lfsr rfl g1
  obtain ⟨m, l, e2, hm⟩ := trod_marker rfl g2
  obtain ⟨q, e3, _⟩ := DataW.trod_int Try.underlying3 g3
  obtain ⟨z, e4, _⟩ := DataW.trod_int Try.underlying3 g4
  simp at e0 e1 e2 e3 e4
  obtain ⟨rfl, rfl, rfl, rfl, rfl⟩ := e0
  obtain ⟨rfl, rfl, rfl⟩ := e1
  obtain ⟨rfl, rfl⟩ := e2
  subst e3 e4
  exact ⟨K, R, a, b, c, D, T, S, m, l, q, z, rfl, ha, hb, hc, hT, hS, hm⟩
end
end Go.Proofs.Ytlbfndibgojbiaa
