/- What comes in as an argument, opened: codes. -/
import Derived.Test.YtpmnbdkncmjafaaOpen0
namespace Go.Proofs.Ytpmnbdkncmjafaa
open Go.ChangeShapes Go.WideShapes Go.ChangeAt Go.RowKit

section
variable {H : Type} {enc : TypeId × Value → H} {w : World} {base : Nat} {spare : Nat → Bool} {held : Bool} {r : Reach} {b0 : Nat} {v : Value} {d : DataW H} {p : List MemPlace}
theorem cells_code : Try.prog.cellsOf 25 = 5 := by kernel_rfl
theorem cells_gen : Try.prog.cellsOf 23 = 3 := by kernel_rfl
theorem cells_u32 : Try.prog.cellsOf 22 = 1 := by kernel_rfl
set_option maxRecDepth 100000 in
theorem open_code (hv : Value.okWide Try.prog w r b0 25 v) (h : DataW.Trod enc Try.prog w base spare held 25 v d p) :
    ∃ (K R : Int) (a b c : Nat), v = .agg #[.int .i64 K, .int .i64 R, .int .u32 a, .int .u32 b, .int .u32 c] ∧
      (-9223372036854775808 ≤ K ∧ K ≤ 9223372036854775807) ∧ (-9223372036854775808 ≤ R ∧ R ≤ 9223372036854775807) ∧ a ≤ 4294967295 ∧ b ≤ 4294967295 ∧ c ≤ 4294967295 := by
  obtain ⟨cs, rfl, hsz⟩ := okWide_struct Try.underlying25 hv
  obtain ⟨l⟩ := cs
  obtain ⟨c0, c1, c2, c3, c4, rfl⟩ := list5 (l := l) (hsz.trans cells_code)
  obtain ⟨fuel, hf⟩ := h
  obtain ⟨xs, n, _, _, _, hlen, hg⟩ := DataW.trod_struct Try.underlying25 hf
  obtain ⟨x0, x1, x2, rfl⟩ := list3 (l := xs) hlen
  have g0 : DataW.trod enc Try.prog w base spare held n 3 (([c0, c1, c2, c3, c4].drop 0).take (Try.prog.cellsOf 3)) = some x0 := hg 0 _ rfl
  have g1 : DataW.trod enc Try.prog w base spare held n 3 (([c0, c1, c2, c3, c4].drop 1).take (Try.prog.cellsOf 3)) = some x1 := hg 1 _ rfl
  have g2 : DataW.trod enc Try.prog w base spare held n 23 (([c0, c1, c2, c3, c4].drop 2).take (Try.prog.cellsOf 23)) = some x2 := hg 2 _ rfl
  rw [cells_int] at g0 g1
  rw [cells_gen] at g2
  obtain ⟨K, e0, _, wK⟩ := DataW.trod_int Try.underlying3 g0
  obtain ⟨R, e1, _, wR⟩ := DataW.trod_int Try.underlying3 g1
  obtain ⟨ys, m, _, _, _, hl, hy⟩ := DataW.trod_array Try.underlying23 g2
  obtain ⟨y0, y1, y2, rfl⟩ := list3 hl
  have f0 := hy 0 (by omega)
  have f1 := hy 1 (by omega)
  have f2 := hy 2 (by omega)
  rw [cells_u32] at f0 f1 f2
  obtain ⟨a, e2, _, wa⟩ := DataW.trod_int Try.underlying22 f0
  obtain ⟨b, e3, _, wb⟩ := DataW.trod_int Try.underlying22 f1
  obtain ⟨c, e4, _, wc⟩ := DataW.trod_int Try.underlying22 f2
  obtain ⟨a', rfl, ha⟩ := wf_u32 wa
  obtain ⟨b', rfl, hb⟩ := wf_u32 wb
  obtain ⟨c', rfl, hc⟩ := wf_u32 wc
  simp at e0 e1 e2 e3 e4
  subst e0 e1 e2 e3 e4
  exact ⟨K, R, a', b', c', rfl, wf_i64 wK, wf_i64 wR, ha, hb, hc⟩
end
end Go.Proofs.Ytpmnbdkncmjafaa
