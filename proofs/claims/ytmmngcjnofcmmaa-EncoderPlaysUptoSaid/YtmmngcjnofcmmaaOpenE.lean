/- A list of calls of encoders, that comes in as an argument, opened. -/
import Derived.Test.YtmmngcjnofcmmaaRows
import Derived.Test.YtmmngcjnofcmmaaOpenB
import Derived.SizedLaws
import Derived.Deep.Slices
namespace Go.Proofs.Ytmmngcjnofcmmaa
open Go.ChangeShapes Go.WideShapes Go.ChangeAt Go.RowKit

theorem cells_eops : Try.prog.cellsOf 62 = 3 := by kernel_rfl
def EOpB (w : World) (ad : Option Addr) (len : Nat) : Prop := ∀ i, i < len → ∃ b off, ad = some ⟨b, off, none⟩ ∧ b < w.heap.size ∧ ∃ (k o : Int) (x : Nat), w.cell? ⟨b, off + i * 3, none⟩ = some (.int .i64 k) ∧ w.cell? ⟨b, off + i * 3 + 1, none⟩ = some (.int .i64 o) ∧ w.cell? ⟨b, off + i * 3 + 2, none⟩ = some (.int .u8 x) ∧ x ≤ 255
section
variable {H : Type} {enc : TypeId × Value → H} {w : World} {r : Reach} {b0 : Nat} {v : Value} {d : DataW H} {p : List MemPlace}
set_option maxRecDepth 100000 in
theorem open_eops (hv : Value.okWide Try.prog w r b0 54 v) (h : DataW.Trod enc Try.prog w 0 (fun _ => true) true 54 v d p) :
    ∃ (ad : Option Addr) (len cap : Nat), v = .slice ad len cap ∧ EOpB w ad len ∧ (len = 0 ∨ ∃ el sp, d = .slice el sp ∧ len ≤ el.length) := by
  obtain ⟨a, len, cap, rfl⟩ := okWide_slice Try.underlying54 hv
  obtain ⟨fuel, hf⟩ := h
  rcases Go.Deep.open_slice Try.underlying54 hf with ⟨hcs, _⟩ | ⟨a', len', cap', m, n, D, Pl, hcs, _, hl, hm, hmm, hx, hel⟩
  · simp [Value.cells] at hcs
    obtain ⟨rfl, rfl, rfl⟩ := hcs
    exact ⟨none, 0, 0, rfl, fun i hi => absurd hi (by omega), .inl rfl⟩
  · simp [Value.cells] at hcs
    obtain ⟨rfl, rfl, rfl⟩ := hcs
    simp only [if_true] at hmm
    subst hmm
    simp only [Prod.mk.injEq] at hx
    obtain ⟨rfl, rfl⟩ := hx
    refine ⟨some a', len, m, rfl, fun i hi => ?_, .inr ⟨_, _, rfl, by simp⟩⟩
    obtain ⟨cs', hc, ht⟩ := hel i (by omega)
    rw [cells_eops] at hc
    obtain ⟨_, hl3, hat⟩ := World.cells?_some hc
    obtain ⟨c0, c1, c2, rfl⟩ := list3 hl3
    obtain ⟨ys, n', _, _, _, hlen3, hg⟩ := DataW.trod_struct Try.underlying62 ht
    obtain ⟨y0, y1, y2, rfl⟩ := list3 (l := ys) hlen3
    have g0 : DataW.trod enc Try.prog w 0 (fun _ => true) true n' 3 (([c0, c1, c2].drop 0).take (Try.prog.cellsOf 3)) = some y0 := hg 0 _ rfl
    have g1 : DataW.trod enc Try.prog w 0 (fun _ => true) true n' 3 (([c0, c1, c2].drop 1).take (Try.prog.cellsOf 3)) = some y1 := hg 1 _ rfl
    have g2 : DataW.trod enc Try.prog w 0 (fun _ => true) true n' 5 (([c0, c1, c2].drop 2).take (Try.prog.cellsOf 5)) = some y2 := hg 2 _ rfl
    rw [cells_int] at g0
    obtain ⟨v0, e0, _, w0⟩ := DataW.trod_int Try.underlying3 g0
    rw [cells_int] at g1
    obtain ⟨v1, e1, _, w1⟩ := DataW.trod_int Try.underlying3 g1
    rw [cells_u8] at g2
    obtain ⟨v2, e2, _, w2⟩ := DataW.trod_int Try.underlying5 g2
    obtain ⟨u2, rfl, h2⟩ := wf_u8 w2
    simp at e0 e1 e2
    subst e0 e1 e2
    obtain ⟨cz, hcz, _⟩ := hel 0 (by omega)
    rw [cells_eops] at hcz
    obtain ⟨_, hz3, hzat⟩ := World.cells?_some hcz
    obtain ⟨z0, z1, z2, rfl⟩ := list3 hz3
    have qz := hzat 0 (by omega)
    obtain ⟨b, o, st⟩ := a'
    obtain rfl : st = none := by simpa [Addr.add] using World.cell?_spot qz
    have q0 := hat 0 (by omega)
    have q1 := hat 1 (by omega)
    have q2 := hat 2 (by omega)
    rw [Go.WideShapes.add_plain, Go.WideShapes.add_plain] at q0 q1 q2
    have hlt := World.block_lt_of_cell? _ _ q0
    exact ⟨b, o, rfl, hlt, v0, v1, u2, q0, q1, q2, h2⟩
end
end Go.Proofs.Ytmmngcjnofcmmaa
