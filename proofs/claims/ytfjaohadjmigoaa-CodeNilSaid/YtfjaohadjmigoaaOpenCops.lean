/- A list of calls of a book, that comes in as an argument, opened. -/
import Derived.Test.YtfjaohadjmigoaaRows
import Derived.Test.YtfjaohadjmigoaaOpen
import Derived.Deep.Slices
namespace Go.Proofs.Ytfjaohadjmigoaa
open Go.ChangeShapes Go.WideShapes Go.ChangeAt Go.RowKit

theorem cells_cop : Try.prog.cellsOf 57 = 7 := by kernel_rfl
theorem cells_str : Try.prog.cellsOf 9 = 1 := by kernel_rfl
theorem list7 {α : Type} {l : List α} (h : l.length = 7) : ∃ a b c d e f g, l = [a, b, c, d, e, f, g] := by
  match l, h with
  | [a, b, c, d, e, f, g], _ => exact ⟨a, b, c, d, e, f, g, rfl⟩
/-- a call in its seven cells -/
structure COpAt (w : World) (b o : Nat) (k : Int) (s : ByteArray) (K R : Int) (x y z : Nat) : Prop where
  c0 : w.cell? ⟨b, o, none⟩ = some (.int .i64 k)
  c1 : w.cell? ⟨b, o + 1, none⟩ = some (.string s)
  c2 : w.cell? ⟨b, o + 2, none⟩ = some (.int .i64 K)
  c3 : w.cell? ⟨b, o + 3, none⟩ = some (.int .i64 R)
  c4 : w.cell? ⟨b, o + 4, none⟩ = some (.int .u32 x)
  c5 : w.cell? ⟨b, o + 5, none⟩ = some (.int .u32 y)
  c6 : w.cell? ⟨b, o + 6, none⟩ = some (.int .u32 z)
  small : x ≤ 4294967295 ∧ y ≤ 4294967295 ∧ z ≤ 4294967295
def COpsA (w : World) (ad : Option Addr) (len : Nat) : Prop := ∀ i, i < len → ∃ b off, ad = some ⟨b, off, none⟩ ∧ b < w.heap.size ∧ ∃ (k : Int) (s : ByteArray) (K R : Int) (x y z : Nat), COpAt w b (off + i * 7) k s K R x y z
section
variable {H : Type} {enc : TypeId × Value → H} {w : World} {r : Reach} {b0 : Nat} {v : Value} {d : DataW H} {p : List MemPlace} {n : Nat}
set_option maxRecDepth 100000 in
theorem code_cells5 {c0 c1 c2 c3 c4 : Value} (hf : DataW.trod enc Try.prog w 0 (fun _ => true) true n 25 [c0, c1, c2, c3, c4] = some (d, p)) :
    ∃ (K R : Int) (a b c : Nat), (c0 = .int .i64 K ∧ c1 = .int .i64 R ∧ c2 = .int .u32 a ∧ c3 = .int .u32 b ∧ c4 = .int .u32 c) ∧ a ≤ 4294967295 ∧ b ≤ 4294967295 ∧ c ≤ 4294967295 := by
  obtain ⟨xs, n, _, _, _, hlen, hg⟩ := DataW.trod_struct Try.underlying25 hf
  obtain ⟨x0, x1, x2, rfl⟩ := list3 (l := xs) hlen
  have g0 : DataW.trod enc Try.prog w 0 (fun _ => true) true n 3 (([c0, c1, c2, c3, c4].drop 0).take (Try.prog.cellsOf 3)) = some x0 := hg 0 _ rfl
  have g1 : DataW.trod enc Try.prog w 0 (fun _ => true) true n 3 (([c0, c1, c2, c3, c4].drop 1).take (Try.prog.cellsOf 3)) = some x1 := hg 1 _ rfl
  have g2 : DataW.trod enc Try.prog w 0 (fun _ => true) true n 23 (([c0, c1, c2, c3, c4].drop 2).take (Try.prog.cellsOf 23)) = some x2 := hg 2 _ rfl
  rw [cells_int] at g0 g1
  rw [cells_gen] at g2
  obtain ⟨K, e0, _, wK⟩ := DataW.trod_int Try.underlying3 g0
  obtain ⟨R, e1, _, wR⟩ := DataW.trod_int Try.underlying3 g1
  obtain ⟨ys, m, _, _, _, hl, hy⟩ := DataW.trod_array Try.underlying23 g2
  obtain ⟨y0, y1, y2, rfl⟩ := list3 hl
  have f0 := hy 0 (by omega)
  have f1 := hy 1 (by omega)
  have f2 := hy 2 (by omega)
  rw [cells_u32] at f0 f1 f2
  obtain ⟨a, e2, _, wa⟩ := DataW.trod_int Try.underlying22 f0
  obtain ⟨b, e3, _, wb⟩ := DataW.trod_int Try.underlying22 f1
  obtain ⟨c, e4, _, wc⟩ := DataW.trod_int Try.underlying22 f2
  obtain ⟨a', rfl, ha⟩ := wf_u32 wa
  obtain ⟨b', rfl, hb⟩ := wf_u32 wb
  obtain ⟨c', rfl, hc⟩ := wf_u32 wc
  simp at e0 e1 e2 e3 e4
  exact ⟨K, R, a', b', c', ⟨e0, e1, e2, e3, e4⟩, ha, hb, hc⟩
set_option maxRecDepth 100000 in
theorem open_cops (hv : Value.okWide Try.prog w r b0 49 v) (h : DataW.Trod enc Try.prog w 0 (fun _ => true) true 49 v d p) :
    ∃ (ad : Option Addr) (len cap : Nat), v = .slice ad len cap ∧ COpsA w ad len ∧ len ≤ maxLen := by
  obtain ⟨a, len, cap, rfl⟩ := okWide_slice Try.underlying49 hv
  obtain ⟨fuel, hf⟩ := h
  rcases Go.Deep.open_slice Try.underlying49 hf with ⟨hcs, _⟩ | ⟨a', len', cap', m, n, D, Pl, hcs, _, hl, hm, hmm, hx, hel⟩
  · simp [Value.cells] at hcs
    obtain ⟨rfl, rfl, rfl⟩ := hcs
    exact ⟨none, 0, 0, rfl, fun i hi => absurd hi (by omega), by omega⟩
  · simp [Value.cells] at hcs
    obtain ⟨rfl, rfl, rfl⟩ := hcs
    simp only [if_true] at hmm
    subst hmm
    refine ⟨some a', len, m, rfl, fun i hi => ?_, by omega⟩
    obtain ⟨cs', hc, ht⟩ := hel i (by omega)
    rw [cells_cop] at hc
    obtain ⟨_, hl7, hat⟩ := World.cells?_some hc
    obtain ⟨c0, c1, c2, c3, c4, c5, c6, rfl⟩ := list7 hl7
    obtain ⟨ys, n', _, _, _, hlen3, hg⟩ := DataW.trod_struct Try.underlying57 ht
    obtain ⟨y0, y1, y2, rfl⟩ := list3 (l := ys) hlen3
    have g0 : DataW.trod enc Try.prog w 0 (fun _ => true) true n' 3 (([c0, c1, c2, c3, c4, c5, c6].drop 0).take (Try.prog.cellsOf 3)) = some y0 := hg 0 _ rfl
    have g1 : DataW.trod enc Try.prog w 0 (fun _ => true) true n' 9 (([c0, c1, c2, c3, c4, c5, c6].drop 1).take (Try.prog.cellsOf 9)) = some y1 := hg 1 _ rfl
    have g2 : DataW.trod enc Try.prog w 0 (fun _ => true) true n' 25 (([c0, c1, c2, c3, c4, c5, c6].drop 2).take (Try.prog.cellsOf 25)) = some y2 := hg 2 _ rfl
    rw [cells_int] at g0
    rw [cells_str] at g1
    rw [cells_code] at g2
    obtain ⟨k, e0, _, _⟩ := DataW.trod_int Try.underlying3 g0
    obtain ⟨s, e1, _, _⟩ := DataW.trod_string Try.underlying9 g1
    simp at e0 e1
    obtain ⟨K, R, x, y, z, ⟨e2, e3, e4, e5, e6⟩, ux, uy, uz⟩ := code_cells5 (d := y2.1) (p := y2.2) g2
    subst e0 e1 e2 e3 e4 e5 e6
    obtain ⟨cz, hcz, _⟩ := hel 0 (by omega)
    rw [cells_cop] at hcz
    obtain ⟨_, hz7, hzat⟩ := World.cells?_some hcz
    obtain ⟨z0, z1, z2, z3, z4, z5, z6, rfl⟩ := list7 hz7
    have qz := hzat 0 (by omega)
    obtain ⟨b, o, st⟩ := a'
    obtain rfl : st = none := by simpa [Addr.add] using World.cell?_spot qz
    have q0 := hat 0 (by omega)
    have q1 := hat 1 (by omega)
    have q2 := hat 2 (by omega)
    have q3 := hat 3 (by omega)
    have q4 := hat 4 (by omega)
    have q5 := hat 5 (by omega)
    have q6 := hat 6 (by omega)
    rw [Go.WideShapes.add_plain, Go.WideShapes.add_plain] at q0 q1 q2 q3 q4 q5 q6
    have hlt := World.block_lt_of_cell? _ _ q0
    exact ⟨b, o, rfl, hlt, k, s, K, R, x, y, z, ⟨q0, q1, q2, q3, q4, q5, q6, ux, uy, uz⟩⟩
end
end Go.Proofs.Ytfjaohadjmigoaa
