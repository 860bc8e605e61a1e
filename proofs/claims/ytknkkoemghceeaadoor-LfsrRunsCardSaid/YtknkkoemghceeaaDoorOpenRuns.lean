/- A list of registers and a list of calls of runners, that come in as arguments, opened. -/
import Derived.Test.YtknkkoemghceeaaDoorRows
import Derived.Test.YtknkkoemghceeaaDoorOpenL
import Derived.SizedLaws
import Derived.Deep.Slices
namespace Go.Proofs.YtknkkoemghceeaaDoor
open Go.ChangeShapes Go.WideShapes Go.ChangeAt Go.RowKit

theorem cells_lfsrs : Tryd.prog.cellsOf 24 = 3 := by kernel_rfl
theorem cells_rops : Tryd.prog.cellsOf 64 = 3 := by kernel_rfl
def LfsrA (w : World) (ad : Option Addr) (len : Nat) : Prop := ∀ i, i < len → ∃ b off, ad = some ⟨b, off, none⟩ ∧ b < w.heap.size ∧ ∃ (D : Int) (T S : Nat), w.cell? ⟨b, off + i * 3, none⟩ = some (.int .i64 D) ∧ w.cell? ⟨b, off + i * 3 + 1, none⟩ = some (.int .u64 T) ∧ w.cell? ⟨b, off + i * 3 + 2, none⟩ = some (.int .u64 S) ∧ T ≤ 18446744073709551615 ∧ S ≤ 18446744073709551615
def ROpA (w : World) (ad : Option Addr) (len : Nat) : Prop := ∀ i, i < len → ∃ b off, ad = some ⟨b, off, none⟩ ∧ b < w.heap.size ∧ ∃ (k o : Int) (K : Nat), w.cell? ⟨b, off + i * 3, none⟩ = some (.int .i64 k) ∧ w.cell? ⟨b, off + i * 3 + 1, none⟩ = some (.int .i64 o) ∧ w.cell? ⟨b, off + i * 3 + 2, none⟩ = some (.int .u64 K) ∧ K ≤ 18446744073709551615
section
variable {H : Type} {enc : TypeId × Value → H} {w : World} {r : Reach} {b0 : Nat} {v : Value} {d : DataW H} {p : List MemPlace}
set_option maxRecDepth 100000 in
theorem open_lfsrs (hv : Value.okWide Tryd.prog w r b0 56 v) (h : DataW.Trod enc Tryd.prog w 0 (fun _ => true) true 56 v d p) (hs : ∀ n ∈ d.weights Tryd.prog 56, n ≤ reachBytes) :
    ∃ (ad : Option Addr) (len cap : Nat), v = .slice ad len cap ∧ LfsrA w ad len ∧ len ≤ 5864062014805 := by
  obtain ⟨a, len, cap, rfl⟩ := okWide_slice Tryd.underlying56 hv
  obtain ⟨fuel, hf⟩ := h
  rcases Go.Deep.open_slice Tryd.underlying56 hf with ⟨hcs, _⟩ | ⟨a', len', cap', m, n, D, Pl, hcs, _, hl, hm, hmm, hx, hel⟩
  · simp [Value.cells] at hcs
    obtain ⟨rfl, rfl, rfl⟩ := hcs
    exact ⟨none, 0, 0, rfl, fun i hi => absurd hi (by omega), by omega⟩
  · simp [Value.cells] at hcs
    obtain ⟨rfl, rfl, rfl⟩ := hcs
    simp only [if_true] at hmm
    subst hmm
    simp only [Prod.mk.injEq] at hx
    obtain ⟨rfl, rfl⟩ := hx
    have hlen : len ≤ 5864062014805 := by
      have := hs ((((List.range len).map D).length + ((List.range (m - len)).map fun j => D (len + j)).length) * Tryd.prog.bytesOf 24) (by simp [DataW.weights, Tryd.underlying56])
      rw [show Tryd.prog.bytesOf 24 = 24 by kernel_rfl] at this
      simp at this
      unfold reachBytes at this
      omega
    refine ⟨some a', len, m, rfl, fun i hi => ?_, hlen⟩
    obtain ⟨cs', hc, ht⟩ := hel i (by omega)
    rw [cells_lfsrs] at hc
    obtain ⟨_, hl3, hat⟩ := World.cells?_some hc
    obtain ⟨c0, c1, c2, rfl⟩ := list3 hl3
    obtain ⟨ys, n', _, _, _, hlen3, hg⟩ := DataW.trod_struct Tryd.underlying24 ht
    obtain ⟨y0, y1, y2, rfl⟩ := list3 (l := ys) hlen3
    have g0 : DataW.trod enc Tryd.prog w 0 (fun _ => true) true n' 3 (([c0, c1, c2].drop 0).take (Tryd.prog.cellsOf 3)) = some y0 := hg 0 _ rfl
    have g1 : DataW.trod enc Tryd.prog w 0 (fun _ => true) true n' 22 (([c0, c1, c2].drop 1).take (Tryd.prog.cellsOf 22)) = some y1 := hg 1 _ rfl
    have g2 : DataW.trod enc Tryd.prog w 0 (fun _ => true) true n' 22 (([c0, c1, c2].drop 2).take (Tryd.prog.cellsOf 22)) = some y2 := hg 2 _ rfl
    rw [cells_int] at g0
    obtain ⟨v0, e0, _, w0⟩ := DataW.trod_int Tryd.underlying3 g0
    rw [cells_u64] at g1
    obtain ⟨v1, e1, _, w1⟩ := DataW.trod_int Tryd.underlying22 g1
    rw [cells_u64] at g2
    obtain ⟨v2, e2, _, w2⟩ := DataW.trod_int Tryd.underlying22 g2
    obtain ⟨u1, rfl, h1⟩ := wf_u64 w1
    obtain ⟨u2, rfl, h2⟩ := wf_u64 w2
    simp at e0 e1 e2
    subst e0 e1 e2
    obtain ⟨cz, hcz, _⟩ := hel 0 (by omega)
    rw [cells_lfsrs] at hcz
    obtain ⟨_, hz3, hzat⟩ := World.cells?_some hcz
    obtain ⟨z0, z1, z2, rfl⟩ := list3 hz3
    have qz := hzat 0 (by omega)
    obtain ⟨b, o, st⟩ := a'
    obtain rfl : st = none := by simpa [Addr.add] using World.cell?_spot qz
    have q0 := hat 0 (by omega)
    have q1 := hat 1 (by omega)
    have q2 := hat 2 (by omega)
    rw [Go.WideShapes.add_plain, Go.WideShapes.add_plain] at q0 q1 q2
    have hlt := World.block_lt_of_cell? _ _ q0
    exact ⟨b, o, rfl, hlt, v0, u1, u2, q0, q1, q2, h1, h2⟩
set_option maxRecDepth 100000 in
theorem open_rops (hv : Value.okWide Tryd.prog w r b0 57 v) (h : DataW.Trod enc Tryd.prog w 0 (fun _ => true) true 57 v d p) (hs : ∀ n ∈ d.weights Tryd.prog 57, n ≤ reachBytes) :
    ∃ (ad : Option Addr) (len cap : Nat), v = .slice ad len cap ∧ ROpA w ad len ∧ len ≤ 5864062014805 := by
  obtain ⟨a, len, cap, rfl⟩ := okWide_slice Tryd.underlying57 hv
  obtain ⟨fuel, hf⟩ := h
  rcases Go.Deep.open_slice Tryd.underlying57 hf with ⟨hcs, _⟩ | ⟨a', len', cap', m, n, D, Pl, hcs, _, hl, hm, hmm, hx, hel⟩
  · simp [Value.cells] at hcs
    obtain ⟨rfl, rfl, rfl⟩ := hcs
    exact ⟨none, 0, 0, rfl, fun i hi => absurd hi (by omega), by omega⟩
  · simp [Value.cells] at hcs
    obtain ⟨rfl, rfl, rfl⟩ := hcs
    simp only [if_true] at hmm
    subst hmm
    simp only [Prod.mk.injEq] at hx
    obtain ⟨rfl, rfl⟩ := hx
    have hlen : len ≤ 5864062014805 := by
      have := hs ((((List.range len).map D).length + ((List.range (m - len)).map fun j => D (len + j)).length) * Tryd.prog.bytesOf 64) (by simp [DataW.weights, Tryd.underlying57])
      rw [show Tryd.prog.bytesOf 64 = 24 by kernel_rfl] at this
      simp at this
      unfold reachBytes at this
      omega
    refine ⟨some a', len, m, rfl, fun i hi => ?_, hlen⟩
    obtain ⟨cs', hc, ht⟩ := hel i (by omega)
    rw [cells_rops] at hc
    obtain ⟨_, hl3, hat⟩ := World.cells?_some hc
    obtain ⟨c0, c1, c2, rfl⟩ := list3 hl3
    obtain ⟨ys, n', _, _, _, hlen3, hg⟩ := DataW.trod_struct Tryd.underlying64 ht
    obtain ⟨y0, y1, y2, rfl⟩ := list3 (l := ys) hlen3
    have g0 : DataW.trod enc Tryd.prog w 0 (fun _ => true) true n' 3 (([c0, c1, c2].drop 0).take (Tryd.prog.cellsOf 3)) = some y0 := hg 0 _ rfl
    have g1 : DataW.trod enc Tryd.prog w 0 (fun _ => true) true n' 3 (([c0, c1, c2].drop 1).take (Tryd.prog.cellsOf 3)) = some y1 := hg 1 _ rfl
    have g2 : DataW.trod enc Tryd.prog w 0 (fun _ => true) true n' 22 (([c0, c1, c2].drop 2).take (Tryd.prog.cellsOf 22)) = some y2 := hg 2 _ rfl
    rw [cells_int] at g0
    obtain ⟨v0, e0, _, w0⟩ := DataW.trod_int Tryd.underlying3 g0
    rw [cells_int] at g1
    obtain ⟨v1, e1, _, w1⟩ := DataW.trod_int Tryd.underlying3 g1
    rw [cells_u64] at g2
    obtain ⟨v2, e2, _, w2⟩ := DataW.trod_int Tryd.underlying22 g2
    obtain ⟨u2, rfl, h2⟩ := wf_u64 w2
    simp at e0 e1 e2
    subst e0 e1 e2
    obtain ⟨cz, hcz, _⟩ := hel 0 (by omega)
    rw [cells_rops] at hcz
    obtain ⟨_, hz3, hzat⟩ := World.cells?_some hcz
    obtain ⟨z0, z1, z2, rfl⟩ := list3 hz3
    have qz := hzat 0 (by omega)
    obtain ⟨b, o, st⟩ := a'
    obtain rfl : st = none := by simpa [Addr.add] using World.cell?_spot qz
    have q0 := hat 0 (by omega)
    have q1 := hat 1 (by omega)
    have q2 := hat 2 (by omega)
    rw [Go.WideShapes.add_plain, Go.WideShapes.add_plain] at q0 q1 q2
    have hlt := World.block_lt_of_cell? _ _ q0
    exact ⟨b, o, rfl, hlt, v0, v1, u2, q0, q1, q2, h2⟩
end
end Go.Proofs.YtknkkoemghceeaaDoor
