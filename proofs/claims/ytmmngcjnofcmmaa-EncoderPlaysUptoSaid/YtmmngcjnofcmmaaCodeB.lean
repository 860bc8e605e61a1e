/- A code in a box of its own. -/
import Derived.Test.YtmmngcjnofcmmaaRows
import Derived.Test.YtmmngcjnofcmmaaBytes
import Derived.BigQuiet
namespace Go.Proofs.Ytmmngcjnofcmmaa
open Go.RowKit

/-- the code's box: what lies in it -/
def CodeB (w : World) (g : Nat) (K R : Int) (a b c : Nat) : Prop := w.heap[g]? = some (.cells #[.int .i64 K, .int .i64 R, .int .u32 a, .int .u32 b, .int .u32 c] 25 (0, 0))
theorem CodeB.cells {w : World} {g : Nat} {K R : Int} {a b c : Nat} (h : CodeB w g K R a b c) : w.cell? ⟨g, 0, none⟩ = some (.int .i64 K) ∧ w.cell? ⟨g, 1, none⟩ = some (.int .i64 R) ∧ w.cell? ⟨g, 2, none⟩ = some (.int .u32 a) ∧ w.cell? ⟨g, 3, none⟩ = some (.int .u32 b) ∧ w.cell? ⟨g, 4, none⟩ = some (.int .u32 c) := by
  unfold CodeB at h
  refine ⟨?_, ?_, ?_, ?_, ?_⟩ <;> simp [World.cell?, h]
theorem CodeB.lt {w : World} {g : Nat} {K R : Int} {a b c : Nat} (h : CodeB w g K R a b c) : g < w.heap.size := by
  unfold CodeB at h
  exact (Array.getElem?_eq_some_iff.1 h).1
theorem CodeB.keep {w w' : World} {g B : Nat} {K R : Int} {a b c : Nat} (h : CodeB w g K R a b c) (hb : Below B w w') (hg : g < B) : CodeB w' g K R a b c := (hb.block g hg).trans h
theorem CodeB.new (w : World) (K R : Int) (a b c : Nat) : CodeB (w.alloc (.cells #[.int .i64 K, .int .i64 R, .int .u32 a, .int .u32 b, .int .u32 c] 25)) w.heap.size K R a b c := heap_alloc_new w _
theorem CodeB.far {w : World} {g : Nat} {K R : Int} {a b c : Nat} (h : CodeB w g K R a b c) {p : Addr} (hp : g ≠ p.block) (u : Value) : CodeB (w.setCell p u) g K R a b c := (Below.heap_setCell _ _ _ _ hp).trans h
theorem CodeB.alloc {w : World} {g : Nat} {K R : Int} {a b c : Nat} (h : CodeB w g K R a b c) (o : Obj) : CodeB (w.alloc o) g K R a b c := (Below.heap_alloc _ _ _ h.lt).trans h
theorem CodeB.grown {w w' : World} {g : Nat} {K R : Int} {a b c : Nat} {row : Option Nat} (h : CodeB w g K R a b c) (hb : w.grownBy w' row) (hne : some g ≠ row) : CodeB w' g K R a b c := (hb.block g h.lt hne).trans h
theorem CodeB.drewN {w : World} {g : Nat} {K R : Int} {a b c : Nat} (h : CodeB w g K R a b c) (n : Nat) : CodeB (w.drewN n) g K R a b c := h
/-- generator i -/
def genN (a b c i : Nat) : Nat := if i = 0 then a else if i = 1 then b else c
theorem genN_le {a b c : Nat} (hA : a ≤ 4294967295) (hB : b ≤ 4294967295) (hC : c ≤ 4294967295) (i : Nat) : genN a b c i ≤ 4294967295 := by unfold genN; split <;> (try split) <;> omega
theorem CodeB.gen {w : World} {g : Nat} {K R : Int} {a b c : Nat} (h : CodeB w g K R a b c) {i : Nat} (hi : i < 3) : w.cell? ⟨g, 2 + i, none⟩ = some (.int .u32 (genN a b c i : Nat)) := by
  obtain ⟨_, _, h2, h3, h4⟩ := h.cells
  have : i = 0 ∨ i = 1 ∨ i = 2 := by omega
  rcases this with rfl | rfl | rfl
  · exact h2
  · exact h3
  · exact h4
theorem RowA.lt_of {w : World} {ad : Option Addr} {xs : List Nat} (h : RowA w ad xs) (h0 : 0 < xs.length) : ∀ b off, ad = some ⟨b, off, none⟩ → b < w.heap.size := fun b off e => by
  obtain ⟨b', off', e', hl, _⟩ := h.at_ h0
  rw [e] at e'
  simp only [Option.some.injEq, Addr.mk.injEq, and_true] at e'
  rw [e'.1]; exact hl
end Go.Proofs.Ytmmngcjnofcmmaa
