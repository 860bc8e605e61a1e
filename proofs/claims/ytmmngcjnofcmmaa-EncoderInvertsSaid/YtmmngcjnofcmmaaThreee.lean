/- Three rows in a list of their own lie apart. -/
import Derived.Test.YtmmngcjnofcmmaaRows
import Derived.Test.YtmmngcjnofcmmaaApSe
namespace Go.Proofs.Ytmmngcjnofcmmaa
open Go.RowKit

/-- three things by their number -/
def three {α : Type} (a b c : α) (i : Nat) : α := if i = 0 then a else if i = 1 then b else c
theorem three_cases {n : Nat} (h : n < 3) : n = 0 ∨ n = 1 ∨ n = 2 := by omega
/-- g was made first, then a, then b; in the list they stand as a, b, g -/
theorem three_own {w : World} {B h1 h2 h3 h4 : Nat} {a b c : Value} {xa xb xc : List Nat} (hc : Oat w h1 h2 c xc) (ha : Oat w h2 h3 a xa) (hb : Oat w h3 h4 b xb) (hB : B ≤ h1) (hle : h1 ≤ h2 ∧ h2 ≤ h3 ∧ h3 ≤ h4) (h4w : h4 ≤ w.heap.size) (ty : TypeId) :
    ApS (w.alloc (.cells #[a, b, c] ty)) B w.heap.size 3 (three a b c) (three xa xb xc) := by
  have hn := heap_alloc_new w (.cells #[a, b, c] ty)
  refine ⟨fun i hi => ?_, fun i hi => ?_, fun i j g hi hj hne h1 h2 => ?_, fun i hi e => ?_, by omega, by simp⟩
  · rcases three_cases hi with rfl | rfl | rfl
    · exact cell_of_row _ w.heap.size 0 _ ty (0, 0) hn
    · exact cell_of_row _ w.heap.size 1 _ ty (0, 0) hn
    · exact cell_of_row _ w.heap.size 2 _ ty (0, 0) hn
  · rcases three_cases hi with rfl | rfl | rfl
    · exact (OwnB.base ha.own (by omega)).alloc _
    · exact (OwnB.base hb.own (by omega)).alloc _
    · exact (OwnB.base hc.own hB).alloc _
  · have la := fun q => ha.own.lt (g := q)
    have lb := fun q => hb.own.lt (g := q)
    have lc := fun q => hc.own.lt (g := q)
    have ua := ha.hi; have ub := hb.hi; have uc := hc.hi
    rcases three_cases hi with rfl | rfl | rfl <;> rcases three_cases hj with rfl | rfl | rfl <;>
      first
      | exact absurd rfl hne
      | (simp only [three] at h1 h2
         simp at h1 h2
         first
         | (have p := la g h1; have q := lb g h2; have r := ua g h1; omega)
         | (have p := la g h1; have q := lc g h2; have r := uc g h2; omega)
         | (have p := lb g h1; have q := la g h2; have r := ua g h2; omega)
         | (have p := lb g h1; have q := lc g h2; have r := uc g h2; omega)
         | (have p := lc g h1; have q := la g h2; have r := uc g h1; omega)
         | (have p := lc g h1; have q := lb g h2; have r := uc g h1; omega))
  · rcases three_cases hi with rfl | rfl | rfl
    · have := (ha.own.lt (g := w.heap.size) e).2; omega
    · have := (hb.own.lt (g := w.heap.size) e).2; omega
    · have := (hc.own.lt (g := w.heap.size) e).2; omega
end Go.Proofs.Ytmmngcjnofcmmaa
