/- Two rows in a list of their own lie apart. -/
import Derived.Test.YtknkkoemghceeaaDoorRows
import Derived.Test.YtknkkoemghceeaaDoorApS
namespace Go.Proofs.YtknkkoemghceeaaDoor
open Go.RowKit

/-- two things by their number -/
def two {α : Type} (a b : α) (i : Nat) : α := if i = 0 then a else b
theorem two_cases {n : Nat} (h : n < 2) : n = 0 ∨ n = 1 := by omega
theorem two_own {w : World} {B h1 h2 h3 : Nat} {a b : Value} {xa xb : List Nat} (ha : Oat w h1 h2 a xa) (hb : Oat w h2 h3 b xb) (hB : B ≤ h1) (hle : h1 ≤ h2 ∧ h2 ≤ h3) (h3w : h3 ≤ w.heap.size) (ty : TypeId) :
    ApS (w.alloc (.cells #[a, b] ty)) B w.heap.size 2 (two a b) (two xa xb) := by
  have hn := heap_alloc_new w (.cells #[a, b] ty)
  refine ⟨fun i hi => ?_, fun i hi => ?_, fun i j g hi hj hne h1 h2 => ?_, fun i hi e => ?_, by omega, by simp⟩
  · rcases two_cases hi with rfl | rfl
    · exact cell_of_row _ w.heap.size 0 _ ty (0, 0) hn
    · exact cell_of_row _ w.heap.size 1 _ ty (0, 0) hn
  · rcases two_cases hi with rfl | rfl
    · exact (OwnB.base ha.own (by omega)).alloc _
    · exact (OwnB.base hb.own (by omega)).alloc _
  · have la := fun q => ha.own.lt (g := q)
    have lb := fun q => hb.own.lt (g := q)
    have ua := ha.hi; have ub := hb.hi
    rcases two_cases hi with rfl | rfl <;> rcases two_cases hj with rfl | rfl <;>
      first
      | exact absurd rfl hne
      | (simp only [two] at h1 h2
         simp at h1 h2
         first
         | (have p := la g h1; have q := lb g h2; have r := ua g h1; omega)
         | (have p := lb g h1; have q := la g h2; have r := ua g h2; omega))
  · rcases two_cases hi with rfl | rfl
    · have := (ha.own.lt (g := w.heap.size) e).2; omega
    · have := (hb.own.lt (g := w.heap.size) e).2; omega
end Go.Proofs.YtknkkoemghceeaaDoor
