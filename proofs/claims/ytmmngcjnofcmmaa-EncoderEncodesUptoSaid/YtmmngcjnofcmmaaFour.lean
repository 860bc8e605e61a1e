/- Rows in a list of their own lie apart: two, three, four. -/
import Derived.Test.YtmmngcjnofcmmaaRows
import Derived.Test.YtmmngcjnofcmmaaApSe
namespace Go.Proofs.Ytmmngcjnofcmmaa
open Go.RowKit

/-- four things by their number -/
def four {α : Type} (a b c d : α) (i : Nat) : α := if i = 0 then a else if i = 1 then b else if i = 2 then c else d
theorem four_cases {n : Nat} (h : n < 4) : n = 0 ∨ n = 1 ∨ n = 2 ∨ n = 3 := by omega
/-- the last was made first; in the list they stand as a, b, c, g -/
theorem four_own {w : World} {B h0 h1 h2 h3 k3 h4 : Nat} {a b c g : Value} {xa xb xc xg : List Nat} (hg : Oat w h0 h1 g xg) (ha : Oat w h1 h2 a xa) (hb : Oat w h2 h3 b xb) (hc : Oat w k3 h4 c xc) (hB : B ≤ h0) (hle : h0 ≤ h1 ∧ h1 ≤ h2 ∧ h2 ≤ h3 ∧ h3 ≤ k3 ∧ k3 ≤ h4) (h4w : h4 ≤ w.heap.size) (ty : TypeId) :
    ApS (w.alloc (.cells #[a, b, c, g] ty)) B w.heap.size 4 (four a b c g) (four xa xb xc xg) := by
  have hn := heap_alloc_new w (.cells #[a, b, c, g] ty)
  have la := fun q => ha.own.lt (g := q)
  have lb := fun q => hb.own.lt (g := q)
  have lc := fun q => hc.own.lt (g := q)
  have lg := fun q => hg.own.lt (g := q)
  have ua := ha.hi; have ub := hb.hi; have uc := hc.hi; have ug := hg.hi
  refine ⟨fun i hi => ?_, fun i hi => ?_, fun i j q hi hj hne e1 e2 => ?_, fun i hi e => ?_, by omega, by simp⟩
  · rcases four_cases hi with rfl | rfl | rfl | rfl
    · exact cell_of_row _ w.heap.size 0 _ ty (0, 0) hn
    · exact cell_of_row _ w.heap.size 1 _ ty (0, 0) hn
    · exact cell_of_row _ w.heap.size 2 _ ty (0, 0) hn
    · exact cell_of_row _ w.heap.size 3 _ ty (0, 0) hn
  · rcases four_cases hi with rfl | rfl | rfl | rfl
    · exact (OwnB.base ha.own (by omega)).alloc _
    · exact (OwnB.base hb.own (by omega)).alloc _
    · exact (OwnB.base hc.own (by omega)).alloc _
    · exact (OwnB.base hg.own hB).alloc _
  · rcases four_cases hi with rfl | rfl | rfl | rfl <;> rcases four_cases hj with rfl | rfl | rfl | rfl <;>
      first
      | exact absurd rfl hne
      | (simp only [four] at e1 e2
         simp at e1 e2
         first
         | (have p := la q e1; have q' := lb q e2; have r := ua q e1; omega)
         | (have p := la q e1; have q' := lc q e2; have r := ua q e1; omega)
         | (have p := la q e1; have q' := lg q e2; have r := ug q e2; omega)
         | (have p := lb q e1; have q' := la q e2; have r := ua q e2; omega)
         | (have p := lb q e1; have q' := lc q e2; have r := ub q e1; omega)
         | (have p := lb q e1; have q' := lg q e2; have r := ug q e2; omega)
         | (have p := lc q e1; have q' := la q e2; have r := ua q e2; omega)
         | (have p := lc q e1; have q' := lb q e2; have r := ub q e2; omega)
         | (have p := lc q e1; have q' := lg q e2; have r := ug q e2; omega)
         | (have p := lg q e1; have q' := la q e2; have r := ug q e1; omega)
         | (have p := lg q e1; have q' := lb q e2; have r := ug q e1; omega)
         | (have p := lg q e1; have q' := lc q e2; have r := ug q e1; omega))
  · rcases four_cases hi with rfl | rfl | rfl | rfl
    · have := (la w.heap.size e).2; omega
    · have := (lb w.heap.size e).2; omega
    · have := (lc w.heap.size e).2; omega
    · have := (lg w.heap.size e).2; omega
end Go.Proofs.Ytmmngcjnofcmmaa
