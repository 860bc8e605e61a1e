/- A literal of bytes. -/
import Derived.Test.YtmmngcjnofcmmaaRows
import Derived.Test.YtmmngcjnofcmmaaBytes
namespace Go.Proofs.Ytmmngcjnofcmmaa
open Go.RowKit

theorem RowA.lit (w : World) (xs : List Nat) (t : TypeId) : RowA (w.alloc (.cells (bytesV xs).toArray t)) (some ⟨w.heap.size, 0, none⟩) xs := fun _ => ⟨w.heap.size, 0, rfl, by simp, fun i hi => by
  have h := cell_of_row (w.alloc (.cells (bytesV xs).toArray t)) w.heap.size (0 + i) _ t (0, 0) (heap_alloc_new w _)
  rw [h, Nat.zero_add, List.getElem?_toArray]
  exact bytesV_at xs i hi⟩
theorem RowA.litAt (w : World) (xs : List Nat) (t : TypeId) {g : Nat} (hg : g = w.heap.size) : RowA (w.alloc (.cells (bytesV xs).toArray t)) (some ⟨g, 0, none⟩) xs := by subst hg; exact RowA.lit w xs t
theorem OwnB.rowg {w : World} {B : Nat} {v : Value} {xs : List Nat} (h : OwnB w B v xs) : ∃ ad cap, v = .slice ad xs.length cap ∧ RowA w ad xs ∧ ∀ b off, ad = some ⟨b, off, none⟩ → B ≤ b ∧ b < w.heap.size := by
  obtain ⟨ad, cap, rfl, hr⟩ := h.row
  refine ⟨ad, cap, rfl, hr, fun b off e => ?_⟩
  subst e
  exact World.ownsRow.lt h b rfl
/-- the same, and the capacity -/
theorem OwnB.rowc {w : World} {B : Nat} {v : Value} {xs : List Nat} (h : OwnB w B v xs) : ∃ ad cap, v = .slice ad xs.length cap ∧ RowA w ad xs ∧ xs.length ≤ cap ∧ ∀ b off, ad = some ⟨b, off, none⟩ → B ≤ b ∧ b < w.heap.size := by
  obtain ⟨ad, cap, rfl, hr, hg⟩ := h.rowg
  refine ⟨ad, cap, rfl, hr, ?_, hg⟩
  rcases h.form with ⟨h1, h2⟩ | ⟨g, c, h1, _, _, h4, _⟩
  · rw [h2]; exact Nat.zero_le _
  · simp only [Value.slice.injEq] at h1
    omega
end Go.Proofs.Ytmmngcjnofcmmaa
