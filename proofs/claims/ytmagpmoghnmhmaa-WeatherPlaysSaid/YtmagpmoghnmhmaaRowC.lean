/- A cell that reads as a row of bytes. -/
import Derived.Test.YtmagpmoghnmhmaaRows
import Derived.Test.YtmagpmoghnmhmaaOpenB
namespace Go.Proofs.Ytmagpmoghnmhmaa
open Go.ChangeShapes Go.WideShapes Go.ChangeAt Go.RowKit

theorem cells_row : Try.prog.cellsOf 40 = 1 := by kernel_rfl
section
variable {H : Type} {enc : TypeId × Value → H} {w : World} {d : DataW H} {p : List MemPlace} {n : Nat}
set_option maxRecDepth 100000 in
theorem row_cells {u : Value} (hf : DataW.trod enc Try.prog w 0 (fun _ => true) true n 40 [u] = some (d, p)) :
    ∃ (ad : Option Addr) (cap : Nat) (xs : List Nat), u = .slice ad xs.length cap ∧ RowA w ad xs ∧ (∀ i, i < xs.length → xs.getD i 0 ≤ 255) ∧ (xs.length = 0 ∨ ∃ el sp, d = .slice el sp ∧ xs.length ≤ el.length) := by
  rcases open_ints Try.underlying40 Try.underlying5 cells_u8 hf with ⟨hcs, _⟩ | ⟨a', len', cap', zs, hcs, _, hl, hm, hz, hx, hcell, hwz⟩
  · simp at hcs
    subst hcs
    exact ⟨none, 0, [], rfl, RowA.nil _ _, fun i hi => by simp at hi, .inl rfl⟩
  · simp at hcs
    subst hcs
    simp only [Prod.mk.injEq] at hx
    obtain ⟨rfl, rfl⟩ := hx
    simp only [if_true] at hz
    have hlen : ((zs.take len').map Int.toNat).length = len' := by simp; omega
    have hat : ∀ i, i < len' → ((((zs.take len').map Int.toNat).getD i 0 : Nat) : Int) = zs.getD i 0 ∧ ((zs.take len').map Int.toNat).getD i 0 ≤ 255 := fun i hi => by
      have hi2 : i < zs.length := by omega
      obtain ⟨m, hm1, hm2⟩ := wf_u8 (hwz zs[i] (List.getElem_mem hi2))
      simp only [List.getD, List.getElem?_map, List.getElem?_take, if_pos hi, List.getElem?_eq_getElem hi2, Option.map_some, Option.getD_some]
      omega
    refine ⟨some a', cap', (zs.take len').map Int.toNat, by rw [hlen], ?_, fun i hi => (hat i (by omega)).2, .inr ⟨_, _, rfl, by simp [lits]⟩⟩
    intro h0
    rw [hlen] at h0 ⊢
    obtain ⟨b, o, s⟩ := a'
    obtain rfl : s = none := by simpa [Addr.add] using World.cell?_spot (hcell 0 (by omega))
    have hlt := World.block_lt_of_cell? _ _ (hcell 0 (by omega))
    rw [Go.WideShapes.add_plain] at hlt
    refine ⟨b, o, rfl, hlt, fun i hi => ?_⟩
    rw [← Go.WideShapes.add_plain, hcell i (by omega), (hat i hi).1]
end
end Go.Proofs.Ytmagpmoghnmhmaa
