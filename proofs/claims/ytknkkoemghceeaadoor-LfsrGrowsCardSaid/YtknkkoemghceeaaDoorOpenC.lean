/- A row of bytes that comes in as an argument, opened, its capacity too. -/
import Derived.Test.YtknkkoemghceeaaDoorRows
import Derived.Test.YtknkkoemghceeaaDoorOpenB
namespace Go.Proofs.YtknkkoemghceeaaDoor
open Go.ChangeShapes Go.WideShapes Go.ChangeAt Go.RowKit

section
variable {H : Type} {enc : TypeId × Value → H} {w : World} {r : Reach} {b0 : Nat} {v : Value} {d : DataW H} {p : List MemPlace}
set_option maxRecDepth 100000 in
theorem open_rowc (hv : Value.okWide Tryd.prog w r b0 25 v) (h : DataW.Trod enc Tryd.prog w 0 (fun _ => true) true 25 v d p) :
    ∃ (ad : Option Addr) (cap : Nat) (xs : List Nat), v = .slice ad xs.length cap ∧ RowA w ad xs ∧ (∀ i, i < xs.length → xs.getD i 0 ≤ 255) ∧ (xs.length = 0 ∨ ∃ el sp, d = .slice el sp ∧ xs.length ≤ el.length) ∧ xs.length ≤ cap := by
  obtain ⟨a, len, cap, rfl⟩ := okWide_slice Tryd.underlying25 hv
  obtain ⟨fuel, hf⟩ := h
  rcases open_ints Tryd.underlying25 Tryd.underlying5 cells_u8 hf with ⟨hcs, _⟩ | ⟨a', len', cap', zs, hcs, _, hl, hm, hz, hx, hcell, hwz⟩
  · simp [Value.cells] at hcs
    obtain ⟨rfl, rfl, rfl⟩ := hcs
    exact ⟨none, 0, [], rfl, RowA.nil _ _, fun i hi => by simp at hi, .inl rfl, by simp⟩
  · simp [Value.cells] at hcs
    obtain ⟨rfl, rfl, rfl⟩ := hcs
    simp only [Prod.mk.injEq] at hx
    obtain ⟨rfl, rfl⟩ := hx
    simp only [if_true] at hz
    have hlen : ((zs.take len).map Int.toNat).length = len := by simp; omega
    have hat : ∀ i, i < len → ((((zs.take len).map Int.toNat).getD i 0 : Nat) : Int) = zs.getD i 0 ∧ ((zs.take len).map Int.toNat).getD i 0 ≤ 255 := fun i hi => by
      have hi2 : i < zs.length := by omega
      obtain ⟨m, hm1, hm2⟩ := wf_u8 (hwz zs[i] (List.getElem_mem hi2))
      simp only [List.getD, List.getElem?_map, List.getElem?_take, if_pos hi, List.getElem?_eq_getElem hi2, Option.map_some, Option.getD_some]
      omega
    refine ⟨some a', cap, (zs.take len).map Int.toNat, by rw [hlen], ?_, fun i hi => (hat i (by omega)).2, .inr ⟨_, _, rfl, by simp [lits]⟩, by rw [hlen]; exact hl⟩
    intro h0
    rw [hlen] at h0 ⊢
    obtain ⟨b, o, s⟩ := a'
    obtain rfl : s = none := by simpa [Addr.add] using World.cell?_spot (hcell 0 (by omega))
    have hlt := World.block_lt_of_cell? _ _ (hcell 0 (by omega))
    rw [Go.WideShapes.add_plain] at hlt
    refine ⟨b, o, rfl, hlt, fun i hi => ?_⟩
    rw [← Go.WideShapes.add_plain, hcell i (by omega), (hat i hi).1]
end
end Go.Proofs.YtknkkoemghceeaaDoor
