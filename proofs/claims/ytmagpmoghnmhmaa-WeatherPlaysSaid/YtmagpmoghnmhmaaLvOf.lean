/- Levels out of whatever number; the weather's box. -/
import Derived.Test.YtmagpmoghnmhmaaRows
import Derived.Test.YtmagpmoghnmhmaaWSpell
namespace Go.Proofs.Ytmagpmoghnmhmaa
open Go.RowKit

/-- levels out of whatever number -/
theorem lv_of (z : Int) : ∃ lv : Nat, (2 : Int) + z.tmod 15 % 15 = lv ∧ 2 ≤ lv ∧ lv ≤ 16 ∧ -14 ≤ z.tmod 15 ∧ z.tmod 15 ≤ 14 := by
  have h1 : -15 < z.tmod 15 := Int.lt_tmod_of_pos z (by omega)
  have h2 : z.tmod 15 < 15 := Int.tmod_lt_of_pos z (by omega)
  generalize z.tmod 15 = t at *
  exact ⟨(2 + t % 15).toNat, by omega, by omega, by omega, by omega, by omega⟩
theorem boxW (w w1 : World) (p : Gf2.Wp) (S : Nat) (ty : TypeId) (hb : Below (w.heap.size + 1) (w.alloc (.cells #[.int .i64 p.D, .int .u64 p.T, .int .u64 S, .int .i64 p.W, .int .i64 p.B, .int .i64 p.C, .int .i64 p.M] ty)) w1) :
    w1.heap[w.heap.size]? = some (.cells #[.int .i64 p.D, .int .u64 p.T, .int .u64 S, .int .i64 p.W, .int .i64 p.B, .int .i64 p.C, .int .i64 p.M] ty (0, 0)) :=
  (hb.block _ (by omega)).trans (heap_alloc_new w _)
theorem boxW_cells {w : World} {g : Nat} {p : Gf2.Wp} {S : Nat} {ty : TypeId} (h : w.heap[g]? = some (.cells #[.int .i64 p.D, .int .u64 p.T, .int .u64 S, .int .i64 p.W, .int .i64 p.B, .int .i64 p.C, .int .i64 p.M] ty (0, 0))) :
    w.cell? ⟨g, 0, none⟩ = some (.int .i64 p.D) ∧ w.cell? ⟨g, 1, none⟩ = some (.int .u64 p.T) ∧ w.cell? ⟨g, 2, none⟩ = some (.int .u64 S) ∧ w.cell? ⟨g, 3, none⟩ = some (.int .i64 p.W) ∧ w.cell? ⟨g, 4, none⟩ = some (.int .i64 p.B) ∧ w.cell? ⟨g, 5, none⟩ = some (.int .i64 p.C) ∧ w.cell? ⟨g, 6, none⟩ = some (.int .i64 p.M) :=
  ⟨cell_of_row w g 0 _ ty (0, 0) h, cell_of_row w g 1 _ ty (0, 0) h, cell_of_row w g 2 _ ty (0, 0) h, cell_of_row w g 3 _ ty (0, 0) h, cell_of_row w g 4 _ ty (0, 0) h, cell_of_row w g 5 _ ty (0, 0) h, cell_of_row w g 6 _ ty (0, 0) h⟩
end Go.Proofs.Ytmagpmoghnmhmaa
