/- A row of bytes that comes in as an argument, opened. -/
import Derived.Test.YtmmngcjnofcmmaaRows
import Derived.Test.YtmmngcjnofcmmaaOpen0
import Derived.Test.YtmmngcjnofcmmaaBytes
import Derived.ChangeSlices
import Derived.SizedLaws
namespace Go.Proofs.Ytmmngcjnofcmmaa
open Go.ChangeShapes Go.WideShapes Go.ChangeAt Go.RowKit

theorem cells_u8 : Try.prog.cellsOf 5 = 1 := by kernel_rfl
theorem bytes_u8 : Try.prog.bytesOf 5 = 1 := by kernel_rfl
section
variable {H : Type} {enc : TypeId × Value → H} {w : World} {r : Reach} {b0 : Nat} {v : Value} {d : DataW H} {p : List MemPlace}
set_option maxRecDepth 100000 in
theorem open_row (hv : Value.okWide Try.prog w r b0 26 v) (h : DataW.Trod enc Try.prog w 0 (fun _ => true) true 26 v d p) :
    ∃ (ad : Option Addr) (cap : Nat) (xs : List Nat), v = .slice ad xs.length cap ∧ RowA w ad xs ∧ (∀ i, i < xs.length → xs.getD i 0 ≤ 255) ∧ (xs.length = 0 ∨ ∃ el sp, d = .slice el sp ∧ xs.length ≤ el.length) := by
  obtain ⟨a, len, cap, rfl⟩ := okWide_slice Try.underlying26 hv
  obtain ⟨fuel, hf⟩ := h
  rcases open_ints Try.underlying26 Try.underlying5 cells_u8 hf with ⟨hcs, _⟩ | ⟨a', len', cap', zs, hcs, _, hl, hm, hz, hx, hcell, hwz⟩
  · simp [Value.cells] at hcs
    obtain ⟨rfl, rfl, rfl⟩ := hcs
    exact ⟨none, 0, [], rfl, RowA.nil _ _, fun i hi => by simp at hi, .inl rfl⟩
  · simp [Value.cells] at hcs
    obtain ⟨rfl, rfl, rfl⟩ := hcs
    simp only [Prod.mk.injEq] at hx
    obtain ⟨rfl, rfl⟩ := hx
    simp only [if_true] at hz
    have hlen : ((zs.take len).map Int.toNat).length = len := by simp; omega
    have hat : ∀ i, i < len → ((((zs.take len).map Int.toNat).getD i 0 : Nat) : Int) = zs.getD i 0 ∧ ((zs.take len).map Int.toNat).getD i 0 ≤ 255 := fun i hi => by
      have hi2 : i < zs.length := by omega
      obtain ⟨m, hm1, hm2⟩ := wf_u8 (hwz zs[i] (List.getElem_mem hi2))
      simp only [List.getD, List.getElem?_map, List.getElem?_take, if_pos hi, List.getElem?_eq_getElem hi2, Option.map_some, Option.getD_some]
      omega
    refine ⟨some a', cap, (zs.take len).map Int.toNat, by rw [hlen], ?_, fun i hi => (hat i (by omega)).2, .inr ⟨_, _, rfl, by simp [lits]⟩⟩
    intro h0
    rw [hlen] at h0 ⊢
    obtain ⟨b, o, s⟩ := a'
    obtain rfl : s = none := by simpa [Addr.add] using World.cell?_spot (hcell 0 (by omega))
    have hlt := World.block_lt_of_cell? _ _ (hcell 0 (by omega))
    rw [Go.WideShapes.add_plain] at hlt
    refine ⟨b, o, rfl, hlt, fun i hi => ?_⟩
    rw [← Go.WideShapes.add_plain, hcell i (by omega), (hat i hi).1]
theorem row_size {ts : List TypeId} {ds : List (DataW H)} (h : (DataW.weightsEach Try.prog ts ds).all (· ≤ reachBytes) = true) {j n : Nat} {d : DataW H} (ht : ts[j]? = some 26) (hd : ds[j]? = some d)
    (hn : n = 0 ∨ ∃ el sp, d = .slice el sp ∧ n ≤ el.length) : n ≤ 140737488351232 := by
  rcases hn with rfl | ⟨el, sp, rfl, hle⟩
  · omega
  · have := sized_slice h ht hd Try.underlying26
    rw [bytes_u8] at this
    unfold reachBytes at this
    omega
theorem bulk_one (d : DataW H) : 1 ≤ Rows.uptoBulk d := by
  cases d with
  | lit l => cases l <;> simp [Rows.uptoBulk]
  | nil => simp [Rows.uptoBulk]
  | ptr d => simp [Rows.uptoBulk]
  | slice elems spare => simp [Rows.uptoBulk]
  | agg parts => simp [Rows.uptoBulk]
  | iface t d => simp [Rows.uptoBulk]
  | map entries => simp [Rows.uptoBulk]
  | held h => simp [Rows.uptoBulk]
theorem bulk_length (l : List (DataW H)) : l.length ≤ Rows.uptoBulkAll l := by
  induction l with
  | nil => simp [Rows.uptoBulkAll]
  | cons x r ih => have := bulk_one x; simp only [Rows.uptoBulkAll, List.length_cons]; omega
theorem bulk_part {l : List (DataW H)} {j : Nat} {d : DataW H} (h : l[j]? = some d) : Rows.uptoBulk d ≤ Rows.uptoBulkAll l := by
  induction l generalizing j with
  | nil => simp at h
  | cons x r ih =>
    simp only [Rows.uptoBulkAll]
    cases j with
    | zero => simp at h; subst h; omega
    | succ j => have := ih (j := j) (by simpa using h); omega
theorem row_upto {ds : List (DataW H)} (hk : Rows.uptoSmall H ds = true) {j n : Nat} {d : DataW H} (hd : ds[j]? = some d) (hn : n = 0 ∨ ∃ el sp, d = .slice el sp ∧ n ≤ el.length) : n ≤ 1048576 := by
  have h : Rows.uptoBulkAll ds ≤ 1048576 := of_decide_eq_true hk
  rcases hn with rfl | ⟨el, sp, rfl, hle⟩
  · omega
  · have h1 := bulk_part hd
    have h2 := bulk_length el
    simp only [Rows.uptoBulk] at h1
    omega
end
end Go.Proofs.Ytmmngcjnofcmmaa
