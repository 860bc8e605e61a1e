/- A list of calls of a weather, that comes in as an argument, opened. -/
import Derived.Test.YtmagpmoghnmhmaaRows
import Derived.Test.YtmagpmoghnmhmaaRowC
import Derived.Deep.Slices
namespace Go.Proofs.Ytmagpmoghnmhmaa
open Go.ChangeShapes Go.WideShapes Go.ChangeAt Go.RowKit

theorem cells_op : Try.prog.cellsOf 42 = 3 := by kernel_rfl
/-- a list of calls -/
structure OpAt (w : World) (b o : Nat) (k n : Int) (ai : Option Addr) (ci : Nat) (xs : List Nat) : Prop where
  c0 : w.cell? ⟨b, o, none⟩ = some (.int .i64 k)
  c1 : w.cell? ⟨b, o + 1, none⟩ = some (.int .i64 n)
  c2 : w.cell? ⟨b, o + 2, none⟩ = some (.slice ai xs.length ci)
  row : RowA w ai xs
  small : ∀ j, j < xs.length → xs.getD j 0 ≤ 255
  len : xs.length ≤ 140737488351232
def OpsA (w : World) (ad : Option Addr) (len : Nat) : Prop := ∀ i, i < len → ∃ b off, ad = some ⟨b, off, none⟩ ∧ b < w.heap.size ∧ ∃ (k n : Int) (ai : Option Addr) (ci : Nat) (xs : List Nat), OpAt w b (off + i * 3) k n ai ci xs
section
variable {H : Type} {enc : TypeId × Value → H} {w : World} {r : Reach} {b0 : Nat} {v : Value} {d : DataW H} {p : List MemPlace}
theorem weights_all {P : Program} {e : TypeId} {l : List (DataW H)} {i : Nat} {d : DataW H} (h : l[i]? = some d) {n : Nat} (hn : n ∈ d.weights P e) : n ∈ DataW.weightsAll P e l := by
  induction l generalizing i with
  | nil => simp at h
  | cons x l ih =>
    simp only [DataW.weightsAll, List.mem_append]
    cases i with
    | zero => simp at h; subst h; exact .inl hn
    | succ i => exact .inr (ih (by simpa using h))
set_option maxRecDepth 100000 in
theorem open_ops (hv : Value.okWide Try.prog w r b0 27 v) (h : DataW.Trod enc Try.prog w 0 (fun _ => true) true 27 v d p) (hs : ∀ n ∈ d.weights Try.prog 27, n ≤ reachBytes) :
    ∃ (ad : Option Addr) (len cap : Nat), v = .slice ad len cap ∧ OpsA w ad len ∧ len ≤ 140737488351232 := by
  obtain ⟨a, len, cap, rfl⟩ := okWide_slice Try.underlying27 hv
  obtain ⟨fuel, hf⟩ := h
  rcases Go.Deep.open_slice Try.underlying27 hf with ⟨hcs, _⟩ | ⟨a', len', cap', m, n, D, Pl, hcs, _, hl, hm, hmm, hx, hel⟩
  · simp [Value.cells] at hcs
    obtain ⟨rfl, rfl, rfl⟩ := hcs
    exact ⟨none, 0, 0, rfl, fun i hi => absurd hi (by omega), by omega⟩
  · simp [Value.cells] at hcs
    obtain ⟨rfl, rfl, rfl⟩ := hcs
    simp only [if_true] at hmm
    subst hmm
    simp only [Prod.mk.injEq] at hx
    obtain ⟨rfl, rfl⟩ := hx
    have hlen : len ≤ 140737488351232 := by
      have := hs ((((List.range len).map D).length + ((List.range (m - len)).map fun j => D (len + j)).length) * Try.prog.bytesOf 42) (by simp [DataW.weights, Try.underlying27])
      rw [show Try.prog.bytesOf 42 = 40 by kernel_rfl] at this
      simp at this
      unfold reachBytes at this
      omega
    refine ⟨some a', len, m, rfl, fun i hi => ?_, hlen⟩
    obtain ⟨cs', hc, ht⟩ := hel i (by omega)
    rw [cells_op] at hc
    obtain ⟨_, hl3, hat⟩ := World.cells?_some hc
    obtain ⟨c0, c1, c2, rfl⟩ := list3 hl3
    obtain ⟨ys, n', _, hD, _, hlen3, hg⟩ := DataW.trod_struct Try.underlying42 ht
    obtain ⟨y0, y1, y2, rfl⟩ := list3 (l := ys) hlen3
    have g0 : DataW.trod enc Try.prog w 0 (fun _ => true) true n' 3 (([c0, c1, c2].drop 0).take (Try.prog.cellsOf 3)) = some y0 := hg 0 _ rfl
    have g1 : DataW.trod enc Try.prog w 0 (fun _ => true) true n' 3 (([c0, c1, c2].drop 1).take (Try.prog.cellsOf 3)) = some y1 := hg 1 _ rfl
    have g2 : DataW.trod enc Try.prog w 0 (fun _ => true) true n' 40 (([c0, c1, c2].drop 2).take (Try.prog.cellsOf 40)) = some y2 := hg 2 _ rfl
    rw [cells_int] at g0 g1
    rw [cells_row] at g2
    obtain ⟨k, e0, _, _⟩ := DataW.trod_int Try.underlying3 g0
    obtain ⟨q, e1, _, _⟩ := DataW.trod_int Try.underlying3 g1
    simp at e0 e1
    subst e0 e1
    obtain ⟨ai, ci, xs, e2, hr, h8, hn⟩ := row_cells (d := y2.1) (p := y2.2) g2
    subst e2
    simp only [Prod.mk.injEq] at hD
    have hxl : xs.length ≤ 140737488351232 := by
      rcases hn with h0 | ⟨el, sp, he, hle⟩
      · omega
      · have hmem : (el.length + sp.length) * Try.prog.bytesOf 5 ∈ (D i).weights Try.prog 42 := by
          rw [hD.1]
          simp [DataW.weights, DataW.weightsEach, Try.underlying42, he, Try.underlying40]
        have := hs _ (by
          simp only [DataW.weights, Try.underlying27]
          exact List.mem_cons_of_mem _ (List.mem_append_left _ (weights_all (i := i) (by simp [hi]) hmem)))
        rw [bytes_u8] at this
        unfold reachBytes at this
        omega
    obtain ⟨cz, hcz, _⟩ := hel 0 (by omega)
    rw [cells_op] at hcz
    obtain ⟨_, hz3, hzat⟩ := World.cells?_some hcz
    obtain ⟨z0, z1, z2, rfl⟩ := list3 hz3
    have qz := hzat 0 (by omega)
    obtain ⟨b, o, s⟩ := a'
    obtain rfl : s = none := by simpa [Addr.add] using World.cell?_spot qz
    have q0 := hat 0 (by omega)
    have q1 := hat 1 (by omega)
    have q2 := hat 2 (by omega)
    rw [Go.WideShapes.add_plain, Go.WideShapes.add_plain] at q0 q1 q2
    have hlt := World.block_lt_of_cell? _ _ q0
    exact ⟨b, o, rfl, hlt, k, q, ai, ci, xs, ⟨q0, q1, q2, hr, h8, hxl⟩⟩
end
end Go.Proofs.Ytmagpmoghnmhmaa
