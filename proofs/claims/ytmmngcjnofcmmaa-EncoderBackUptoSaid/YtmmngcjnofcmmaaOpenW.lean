/- The struct Words of the encoder's laws, that comes in as an argument, opened. -/
import Derived.Test.YtmmngcjnofcmmaaRows
import Derived.Test.YtmmngcjnofcmmaaOpenB
namespace Go.Proofs.Ytmmngcjnofcmmaa
open Go.ChangeShapes Go.WideShapes Go.ChangeAt Go.RowKit

theorem cells_row : Try.prog.cellsOf 26 = 1 := by kernel_rfl
theorem cells_words : Try.prog.cellsOf 38 = 8 := by kernel_rfl
theorem list4 {α : Type} {l : List α} (h : l.length = 4) : ∃ a b c d, l = [a, b, c, d] := by
  match l, h with
  | [a, b, c, d], _ => exact ⟨a, b, c, d, rfl⟩
theorem list8 {α : Type} {l : List α} (h : l.length = 8) : ∃ a b c d e f g i, l = [a, b, c, d, e, f, g, i] := by
  match l, h with
  | [a, b, c, d, e, f, g, i], _ => exact ⟨a, b, c, d, e, f, g, i, rfl⟩
section
variable {H : Type} {enc : TypeId × Value → H} {w : World} {r : Reach} {b0 : Nat} {v : Value} {d : DataW H} {p : List MemPlace} {n : Nat}
set_option maxRecDepth 100000 in
theorem row_cells {u : Value} (hf : DataW.trod enc Try.prog w 0 (fun _ => true) true n 26 [u] = some (d, p)) :
    ∃ (ad : Option Addr) (cap : Nat) (xs : List Nat), u = .slice ad xs.length cap ∧ RowA w ad xs ∧ (∀ i, i < xs.length → xs.getD i 0 ≤ 255) ∧ (xs.length = 0 ∨ ∃ el sp, d = .slice el sp ∧ xs.length ≤ el.length) := by
  rcases open_ints Try.underlying26 Try.underlying5 cells_u8 hf with ⟨hcs, _⟩ | ⟨a', len', cap', zs, hcs, _, hl, hm, hz, hx, hcell, hwz⟩
  · simp at hcs
    subst hcs
    exact ⟨none, 0, [], rfl, RowA.nil _ _, fun i hi => by simp at hi, .inl rfl⟩
  · simp at hcs
    subst hcs
    simp only [Prod.mk.injEq] at hx
    obtain ⟨rfl, rfl⟩ := hx
    simp only [if_true] at hz
    have hlen : ((zs.take len').map Int.toNat).length = len' := by simp; omega
    have hat : ∀ i, i < len' → ((((zs.take len').map Int.toNat).getD i 0 : Nat) : Int) = zs.getD i 0 ∧ ((zs.take len').map Int.toNat).getD i 0 ≤ 255 := fun i hi => by
      have hi2 : i < zs.length := by omega
      obtain ⟨m, hm1, hm2⟩ := wf_u8 (hwz zs[i] (List.getElem_mem hi2))
      simp only [List.getD, List.getElem?_map, List.getElem?_take, if_pos hi, List.getElem?_eq_getElem hi2, Option.map_some, Option.getD_some]
      omega
    refine ⟨some a', cap', (zs.take len').map Int.toNat, by rw [hlen], ?_, fun i hi => (hat i (by omega)).2, .inr ⟨_, _, rfl, by simp [lits]⟩⟩
    intro h0
    rw [hlen] at h0 ⊢
    obtain ⟨b, o, s⟩ := a'
    obtain rfl : s = none := by simpa [Addr.add] using World.cell?_spot (hcell 0 (by omega))
    have hlt := World.block_lt_of_cell? _ _ (hcell 0 (by omega))
    rw [Go.WideShapes.add_plain] at hlt
    refine ⟨b, o, rfl, hlt, fun i hi => ?_⟩
    rw [← Go.WideShapes.add_plain, hcell i (by omega), (hat i hi).1]
set_option maxRecDepth 100000 in
theorem code_cells {c0 c1 c2 c3 c4 : Value} (hf : DataW.trod enc Try.prog w 0 (fun _ => true) true n 25 [c0, c1, c2, c3, c4] = some (d, p)) :
    ∃ (K R : Int) (a b c : Nat), (c0 = .int .i64 K ∧ c1 = .int .i64 R ∧ c2 = .int .u32 a ∧ c3 = .int .u32 b ∧ c4 = .int .u32 c) ∧ a ≤ 4294967295 ∧ b ≤ 4294967295 ∧ c ≤ 4294967295 := by
  obtain ⟨xs, n, _, _, _, hlen, hg⟩ := DataW.trod_struct Try.underlying25 hf
  obtain ⟨x0, x1, x2, rfl⟩ := list3 (l := xs) hlen
  have g0 : DataW.trod enc Try.prog w 0 (fun _ => true) true n 3 (([c0, c1, c2, c3, c4].drop 0).take (Try.prog.cellsOf 3)) = some x0 := hg 0 _ rfl
  have g1 : DataW.trod enc Try.prog w 0 (fun _ => true) true n 3 (([c0, c1, c2, c3, c4].drop 1).take (Try.prog.cellsOf 3)) = some x1 := hg 1 _ rfl
  have g2 : DataW.trod enc Try.prog w 0 (fun _ => true) true n 23 (([c0, c1, c2, c3, c4].drop 2).take (Try.prog.cellsOf 23)) = some x2 := hg 2 _ rfl
  rw [cells_int] at g0 g1
  rw [cells_gen] at g2
  obtain ⟨K, e0, _, wK⟩ := DataW.trod_int Try.underlying3 g0
  obtain ⟨R, e1, _, wR⟩ := DataW.trod_int Try.underlying3 g1
  obtain ⟨ys, m, _, _, _, hl, hy⟩ := DataW.trod_array Try.underlying23 g2
  obtain ⟨y0, y1, y2, rfl⟩ := list3 hl
  have f0 := hy 0 (by omega)
  have f1 := hy 1 (by omega)
  have f2 := hy 2 (by omega)
  rw [cells_u32] at f0 f1 f2
  obtain ⟨a, e2, _, wa⟩ := DataW.trod_int Try.underlying22 f0
  obtain ⟨b, e3, _, wb⟩ := DataW.trod_int Try.underlying22 f1
  obtain ⟨c, e4, _, wc⟩ := DataW.trod_int Try.underlying22 f2
  obtain ⟨a', rfl, ha⟩ := wf_u32 wa
  obtain ⟨b', rfl, hb⟩ := wf_u32 wb
  obtain ⟨c', rfl, hc⟩ := wf_u32 wc
  simp at e0 e1 e2 e3 e4
  exact ⟨K, R, a', b', c', ⟨e0, e1, e2, e3, e4⟩, ha, hb, hc⟩
set_option maxRecDepth 100000 in
theorem open_words (hv : Value.okWide Try.prog w r b0 38 v) (h : DataW.Trod enc Try.prog w 0 (fun _ => true) true 38 v d p) :
    ∃ (K R : Int) (a b c : Nat) (A1 : Option Addr) (c1 : Nat) (xs : List Nat) (A2 : Option Addr) (c2 : Nat) (ys : List Nat) (A3 : Option Addr) (c3 : Nat) (zs : List Nat) (d0 d1 d2 d3 : DataW H),
      v = .agg #[.int .i64 K, .int .i64 R, .int .u32 a, .int .u32 b, .int .u32 c, .slice A1 xs.length c1, .slice A2 ys.length c2, .slice A3 zs.length c3] ∧
      (a ≤ 4294967295 ∧ b ≤ 4294967295 ∧ c ≤ 4294967295) ∧ RowA w A1 xs ∧ RowA w A2 ys ∧ RowA w A3 zs ∧ d = .agg [d0, d1, d2, d3] ∧
      (xs.length = 0 ∨ ∃ el sp, d1 = .slice el sp ∧ xs.length ≤ el.length) ∧ (ys.length = 0 ∨ ∃ el sp, d2 = .slice el sp ∧ ys.length ≤ el.length) ∧ (zs.length = 0 ∨ ∃ el sp, d3 = .slice el sp ∧ zs.length ≤ el.length) := by
  obtain ⟨cs, rfl, hsz⟩ := okWide_struct Try.underlying38 hv
  obtain ⟨l⟩ := cs
  obtain ⟨c0, c1, c2, c3, c4, c5, c6, c7, rfl⟩ := list8 (l := l) (hsz.trans cells_words)
  obtain ⟨fuel, hf⟩ := h
  obtain ⟨xs, n, _, hx, _, hlen, hg⟩ := DataW.trod_struct Try.underlying38 hf
  obtain ⟨x0, x1, x2, x3, rfl⟩ := list4 (l := xs) hlen
  have g0 : DataW.trod enc Try.prog w 0 (fun _ => true) true n 25 (([c0, c1, c2, c3, c4, c5, c6, c7].drop 0).take (Try.prog.cellsOf 25)) = some x0 := hg 0 _ rfl
  have g1 : DataW.trod enc Try.prog w 0 (fun _ => true) true n 26 (([c0, c1, c2, c3, c4, c5, c6, c7].drop 5).take (Try.prog.cellsOf 26)) = some x1 := hg 1 _ rfl
  have g2 : DataW.trod enc Try.prog w 0 (fun _ => true) true n 26 (([c0, c1, c2, c3, c4, c5, c6, c7].drop 6).take (Try.prog.cellsOf 26)) = some x2 := hg 2 _ rfl
  have g3 : DataW.trod enc Try.prog w 0 (fun _ => true) true n 26 (([c0, c1, c2, c3, c4, c5, c6, c7].drop 7).take (Try.prog.cellsOf 26)) = some x3 := hg 3 _ rfl
  rw [cells_code] at g0
  rw [cells_row] at g1 g2 g3
  obtain ⟨K, R, a, b, c, ⟨rfl, rfl, rfl, rfl, rfl⟩, ha, hb, hc⟩ := code_cells (d := x0.1) (p := x0.2) g0
  obtain ⟨A1, k1, xs, rfl, r1, _, n1⟩ := row_cells (d := x1.1) (p := x1.2) g1
  obtain ⟨A2, k2, ys, rfl, r2, _, n2⟩ := row_cells (d := x2.1) (p := x2.2) g2
  obtain ⟨A3, k3, zs, rfl, r3, _, n3⟩ := row_cells (d := x3.1) (p := x3.2) g3
  simp only [Prod.mk.injEq] at hx
  exact ⟨K, R, a, b, c, A1, k1, xs, A2, k2, ys, A3, k3, zs, x0.1, x1.1, x2.1, x3.1, rfl, ⟨ha, hb, hc⟩, r1, r2, r3, hx.1, n1, n2, n3⟩
theorem part_upto {ds parts : List (DataW H)} (hk : Rows.uptoSmall H ds = true) {j i n : Nat} {d : DataW H} (hd : ds[j]? = some (.agg parts)) (hp : parts[i]? = some d) (hn : n = 0 ∨ ∃ el sp, d = .slice el sp ∧ n ≤ el.length) : n ≤ 1048576 := by
  have h : Rows.uptoBulkAll ds ≤ 1048576 := of_decide_eq_true hk
  rcases hn with rfl | ⟨el, sp, rfl, hle⟩
  · omega
  · have h1 := bulk_part hd
    have h2 := bulk_length el
    have h3 := bulk_part hp
    simp only [Rows.uptoBulk] at h1 h3
    omega
end
end Go.Proofs.Ytmmngcjnofcmmaa
