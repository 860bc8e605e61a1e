/- append(s, make([]byte, k)...), where s is of the call's own: k zeros behind s. -/
import Derived.Test.YtmmngcjnofcmmaaRows
import Derived.Test.YtmmngcjnofcmmaaLit
import Derived.Lib.AppendZeros
import Derived.Lib.AppendZerosOnto
namespace Go.Proofs.Ytmmngcjnofcmmaa
open Go.RowKit

theorem zero_cells (n : Nat) : Builtin.zeroCells (Value.int .u8 0).cells n = (bytesV (List.replicate n 0)).toArray := by
  apply Array.ext'
  apply List.ext_getElem?
  intro i
  simp only [Builtin.zeroCells, bytesV, Value.cells, List.getElem?_map, List.getElem?_replicate]
  rcases Nat.lt_or_ge i n with h | h
  · simp [h, Nat.mod_one]
  · simp [h]
theorem run_appZ {w : World} {B : Nat} {v : Value} {xs : List Nat} (ty : TypeId) (hown : OwnB w B v xs) (k : Nat) (h0 : 0 < k)
    (hb : xs.length + k ≤ 140737488355328) (hB : B ≤ w.heap.size) :
    ∃ v' w', (Builtin.append_ #[26, 3] ty #[v, .int .i64 k]).run Try.prog w = .ok v' w' ∧ OwnB w' B v' (xs ++ List.replicate k 0) ∧ w.grownBy w' v.ownBlock ∧ (v'.ownBlock = v.ownBlock ∨ v'.ownBlock = some w.heap.size) := by
  obtain ⟨i0, hi, hi0, hi1, hi2⟩ := info_u8
  have grown : ∀ (old : Nat), old < xs.length + k → ∀ (row : Option Nat),
      OwnB (w.drew.alloc (.cells ((bytesV xs).toArray ++ (bytesV (List.replicate k 0)).toArray ++ Builtin.zeroCells (Value.int .u8 0).cells (grownCap w (xs.length + k) old 5 - (xs.length + k))) 5)) B
        (.slice (some ⟨w.heap.size, 0, none⟩) (xs.length + k) (grownCap w (xs.length + k) old 5)) (xs ++ List.replicate k 0) ∧
      w.grownBy (w.drew.alloc (.cells ((bytesV xs).toArray ++ (bytesV (List.replicate k 0)).toArray ++ Builtin.zeroCells (Value.int .u8 0).cells (grownCap w (xs.length + k) old 5 - (xs.length + k))) 5)) row := by
    intro old ho row
    have hge := grownCap_ge w (xs.length + k) old 5
    have hcm : grownCap w (xs.length + k) old 5 ≤ maxLen := grownCap_le_maxLen w (xs.length + k) old 5 (by unfold maxLen; omega)
    have hlen : (xs ++ List.replicate k 0).length = xs.length + k := by simp
    unfold OwnB
    rw [hlen]
    refine ⟨⟨by rw [bytesV_length, hlen]; omega, .inr ⟨w.heap.size, _, _, rfl, hB, heap_alloc_new w.drew _, hge, hcm, ?_, ?_⟩⟩, ⟨rfl, rfl, rfl, by simp, fun j hj _ => heap_alloc_old w.drew _ hj⟩⟩
    · simp only [Array.size_append, List.size_toArray, bytesV_length, List.length_replicate, zero_cells]
      omega
    · rw [Array.toList_append, Array.toList_append, bytesV_append]
      refine List.take_left' ?_
      simp [bytesV_length]
  have hx0 := hown
  obtain ⟨hxl, hform⟩ := hown
  rcases hform with ⟨rfl, hn0⟩ | ⟨g, cap, cur, rfl, hbg, hg, hnc, hcm, hcs, htake⟩
  · have hx : xs = [] := List.eq_nil_of_length_eq_zero hn0
    subst hx
    have hr := Lib.run_append_nil_zeros (P := Try.prog) w 26 3 ty 5 i0 (.int .u8 0) .i64 .i64 Try.underlying26 Try.underlying3 hi hi0 k h0 (by omega) (by simp at hb; omega) (by rw [hi2]; simp at hb; omega)
    have hgr := grown 0 (by omega) (Value.ownBlock (.slice none 0 0))
    rw [zero_cells k] at hr
    simp only [List.length_nil, Nat.zero_add, bytesV, List.map_nil, List.nil_append, Array.empty_append] at hgr hr ⊢
    exact ⟨_, _, hr, hgr.1, hgr.2, .inr rfl⟩
  · by_cases hroom : xs.length + k ≤ cap
    · have hns : ¬ (k * i0.size = 0) := by rw [hi1]; omega
      have hfit : xs.length * i0.size + (bytesV (List.replicate k 0)).length ≤ cur.size := by rw [hi1, hcs, bytesV_length, List.length_replicate]; omega
      have hst := run_storeCells_at Try.prog g (xs.length * i0.size) 5 (bytesV (List.replicate k 0)) 0 cur w hg (by simpa using hfit) (fun u hu => bytesV_one hu)
      simp only [Nat.add_zero] at hst
      have hw : IntKind.i64.wrap (k : Int) = k := by rw [IntKind.wrap_i64]; omega
      have hneg : ¬ ((k : Int) < 0) := by omega
      have h48i : ¬ (281474976710656 < (k : Int) * (i0.bytes : Int)) := by rw [hi2]; omega
      have hr : (Builtin.append_ #[26, 3] ty #[.slice (some ⟨g, 0, none⟩) xs.length cap, .int .i64 k]).run Try.prog w =
          .ok (.slice (some ⟨g, 0, none⟩) (xs.length + k) cap) (w.setRow g (cur.toList.take (xs.length * i0.size) ++ bytesV (List.replicate k 0) ++ cur.toList.drop (xs.length * i0.size + (bytesV (List.replicate k 0)).length)).toArray) := by
        simp [Builtin.append_, run_underlying Try.underlying26, run_underlying Try.underlying3, sizeOf, typeInfo, zeroValue, hi, hi0, asInt, asIntOf, hw, hneg, hns, h48i, hroom, zero_cells, Addr.add_lit, hst]
      refine ⟨_, _, hr, ?_, ⟨rfl, rfl, rfl, by simp, fun j _ hj => setRow_other w g j _ (fun e => hj (by simp [Value.ownBlock, e]))⟩, .inl rfl⟩
      unfold OwnB
      refine ⟨by rw [bytesV_length]; simp, .inr ⟨g, cap, _, by simp, hbg, setRow_heap w g cur _ 5 _ hg, by simpa using hroom, hcm, ?_, ?_⟩⟩
      · simp only [List.size_toArray, List.length_append, List.length_take, List.length_drop, Array.length_toList, bytesV_length, List.length_replicate, hi1]
        omega
      · rw [hi1, htake, List.length_append, List.length_replicate]
        refine List.take_left' ?_ |>.trans ?_
        · simp [bytesV_length]
        · rw [bytesV_append]
    · have hold : (Builtin.firstCells i0.size xs.length (.slice (some ⟨g, 0, none⟩) xs.length cap)).run Try.prog w.drew = .ok (bytesV xs).toArray w.drew :=
        run_firstCells_some (P := Try.prog) w.drew i0.size xs.length ⟨g, 0, none⟩ xs.length cap (bytesV xs) (by rw [bytesV_length, hi1]; omega) (by simpa using World.ownsRow.cells hx0 (g := g) rfl)
      have hr := Lib.run_append_grow_zeros (P := Try.prog) w 26 3 ty 5 i0 (.int .u8 0) .i64 .i64 Try.underlying26 Try.underlying3 hi hi0 (some ⟨g, 0, none⟩) xs.length cap (bytesV xs) hold k h0 (by omega) (by omega) (by omega) (by rw [hi2]; omega) (growslice_fits (by omega) (by rw [hi2]; omega))
      have hgr := grown cap (by omega) (Value.ownBlock (.slice (some ⟨g, 0, none⟩) xs.length cap))
      rw [zero_cells k] at hr
      exact ⟨_, _, hr, hgr.1, hgr.2, .inr rfl⟩
theorem step_appZ {w : World} {ops : Array Oper} {o : Oper} {a : Act} {K : Act → World → Prop} {Q : Exit → Act → World → Prop} {E : Prop} (hgd : o.guard = none) (s x : Operand)
    (ho : o.op = .call { callee := .builtin .append, args := #[s, x], argTypes := #[26, 3] })
    (B : Nat) (v : Value) (xs : List Nat) (hs : a.eval s = v) (hown : OwnB w B v xs) (k : Nat) (hx : a.eval x = .int .i64 k) (h0 : 0 < k)
    (hb : xs.length + k ≤ 140737488355328) (hB : B ≤ w.heap.size)
    (h : ∀ v' w', OwnB w' B v' (xs ++ List.replicate k 0) → w.grownBy w' v.ownBlock → (v'.ownBlock = v.ownBlock ∨ v'.ownBlock = some w.heap.size) → K (a.put o.dst v') w') :
    if Region.wanted o (yielded ops a.tmps) = true then Oper.wp Try.prog o a w K Q else E := by
  have hw : Region.wanted o (yielded ops a.tmps) = true := by simp [Region.wanted, hgd]
  rw [if_pos hw]
  obtain ⟨v', w', hr, h2, h3, h4⟩ := run_appZ o.type hown k h0 hb hB
  exact Lib.wp_append_run w s x 26 3 ho v (.int .i64 k) hs hx v' w' hr (h v' w' h2 h3 h4)
end Go.Proofs.Ytmmngcjnofcmmaa
