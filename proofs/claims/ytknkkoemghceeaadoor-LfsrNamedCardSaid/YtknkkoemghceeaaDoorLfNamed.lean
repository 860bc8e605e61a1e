/- lfsr.Named: a map of seven names, and what is looked up in it. -/
import Derived.Test.YtknkkoemghceeaaDoorRows
import Derived.Test.YtknkkoemghceeaaDoorLfStep
import Derived.Test.YtknkkoemghceeaaDoorBase
import Derived.MapKept
namespace Go.Proofs.YtknkkoemghceeaaDoor
open Go.RowKit

/-- the names -/
def lnm (i : Nat) : ByteArray := [(⟨#[112, 110, 55]⟩ : ByteArray), ⟨#[112, 110, 56]⟩, ⟨#[112, 110, 57]⟩, ⟨#[112, 110, 49, 49]⟩, ⟨#[112, 110, 49, 53]⟩, ⟨#[112, 110, 49, 55]⟩, ⟨#[112, 110, 50, 48]⟩].getD i ByteArray.empty
def lnd (i : Nat) : Nat := [7, 8, 9, 11, 15, 17, 20].getD i 0
def lnt (i : Nat) : Nat := [65, 169, 33, 513, 16385, 16385, 131073].getD i 0
/-- an entry of the table -/
def lne (i : Nat) : MapEntry := { key := .string (lnm i), val := .agg #[.int .u64 (lnd i : Nat), .int .u64 (lnt i : Nat)], born := i }
def lnes (j : Nat) : Array MapEntry := ((List.range j).map lne).toArray
theorem lnes_push (j : Nat) : (lnes j).push { key := .string (lnm j), val := .agg #[.int .u64 (lnd j : Nat), .int .u64 (lnt j : Nat)], born := j } = lnes (j + 1) := by
  unfold lnes
  rw [List.range_succ, List.map_append, List.push_toArray]
  rfl
theorem lfind_fresh : ∀ j : Fin 7, Instr.findNow .string (.string (lnm j.val)) ((List.range j.val).map lne) 0 = some none := by
  intro j
  have h : j.val = 0 ∨ j.val = 1 ∨ j.val = 2 ∨ j.val = 3 ∨ j.val = 4 ∨ j.val = 5 ∨ j.val = 6 := by omega
  obtain ⟨j, hj⟩ := j
  simp only at h ⊢
  rcases h with rfl | rfl | rfl | rfl | rfl | rfl | rfl <;> rfl
/-- the table, of which j entries stand -/
def LMap (u : World) (b j : Nat) : Prop := u.heap[b]? = some (.map (lnes j) j)
theorem lins {u : World} {b j : Nat} (h : LMap u b j) (hj : j < 7) :
    ∃ u', (Instr.mapUpdate 109 (.map (some b)) (.string (lnm j)) (.agg #[.int .u64 (lnd j : Nat), .int .u64 (lnt j : Nat)])).run Tryd.prog u = .ok () u' ∧ LMap u' b (j + 1) ∧ u.grownBy u' (some b) := by
  have hf : Instr.findNow .string (.string (lnm j)) (lnes j).toList 0 = some none := by simpa [lnes] using lfind_fresh ⟨j, hj⟩
  have hlt : b < u.heap.size := (Array.getElem?_eq_some_iff.1 h).1
  refine ⟨{ u with heap := u.heap.setIfInBounds b (.map (lnes (j + 1)) (j + 1)) }, ?_, ?_, ?_⟩
  · simp [Instr.mapUpdate, run_underlying Tryd.underlying109, MapKept.run_getObj_map h, MapKept.run_checkKey Tryd.underlying9 (k := .string (lnm j)) trivial, MapKept.run_findKey Tryd.underlying9 hf, MapKept.run_setObj_map _ h, Result.andThen, lnes_push]
  · show _ = _
    simp [hlt]
  · refine ⟨rfl, rfl, rfl, by simp, fun k hk hne => ?_⟩
    simp only [Array.getElem?_setIfInBounds]
    rw [if_neg (fun e => hne (by rw [e]))]
theorem grownBy_trans4 {w u v : World} {row : Option Nat} (h : w.grownBy u row) (h2 : u.grownBy v row) : w.grownBy v row :=
  ⟨h2.os.trans h.os, h2.tape.trans h.tape, h2.output.trans h.output, Nat.le_trans h.size h2.size, fun k hk hne => (h2.block k (Nat.lt_of_lt_of_le hk h.size) hne).trans (h.block k hk hne)⟩
theorem llook {u : World} {b : Nat} (h : LMap u b 7) (x : ByteArray) :
    (∃ i, i < 7 ∧ lnm i = x ∧ (Instr.lookup 109 (.map (some b)) (.string x) true).run Tryd.prog u = .ok (.tuple #[.agg #[.int .u64 (lnd i : Nat), .int .u64 (lnt i : Nat)], .bool true]) u) ∨
    ((∀ i, i < 7 → lnm i ≠ x) ∧ (Instr.lookup 109 (.map (some b)) (.string x) true).run Tryd.prog u = .ok (.tuple #[.agg #[.int .u64 0, .int .u64 0], .bool false]) u) := by
  have hk : ∀ y ∈ (lnes 7).toList, MapKept.IsKey .string y.key := fun y hy => by
    obtain ⟨i, _, rfl⟩ := List.mem_map.1 (show y ∈ (List.range 7).map lne from by simpa [lnes] using hy)
    trivial
  rcases MapKept.findNow_spec (d := .string) (k := .string x) trivial (lnes 7).toList 0 hk with ⟨h1, h2⟩ | ⟨j, e, h1, h2, h3⟩
  · refine .inr ⟨fun i hi e => h2 (lne i) (by simp only [lnes]; exact List.mem_map.2 ⟨i, List.mem_range.2 hi, rfl⟩) (by rw [← e]; rfl), ?_⟩
    simp [Instr.lookup, run_underlying Tryd.underlying109, MapKept.run_getObj_map h, MapKept.run_checkKey Tryd.underlying9 (k := .string x) trivial, MapKept.run_findKey Tryd.underlying9 h1, Result.andThen]
  · have hj : j < 7 := by
      have := (List.getElem?_eq_some_iff.1 h2).1
      simpa [lnes] using this
    have he : e = lne j := by
      simp only [lnes, List.getElem?_map, List.getElem?_range hj, Option.map_some, Option.some.injEq] at h2
      exact h2.symm
    subst he
    refine .inl ⟨j, hj, by simpa [lne] using h3, ?_⟩
    simp [Instr.lookup, run_underlying Tryd.underlying109, MapKept.run_getObj_map h, MapKept.run_checkKey Tryd.underlying9 (k := .string x) trivial, MapKept.run_findKey Tryd.underlying9 h1, Result.andThen, lne]
set_option maxRecDepth 100000 in
set_option maxHeartbeats 1000000 in
theorem lnamed_any (x : ByteArray) (w : World) :
    Calls Tryd.prog 38 #[.string x] w fun e w' => ((∃ i, i < 7 ∧ lnm i = x ∧ e = .returned (.tuple #[.agg #[.int .i64 (lnd i : Nat), .int .u64 (lnt i : Nat), .int .u64 ((2 ^ lnd i - 1 : Nat) : Int)], .int .i64 0])) ∨ ((∀ i, i < 7 → lnm i ≠ x) ∧ e = .returned (.tuple #[.agg #[.int .i64 0, .int .u64 0, .int .u64 0], .int .i64 3]))) ∧ Below w.heap.size w w' := by
  have hmk : ∀ u : World, (Instr.makeMap 109 none).run Tryd.prog u = .ok (.map (some u.heap.size)) (u.alloc (.map #[] 0)) := fun u => rfl
  have h0 : LMap ((w.alloc (.cells #[.int .i64 0, .int .u64 0, .int .u64 0] 24)).alloc (.map #[] 0)) (w.heap.size + 1) 0 := by
    have := heap_alloc_new (w.alloc (.cells #[.int .i64 0, .int .u64 0, .int .u64 0] 24)) (.map #[] 0)
    simpa [LMap, lnes] using this
  generalize hu0 : (w.alloc (.cells #[.int .i64 0, .int .u64 0, .int .u64 0] 24)).alloc (.map #[] 0) = u0 at *
  obtain ⟨u1, g0, h1, k0⟩ := lins h0 (by omega)
  obtain ⟨u2, g1, h2, k1⟩ := lins h1 (by omega)
  obtain ⟨u3, g2, h3, k2⟩ := lins h2 (by omega)
  obtain ⟨u4, g3, h4, k3⟩ := lins h3 (by omega)
  obtain ⟨u5, g4, h5, k4⟩ := lins h4 (by omega)
  obtain ⟨u6, g5, h6, k5⟩ := lins h5 (by omega)
  obtain ⟨u7, g6, h7, k6⟩ := lins h6 (by omega)
  have hk := grownBy_trans4 (grownBy_trans4 (grownBy_trans4 (grownBy_trans4 (grownBy_trans4 (grownBy_trans4 k0 k1) k2) k3) k4) k5) k6
  have HLK := llook h7 x
  have hr0 : RegL u0 w.heap.size 0 0 0 := by rw [← hu0]; exact (show RegL (w.alloc (.cells #[.int .i64 0, .int .u64 0, .int .u64 0] 24)) w.heap.size 0 0 0 from ⟨_, heap_alloc_new w _⟩).alloc _
  have hr7 := hr0.grown hk (by simp)
  obtain ⟨hl7, q0, q1, q2, f2⟩ := hr7.parts
  have f0 : u7.frozen? ⟨w.heap.size, 0, none⟩ = false := by obtain ⟨ty, h⟩ := hr7; exact frozen_of_row u7 w.heap.size 0 _ ty h
  have f1 : u7.frozen? ⟨w.heap.size, 1, none⟩ = false := by obtain ⟨ty, h⟩ := hr7; exact frozen_of_row u7 w.heap.size 1 _ ty h
  have HB7 := hide (show Below w.heap.size w u7 from ((hu0 ▸ ((Below.refl _ _).alloc (Nat.le_refl _) _).alloc (by simp) _ : Below w.heap.size w u0)).grown hk (by rw [← hu0]; simp; omega) (fun k e => by have := Option.some.inj e; omega))
  clear hr0 hr7
  have g0 : (Instr.mapUpdate 109 (.map (some (w.heap.size + 1))) (.string ⟨#[112, 110, 55]⟩) (.agg #[.int .u64 7, .int .u64 65])).run Tryd.prog u0 = .ok () u1 := g0
  have g1 : (Instr.mapUpdate 109 (.map (some (w.heap.size + 1))) (.string ⟨#[112, 110, 56]⟩) (.agg #[.int .u64 8, .int .u64 169])).run Tryd.prog u1 = .ok () u2 := g1
  have g2 : (Instr.mapUpdate 109 (.map (some (w.heap.size + 1))) (.string ⟨#[112, 110, 57]⟩) (.agg #[.int .u64 9, .int .u64 33])).run Tryd.prog u2 = .ok () u3 := g2
  have g3 : (Instr.mapUpdate 109 (.map (some (w.heap.size + 1))) (.string ⟨#[112, 110, 49, 49]⟩) (.agg #[.int .u64 11, .int .u64 513])).run Tryd.prog u3 = .ok () u4 := g3
  have g4 : (Instr.mapUpdate 109 (.map (some (w.heap.size + 1))) (.string ⟨#[112, 110, 49, 53]⟩) (.agg #[.int .u64 15, .int .u64 16385])).run Tryd.prog u4 = .ok () u5 := g4
  have g5 : (Instr.mapUpdate 109 (.map (some (w.heap.size + 1))) (.string ⟨#[112, 110, 49, 55]⟩) (.agg #[.int .u64 17, .int .u64 16385])).run Tryd.prog u5 = .ok () u6 := g5
  have g6 : (Instr.mapUpdate 109 (.map (some (w.heap.size + 1))) (.string ⟨#[112, 110, 50, 48]⟩) (.agg #[.int .u64 20, .int .u64 131073])).run Tryd.prog u6 = .ok () u7 := g6
  clear h0 h1 h2 h3 h4 h5 h6 h7 k0 k1 k2 k3 k4 k5 k6 hk
  rcases HLK with ⟨i, hi, hx, hl⟩ | ⟨hno, hl⟩
  · have hc : i = 0 ∨ i = 1 ∨ i = 2 ∨ i = 3 ∨ i = 4 ∨ i = 5 ∨ i = 6 := by omega
    have HX := hide hx
    clear hx
    refine (show Calls Tryd.prog 38 #[.string x] w fun e w' => e = .returned (.tuple #[.agg #[.int .i64 (lnd i : Nat), .int .u64 (lnt i : Nat), .int .u64 ((2 ^ lnd i - 1 : Nat) : Int)], .int .i64 0]) ∧ Below w.heap.size w w' from ?_).mono fun e w' h => ⟨.inl ⟨i, hi, HX.out, h.1⟩, h.2⟩
    clear HX
    rcases hc with rfl | rfl | rfl | rfl | rfl | rfl | rfl
    · replace hl : (Instr.lookup 109 (.map (some (w.heap.size + 1))) (.string x) true).run Tryd.prog u7 = .ok (.tuple #[.agg #[.int .u64 7, .int .u64 65], .bool true]) u7 := hl
      clear hi
      go_enter Tryd.func38, Tryd.ntmps38
      go_wp2_with fail
      refine bodyPost_ret (v := .tuple #[.agg #[.int .i64 7, .int .u64 65, .int .u64 127], .int .i64 0]) (by simp [results, Tryd.results38, go_sem, hl7, q0, q1, q2]) rfl ⟨rfl, ?_⟩
      exact (((HB7.out.setCell (p := ⟨w.heap.size, 0, none⟩) (Nat.le_refl _) _).setCell (p := ⟨w.heap.size, 1, none⟩) (Nat.le_refl _) _).setCell (p := ⟨w.heap.size, 2, none⟩) (Nat.le_refl _) _).alloc (by have := HB7.out.size; simpa using this) _
    · replace hl : (Instr.lookup 109 (.map (some (w.heap.size + 1))) (.string x) true).run Tryd.prog u7 = .ok (.tuple #[.agg #[.int .u64 8, .int .u64 169], .bool true]) u7 := hl
      clear hi
      go_enter Tryd.func38, Tryd.ntmps38
      go_wp2_with fail
      refine bodyPost_ret (v := .tuple #[.agg #[.int .i64 8, .int .u64 169, .int .u64 255], .int .i64 0]) (by simp [results, Tryd.results38, go_sem, hl7, q0, q1, q2]) rfl ⟨rfl, ?_⟩
      exact (((HB7.out.setCell (p := ⟨w.heap.size, 0, none⟩) (Nat.le_refl _) _).setCell (p := ⟨w.heap.size, 1, none⟩) (Nat.le_refl _) _).setCell (p := ⟨w.heap.size, 2, none⟩) (Nat.le_refl _) _).alloc (by have := HB7.out.size; simpa using this) _
    · replace hl : (Instr.lookup 109 (.map (some (w.heap.size + 1))) (.string x) true).run Tryd.prog u7 = .ok (.tuple #[.agg #[.int .u64 9, .int .u64 33], .bool true]) u7 := hl
      clear hi
      go_enter Tryd.func38, Tryd.ntmps38
      go_wp2_with fail
      refine bodyPost_ret (v := .tuple #[.agg #[.int .i64 9, .int .u64 33, .int .u64 511], .int .i64 0]) (by simp [results, Tryd.results38, go_sem, hl7, q0, q1, q2]) rfl ⟨rfl, ?_⟩
      exact (((HB7.out.setCell (p := ⟨w.heap.size, 0, none⟩) (Nat.le_refl _) _).setCell (p := ⟨w.heap.size, 1, none⟩) (Nat.le_refl _) _).setCell (p := ⟨w.heap.size, 2, none⟩) (Nat.le_refl _) _).alloc (by have := HB7.out.size; simpa using this) _
    · replace hl : (Instr.lookup 109 (.map (some (w.heap.size + 1))) (.string x) true).run Tryd.prog u7 = .ok (.tuple #[.agg #[.int .u64 11, .int .u64 513], .bool true]) u7 := hl
      clear hi
      go_enter Tryd.func38, Tryd.ntmps38
      go_wp2_with fail
      refine bodyPost_ret (v := .tuple #[.agg #[.int .i64 11, .int .u64 513, .int .u64 2047], .int .i64 0]) (by simp [results, Tryd.results38, go_sem, hl7, q0, q1, q2]) rfl ⟨rfl, ?_⟩
      exact (((HB7.out.setCell (p := ⟨w.heap.size, 0, none⟩) (Nat.le_refl _) _).setCell (p := ⟨w.heap.size, 1, none⟩) (Nat.le_refl _) _).setCell (p := ⟨w.heap.size, 2, none⟩) (Nat.le_refl _) _).alloc (by have := HB7.out.size; simpa using this) _
    · replace hl : (Instr.lookup 109 (.map (some (w.heap.size + 1))) (.string x) true).run Tryd.prog u7 = .ok (.tuple #[.agg #[.int .u64 15, .int .u64 16385], .bool true]) u7 := hl
      clear hi
      go_enter Tryd.func38, Tryd.ntmps38
      go_wp2_with fail
      refine bodyPost_ret (v := .tuple #[.agg #[.int .i64 15, .int .u64 16385, .int .u64 32767], .int .i64 0]) (by simp [results, Tryd.results38, go_sem, hl7, q0, q1, q2]) rfl ⟨rfl, ?_⟩
      exact (((HB7.out.setCell (p := ⟨w.heap.size, 0, none⟩) (Nat.le_refl _) _).setCell (p := ⟨w.heap.size, 1, none⟩) (Nat.le_refl _) _).setCell (p := ⟨w.heap.size, 2, none⟩) (Nat.le_refl _) _).alloc (by have := HB7.out.size; simpa using this) _
    · replace hl : (Instr.lookup 109 (.map (some (w.heap.size + 1))) (.string x) true).run Tryd.prog u7 = .ok (.tuple #[.agg #[.int .u64 17, .int .u64 16385], .bool true]) u7 := hl
      clear hi
      go_enter Tryd.func38, Tryd.ntmps38
      go_wp2_with fail
      refine bodyPost_ret (v := .tuple #[.agg #[.int .i64 17, .int .u64 16385, .int .u64 131071], .int .i64 0]) (by simp [results, Tryd.results38, go_sem, hl7, q0, q1, q2]) rfl ⟨rfl, ?_⟩
      exact (((HB7.out.setCell (p := ⟨w.heap.size, 0, none⟩) (Nat.le_refl _) _).setCell (p := ⟨w.heap.size, 1, none⟩) (Nat.le_refl _) _).setCell (p := ⟨w.heap.size, 2, none⟩) (Nat.le_refl _) _).alloc (by have := HB7.out.size; simpa using this) _
    · replace hl : (Instr.lookup 109 (.map (some (w.heap.size + 1))) (.string x) true).run Tryd.prog u7 = .ok (.tuple #[.agg #[.int .u64 20, .int .u64 131073], .bool true]) u7 := hl
      clear hi
      go_enter Tryd.func38, Tryd.ntmps38
      go_wp2_with fail
      refine bodyPost_ret (v := .tuple #[.agg #[.int .i64 20, .int .u64 131073, .int .u64 1048575], .int .i64 0]) (by simp [results, Tryd.results38, go_sem, hl7, q0, q1, q2]) rfl ⟨rfl, ?_⟩
      exact (((HB7.out.setCell (p := ⟨w.heap.size, 0, none⟩) (Nat.le_refl _) _).setCell (p := ⟨w.heap.size, 1, none⟩) (Nat.le_refl _) _).setCell (p := ⟨w.heap.size, 2, none⟩) (Nat.le_refl _) _).alloc (by have := HB7.out.size; simpa using this) _
  · refine (show Calls Tryd.prog 38 #[.string x] w fun e w' => e = .returned (.tuple #[.agg #[.int .i64 0, .int .u64 0, .int .u64 0], .int .i64 3]) ∧ Below w.heap.size w w' from ?_).mono fun e w' h => ⟨.inr ⟨hno, h.1⟩, h.2⟩
    clear hno
    go_enter Tryd.func38, Tryd.ntmps38
    go_wp2_with fail
    refine bodyPost_ret (v := .tuple #[.agg #[.int .i64 0, .int .u64 0, .int .u64 0], .int .i64 3]) (by simp [results, Tryd.results38, go_sem, hl7, q0, q1, q2]) rfl ⟨rfl, ?_⟩
    exact (((HB7.out.setCell (p := ⟨w.heap.size, 0, none⟩) (Nat.le_refl _) _).setCell (p := ⟨w.heap.size, 1, none⟩) (Nat.le_refl _) _).setCell (p := ⟨w.heap.size, 2, none⟩) (Nat.le_refl _) _).alloc (by have := HB7.out.size; simpa using this) _
end Go.Proofs.YtknkkoemghceeaaDoor
