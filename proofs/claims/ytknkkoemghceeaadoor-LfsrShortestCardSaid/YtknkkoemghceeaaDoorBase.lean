/- Small facts on worlds, boxes and tests. -/
import Derived.Test.YtknkkoemghceeaaDoorRows
import Derived.Test.YtknkkoemghceeaaDoorWord
import Derived.Test.YtknkkoemghceeaaDoorBytes
namespace Go.Proofs.YtknkkoemghceeaaDoor
open Go.RowKit

theorem zNe {x : Nat} (h : x ≠ 0) : ((x : Int) == 0) = false := by rw [beq_eq_false_iff_ne]; omega
theorem nzBeq {x : Int} (h : x ≠ 0) : (x == 0) = false := by rw [beq_eq_false_iff_ne]; exact h
theorem nzBne {x : Int} (h : x ≠ 0) : (x != 0) = true := by rw [bne_iff_ne]; exact h
theorem shrEq {x k : Nat} (h : x / 2 ^ k = 0) : ((x : Int) / 2 ^ k == 0) = true := by rw [shrI, h]; rfl
theorem shrNe {x k : Nat} (h : x / 2 ^ k ≠ 0) : ((x : Int) / 2 ^ k == 0) = false := by rw [shrI, beq_eq_false_iff_ne]; omega
theorem shrBne {x k : Nat} (h : x / 2 ^ k ≠ 0) : ((x : Int) / 2 ^ k != 0) = true := by rw [shrI, bne_iff_ne]; omega
theorem shrBeq {x k : Nat} (h : x / 2 ^ k = 0) : ((x : Int) / 2 ^ k != 0) = false := by rw [shrI, h]; rfl
theorem bcell {W w1 : World} {B : Nat} (hb : Below B W w1) {b o : Nat} {v : Value} (h : b < B) (hc : W.cell? ⟨b, o, none⟩ = some v) : w1.cell? ⟨b, o, none⟩ = some v := (hb.cell (p := ⟨b, o, none⟩) h).trans hc
theorem bfrozen {W w1 : World} {B : Nat} (hb : Below B W w1) {b o : Nat} (h : b < B) (hf : W.frozen? ⟨b, o, none⟩ = false) : w1.frozen? ⟨b, o, none⟩ = false := (hb.frozen (p := ⟨b, o, none⟩) h).trans hf
theorem below_one {w w' : World} {o1 : Obj} (h : Below (w.alloc o1).heap.size (w.alloc o1) w') : Below w.heap.size w w' := ((Below.refl _ _).alloc (Nat.le_refl _) _).trans (h.mono (by simp))
theorem below_two {w w' : World} {o1 o2 : Obj} (h : Below ((w.alloc o1).alloc o2).heap.size ((w.alloc o1).alloc o2) w') : Below w.heap.size w w' := below_one (below_one h)
theorem below_mid {w w1 w2 : World} {o : Obj} (h : Below w.heap.size w w1) (h2 : Below (w1.alloc o).heap.size (w1.alloc o) w2) : Below w.heap.size w w2 :=
  (h.alloc h.size o).trans (h2.mono (by have := h.size; simp; omega))
theorem size_mid {w1 w2 : World} {o : Obj} (h2 : Below (w1.alloc o).heap.size (w1.alloc o) w2) : w1.heap.size < w2.heap.size := by
  have := h2.size; simp at this; omega
theorem below_then {w u v : World} (h : Below w.heap.size w u) (h2 : Below u.heap.size u v) : Below w.heap.size w v := h.trans (h2.mono h.size)
theorem below_drewL {w w' : World} {B : Nat} (h : Below B w.drew w') : Below B w w' := ((Below.refl B w).drew).trans h
theorem below_drewN {B : Nat} {w w' : World} (h : Below B w w') (n : Nat) : Below B w (w'.drewN n) := ⟨h.os, h.tape, h.output, h.size, h.block⟩
theorem set_drewN (w : World) (j : Nat) (p : Addr) (v : Value) : (w.drewN j).setCell p v = (w.setCell p v).drewN j := rfl
theorem quiet_eq {P : Program} {f : FuncId} {args : Array Value} {w : World} {n : Nat} {v : Value}
    (h : Calls P f args (w.drewN n) fun e w' => e = .returned v ∧ w.drewN n = w') : Calls P f args (w.drewN n) fun e w'' => e = .returned v ∧ ∃ m, w'' = w.drewN m :=
  h.mono fun _ _ ⟨he, hm⟩ => ⟨he, n, hm.symm⟩
theorem quiet_eq' {P : Program} {f : FuncId} {args : Array Value} {w : World} {d n : Nat} {v : Value}
    (h : Calls P f args (w.drewN (d + n)) fun e w' => e = .returned v ∧ w.drewN (d + n) = w') : Calls P f args (w.drewN (d + n)) fun e w'' => e = .returned v ∧ ∃ m, w'' = w.drewN (d + m) :=
  h.mono fun _ _ ⟨he, hm⟩ => ⟨he, n, hm.symm⟩
end Go.Proofs.YtknkkoemghceeaaDoor
