/- Small facts on tests and on worlds. -/
import Derived.Test.YtmmngcjnofcmmaaRows
import Derived.Test.YtmmngcjnofcmmaaCode
namespace Go.Proofs.Ytmmngcjnofcmmaa
open Go.RowKit

theorem nzBne {x : Int} (h : x ≠ 0) : (x != 0) = true := by rw [bne_iff_ne]; exact h
theorem nzBeq {x : Int} (h : x ≠ 0) : (x == 0) = false := by rw [beq_eq_false_iff_ne]; exact h
theorem below_mid {w w1 w2 : World} {o : Obj} (h : Below w.heap.size w w1) (h2 : Below (w1.alloc o).heap.size (w1.alloc o) w2) : Below w.heap.size w w2 :=
  h.trans ((below_one h2).mono h.size)
theorem size_mid {w1 w2 : World} {o : Obj} (h2 : Below (w1.alloc o).heap.size (w1.alloc o) w2) : w1.heap.size < w2.heap.size := by
  have := h2.size; simp at this; omega
theorem below_then {w u v : World} (h : Below w.heap.size w u) (h2 : Below u.heap.size u v) : Below w.heap.size w v := h.trans (h2.mono h.size)
end Go.Proofs.Ytmmngcjnofcmmaa
