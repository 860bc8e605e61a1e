/- Small facts on tests and on worlds. -/
import Derived.Test.YtfjaohadjmigoaaDoorRows
import Derived.Test.YtfjaohadjmigoaaDoorGf2
import Derived.Test.YtfjaohadjmigoaaDoorWord
import Derived.Test.YtfjaohadjmigoaaDoorLong
import Derived.Test.YtfjaohadjmigoaaDoorPoly
import Derived.Test.YtfjaohadjmigoaaDoorMul
import Derived.Test.YtfjaohadjmigoaaDoorDiv
import Derived.Test.YtfjaohadjmigoaaDoorRef2W
import Derived.Test.YtfjaohadjmigoaaDoorRef2
import Derived.Test.YtfjaohadjmigoaaDoorCheckF
import Derived.Test.YtfjaohadjmigoaaDoorEval
import Derived.Test.YtfjaohadjmigoaaDoorCode
import Derived.Test.YtfjaohadjmigoaaDoorRCheck
import Derived.Test.YtfjaohadjmigoaaDoorNames
import Derived.Test.YtfjaohadjmigoaaDoorNamed
import Derived.Test.YtfjaohadjmigoaaDoorEq
import Derived.Test.YtfjaohadjmigoaaDoorKnows
import Derived.Test.YtfjaohadjmigoaaDoorPop
import Derived.Test.YtfjaohadjmigoaaDoorOnes
namespace Go.Proofs.YtfjaohadjmigoaaDoor
open Go.RowKit

theorem nzBne {x : Int} (h : x ≠ 0) : (x != 0) = true := by rw [bne_iff_ne]; exact h
theorem nzBeq {x : Int} (h : x ≠ 0) : (x == 0) = false := by rw [beq_eq_false_iff_ne]; exact h
theorem size_mid {w1 w2 : World} {o : Obj} (h2 : Below (w1.alloc o).heap.size (w1.alloc o) w2) : w1.heap.size < w2.heap.size := by
  have := h2.size; simp at this; omega
theorem below_then {w u v : World} (h : Below w.heap.size w u) (h2 : Below u.heap.size u v) : Below w.heap.size w v := h.trans (h2.mono h.size)
end Go.Proofs.YtfjaohadjmigoaaDoor
