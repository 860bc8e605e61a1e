/- num, knows: what outpostlaw05 asks first. -/
import Derived.Test.YtfjaohadjmigoaaDoorRows
import Derived.Test.YtfjaohadjmigoaaDoorGf2
import Derived.Test.YtfjaohadjmigoaaDoorWord
import Derived.Test.YtfjaohadjmigoaaDoorLong
import Derived.Test.YtfjaohadjmigoaaDoorPoly
import Derived.Test.YtfjaohadjmigoaaDoorMul
import Derived.Test.YtfjaohadjmigoaaDoorDiv
import Derived.Test.YtfjaohadjmigoaaDoorRef2W
import Derived.Test.YtfjaohadjmigoaaDoorRef2
import Derived.Test.YtfjaohadjmigoaaDoorCheckF
import Derived.Test.YtfjaohadjmigoaaDoorEval
import Derived.Test.YtfjaohadjmigoaaDoorCode
import Derived.Test.YtfjaohadjmigoaaDoorRCheck
import Derived.Test.YtfjaohadjmigoaaDoorNames
import Derived.Test.YtfjaohadjmigoaaDoorNamed
import Derived.Test.YtfjaohadjmigoaaDoorEq
namespace Go.Proofs.YtfjaohadjmigoaaDoor
open Go.RowKit

theorem num_any (x : Int) (w : World) :
    Calls Tryd.prog 7 #[.int .i64 x] w fun e w' => e = .returned (.int .i64 x) ∧ w = w' := by
  go_enter Tryd.func7, Tryd.ntmps7
  go_wp2_with fail
  go_ret
  exact ⟨rfl, rfl⟩
theorem cds_ok : ∀ k < 9, okB (cdAt k).1 (cdAt k).2.1 (cdAt k).2.2.1 (cdAt k).2.2.2.1 (cdAt k).2.2.2.2 = true := by decide +kernel
theorem k7_hit : hitAt ⟨#[107, 55]⟩ 5 := by
  refine ⟨by decide, rfl, ?_⟩
  intro j hj e
  have h5 : j = 0 ∨ j = 1 ∨ j = 2 ∨ j = 3 ∨ j = 4 := by omega
  rcases h5 with rfl | rfl | rfl | rfl | rfl <;> (have := congrArg ByteArray.data e; revert this; decide)

theorem below_mid {w w1 w2 : World} {o : Obj} (h : Below w.heap.size w w1) (h2 : Below (w1.alloc o).heap.size (w1.alloc o) w2) : Below w.heap.size w w2 :=
  h.trans ((below_one h2).mono h.size)
theorem cdV5 : cdV 5 = .agg #[.int .i64 7, .int .i64 2, .int .u32 121, .int .u32 91, .int .u32 0] := by kernel_rfl
set_option maxRecDepth 100000 in
set_option maxHeartbeats 1000000 in
theorem knows_any (w : World) :
    Calls Tryd.prog 6 #[] w fun e w' => e = .returned (.bool true) ∧ Below w.heap.size w w' := by
  have hok := hide (okB_ok (cds_ok 5 (by decide)))
  go_enter Tryd.func6, Tryd.ntmps6
  go_wp2_with fail
  refine (named_hit _ 5 k7_hit _).mono ?_
  rintro e w' ⟨rfl, hb⟩
  rw [cdV5]
  go_wp2_with fail
  refine (num_any _ _).mono ?_
  rintro e w' ⟨rfl, rfl⟩
  have eqg := eq_same 121 91 0
  go_wp2_with fail
  refine (check_any 7 2 121 91 0 (by omega) (by omega) (by omega) _).mono ?_
  rw [show checkF 7 2 121 91 0 = 0 from hok.out]
  rintro e w' ⟨rfl, hb2⟩
  go_wp2_with fail
  refine (num_any _ _).mono ?_
  rintro e w' ⟨rfl, rfl⟩
  go_wp2_with fail
  go_ret
  exact ⟨rfl, below_mid hb hb2⟩
end Go.Proofs.YtfjaohadjmigoaaDoor
