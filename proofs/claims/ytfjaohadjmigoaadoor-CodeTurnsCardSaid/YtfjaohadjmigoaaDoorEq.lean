/- '==' of arrays of three numbers, and of codes. -/
import Derived.Test.YtfjaohadjmigoaaDoorRows
import Derived.Test.YtfjaohadjmigoaaDoorGf2
import Derived.Test.YtfjaohadjmigoaaDoorWord
import Derived.Test.YtfjaohadjmigoaaDoorLong
import Derived.Test.YtfjaohadjmigoaaDoorPoly
import Derived.Test.YtfjaohadjmigoaaDoorMul
import Derived.Test.YtfjaohadjmigoaaDoorDiv
import Derived.Test.YtfjaohadjmigoaaDoorRef2W
import Derived.Test.YtfjaohadjmigoaaDoorRef2
import Derived.Test.YtfjaohadjmigoaaDoorCheckF
import Derived.Test.YtfjaohadjmigoaaDoorEval
import Derived.Test.YtfjaohadjmigoaaDoorCode
import Derived.Test.YtfjaohadjmigoaaDoorRCheck
import Derived.Test.YtfjaohadjmigoaaDoorNames
import Derived.Test.YtfjaohadjmigoaaDoorNamed
namespace Go.Proofs.YtfjaohadjmigoaaDoor
open Go.RowKit

theorem part0 (a b c : Int) (w : World) : (part 22 #[.int .u32 a, .int .u32 b, .int .u32 c] 0).run Tryd.prog w = .ok (.int .u32 a) w := by kernel_rfl
theorem part1 (a b c : Int) (w : World) : (part 22 #[.int .u32 a, .int .u32 b, .int .u32 c] Tryd.t22.size).run Tryd.prog w = .ok (.int .u32 b) w := by kernel_rfl
theorem part2 (a b c : Int) (w : World) : (part 22 #[.int .u32 a, .int .u32 b, .int .u32 c] (2 * Tryd.t22.size)).run Tryd.prog w = .ok (.int .u32 c) w := by kernel_rfl
theorem eq_gen (d : Nat) (a b c x y z : Int) (w : World) :
    (Op.equalIn (d + 2) 23 (.agg #[.int .u32 a, .int .u32 b, .int .u32 c]) (.agg #[.int .u32 x, .int .u32 y, .int .u32 z])).run Tryd.prog w = .ok (a == x && (b == y && c == z)) w := by
  have e (p q : Int) (w : World) := run_equalIn_int (P := Tryd.prog) w d 22 .u32 .u32 p q Tryd.underlying22
  unfold Op.equalIn
  simp only [Sem.run_bind, run_underlying Tryd.underlying23, Result.andThen_ok]
  simp only [Std.Legacy.Range.forIn_eq_forIn_range', sizeOf]
  simp [show List.range' 0 3 = [0, 1, 2] from rfl, part0, part1, part2, e]
  by_cases h1 : a = x <;> by_cases h2 : b = y <;> by_cases h3 : c = z <;> simp [h1, h2, h3]
theorem eq_code (K R a b c K' R' x y z : Int) (w : World) :
    (Op.equalIn 10000 25 (.agg #[.int .i64 K, .int .i64 R, .int .u32 a, .int .u32 b, .int .u32 c]) (.agg #[.int .i64 K', .int .i64 R', .int .u32 x, .int .u32 y, .int .u32 z])).run Tryd.prog w = .ok (K == K' && (R == R' && (a == x && (b == y && c == z)))) w := by
  have e := eq_gen 9997 a b c x y z
  go_simp
  by_cases h1 : K = K' <;> by_cases h2 : R = R' <;> by_cases h3 : a = x <;> by_cases h4 : b = y <;> by_cases h5 : c = z <;> simp [h1, h2, h3, h4, h5]
/-- for a walk: the arrays of one code are equal -/
theorem eq_same (a b c : Int) (w : World) :
    (Op.equalIn 9999 23 (.agg #[.int .u32 a, .int .u32 b, .int .u32 c]) (.agg #[.int .u32 a, .int .u32 b, .int .u32 c])).run Tryd.prog w = .ok true w := by
  have := eq_gen 9997 a b c a b c w
  simpa using this
end Go.Proofs.YtfjaohadjmigoaaDoor
