/- Registers, compared. -/
import Derived.Test.YtknkkoemghceeaaDoorRows
import Derived.Test.YtknkkoemghceeaaDoorBase
namespace Go.Proofs.YtknkkoemghceeaaDoor
open Go.RowKit

theorem eq_lfsr (d : Nat) (a b c x y z : Int) (w : World) :
    (Op.equalIn (d + 2) 24 (.agg #[.int .i64 a, .int .u64 b, .int .u64 c]) (.agg #[.int .i64 x, .int .u64 y, .int .u64 z])).run Tryd.prog w = .ok (a == x && (b == y && c == z)) w := by
  have e1 (p q : Int) (w : World) := run_equalIn_int (P := Tryd.prog) w d 3 .i64 .i64 p q Tryd.underlying3
  have e2 (p q : Int) (w : World) := run_equalIn_int (P := Tryd.prog) w d 22 .u64 .u64 p q Tryd.underlying22
  have part0 (a b c : Int) (w : World) : (part 3 #[.int .i64 a, .int .u64 b, .int .u64 c] 0).run Tryd.prog w = .ok (.int .i64 a) w := by kernel_rfl
  have part1 (a b c : Int) (w : World) : (part 22 #[.int .i64 a, .int .u64 b, .int .u64 c] 1).run Tryd.prog w = .ok (.int .u64 b) w := by kernel_rfl
  have part2 (a b c : Int) (w : World) : (part 22 #[.int .i64 a, .int .u64 b, .int .u64 c] 2).run Tryd.prog w = .ok (.int .u64 c) w := by kernel_rfl
  unfold Op.equalIn
  simp only [Sem.run_bind, run_underlying Tryd.underlying24, Result.andThen_ok]
  simp [part0, part1, part2, e1, e2]
  by_cases h1 : a = x <;> by_cases h2 : b = y <;> by_cases h3 : c = z <;> simp [h1, h2, h3]
theorem eq_lfsr_same (a b c : Int) (w : World) :
    (Op.equalIn 10000 24 (.agg #[.int .i64 a, .int .u64 b, .int .u64 c]) (.agg #[.int .i64 a, .int .u64 b, .int .u64 c])).run Tryd.prog w = .ok true w := by
  have := eq_lfsr 9998 a b c a b c w
  simpa using this
theorem eq_lfsr_ne (a b : Int) {c z : Nat} (h : c ≠ z) (w : World) :
    (Op.equalIn 10000 24 (.agg #[.int .i64 a, .int .u64 b, .int .u64 c]) (.agg #[.int .i64 a, .int .u64 b, .int .u64 z])).run Tryd.prog w = .ok false w := by
  have e := eq_lfsr 9998 a b c a b z w
  have hb : ((c : Int) == z) = false := by rw [beq_eq_false_iff_ne]; omega
  rw [hb, Bool.and_false, Bool.and_false] at e
  exact e
end Go.Proofs.YtknkkoemghceeaaDoor
