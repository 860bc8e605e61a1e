/- Arrays of three bytes, compared. -/
import Derived.Test.YtmmngcjnofcmmaaRows
import Derived.Test.YtmmngcjnofcmmaaWord
import Derived.Test.YtmmngcjnofcmmaaBytes
namespace Go.Proofs.Ytmmngcjnofcmmaa
open Go.RowKit

theorem eq_sym (d : Nat) (a b c x y z : Int) (w : World) :
    (Op.equalIn (d + 2) 76 (.agg #[.int .u8 a, .int .u8 b, .int .u8 c]) (.agg #[.int .u8 x, .int .u8 y, .int .u8 z])).run Try.prog w = .ok (a == x && (b == y && c == z)) w := by
  have e (p q : Int) (w : World) := run_equalIn_int (P := Try.prog) w d 5 .u8 .u8 p q Try.underlying5
  have part0 (a b c : Int) (w : World) : (part 5 #[.int .u8 a, .int .u8 b, .int .u8 c] 0).run Try.prog w = .ok (.int .u8 a) w := by kernel_rfl
  have part1 (a b c : Int) (w : World) : (part 5 #[.int .u8 a, .int .u8 b, .int .u8 c] Try.t5.size).run Try.prog w = .ok (.int .u8 b) w := by kernel_rfl
  have part2 (a b c : Int) (w : World) : (part 5 #[.int .u8 a, .int .u8 b, .int .u8 c] (2 * Try.t5.size)).run Try.prog w = .ok (.int .u8 c) w := by kernel_rfl
  unfold Op.equalIn
  simp only [Sem.run_bind, run_underlying Try.underlying76, Result.andThen_ok]
  simp only [Std.Legacy.Range.forIn_eq_forIn_range', sizeOf]
  simp [show List.range' 0 3 = [0, 1, 2] from rfl, part0, part1, part2, e]
  by_cases h1 : a = x <;> by_cases h2 : b = y <;> by_cases h3 : c = z <;> simp [h1, h2, h3]
theorem eq_sym_same (a b c : Int) (w : World) :
    (Op.equalIn 10000 76 (.agg #[.int .u8 a, .int .u8 b, .int .u8 c]) (.agg #[.int .u8 a, .int .u8 b, .int .u8 c])).run Try.prog w = .ok true w := by
  have := eq_sym 9998 a b c a b c w
  simpa using this
theorem eq_sym_ne {a b c x y z : Nat} (h : [a, b, c] ≠ [x, y, z]) (w : World) :
    (Op.equalIn 10000 76 (.agg #[.int .u8 (a : Nat), .int .u8 (b : Nat), .int .u8 (c : Nat)]) (.agg #[.int .u8 (x : Nat), .int .u8 (y : Nat), .int .u8 (z : Nat)])).run Try.prog w = .ok false w := by
  have hb : ((a : Int) == x && ((b : Int) == y && (c : Int) == z)) = false := by
    by_cases h1 : a = x
    · by_cases h2 : b = y
      · by_cases h3 : c = z
        · exact absurd (by rw [h1, h2, h3]) h
        · have : ((c : Int) == z) = false := by rw [beq_eq_false_iff_ne]; omega
          rw [this, Bool.and_false, Bool.and_false]
      · have : ((b : Int) == y) = false := by rw [beq_eq_false_iff_ne]; omega
        rw [this, Bool.false_and, Bool.and_false]
    · have : ((a : Int) == x) = false := by rw [beq_eq_false_iff_ne]; omega
      rw [this, Bool.false_and]
  have e := eq_sym 9998 a b c x y z w
  rw [hb] at e
  exact e
end Go.Proofs.Ytmmngcjnofcmmaa
