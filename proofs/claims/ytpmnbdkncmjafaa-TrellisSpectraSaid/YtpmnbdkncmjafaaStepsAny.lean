/- Step and Back, the code's and the document's, of whatever input; what the statements of trellis ask first. -/
import Derived.Test.YtpmnbdkncmjafaaRows
import Derived.Test.YtpmnbdkncmjafaaStepsGood
namespace Go.Proofs.Ytpmnbdkncmjafaa
open Go.RowKit

open Classical in
/-- where a step leads, and its symbols -/
noncomputable def stepF (K R : Int) (a b c s x : Nat) : Nat × Nat × Nat × Nat :=
  if rightF K R a b c s x = 0 then ((2 * s + x) % 2 ^ (K - 1).toNat, outF (2 * s + x) a, outF (2 * s + x) b, third R (outF (2 * s + x) c)) else (0, 0, 0, 0)
open Classical in
/-- whence a step comes, and its symbols -/
noncomputable def backF (K R : Int) (a b c s x : Nat) : Nat × Nat × Nat × Nat :=
  if rightF K R a b c s x = 0 then (priorF (K - 2).toNat s x, outF (2 * priorF (K - 2).toNat s x + s % 2) a, outF (2 * priorF (K - 2).toNat s x + s % 2) b, third R (outF (2 * priorF (K - 2).toNat s x + s % 2) c)) else (0, 0, 0, 0)
section
variable {K R : Int} {a b c s x : Nat}
theorem stepF_bad (h : rightF K R a b c s x ≠ 0) : stepF K R a b c s x = (0, 0, 0, 0) := if_neg h
theorem backF_bad (h : rightF K R a b c s x ≠ 0) : backF K R a b c s x = (0, 0, 0, 0) := if_neg h
theorem stepF_good (h : rightF K R a b c s x = 0) : stepF K R a b c s x = ((2 * s + x) % 2 ^ (K - 1).toNat, outF (2 * s + x) a, outF (2 * s + x) b, third R (outF (2 * s + x) c)) := if_pos h
theorem backF_good (h : rightF K R a b c s x = 0) : backF K R a b c s x = (priorF (K - 2).toNat s x, outF (2 * priorF (K - 2).toNat s x + s % 2) a, outF (2 * priorF (K - 2).toNat s x + s % 2) b, third R (outF (2 * priorF (K - 2).toNat s x + s % 2) c)) := if_pos h
theorem good_parts (h : rightF K R a b c s x = 0) : ∃ j : Nat, K = j + 2 ∧ (1 ≤ j ∧ j ≤ 30) ∧ (R = 2 ∨ R = 3) ∧ s < 2 ^ (j + 1) ∧ x ≤ 1 := by
  obtain ⟨h1, h2, h3⟩ := rightF_zero h
  obtain ⟨n, rfl, h4, h5, h6⟩ := good_code h1
  refine ⟨n - 1, by omega, by omega, h6, ?_, h3⟩
  have e : ((n : Int) + 1 - 1).toNat = n := by omega
  rw [e] at h2
  rw [show n - 1 + 1 = n by omega]
  exact Nat.lt_of_div_eq_zero (Nat.two_pow_pos n) h2
end
theorem steps_any (K R : Int) (a b c s x : Nat) (hA : a ≤ 4294967295) (hB : b ≤ 4294967295) (hC : c ≤ 4294967295) (hs : s ≤ 4294967295) (hx : x ≤ 255) :
    (∀ w, Calls Try.prog 12 #[.agg #[.int .i64 K, .int .i64 R, .int .u32 a, .int .u32 b, .int .u32 c], .int .u32 s, .int .u8 x] w fun e w' => e = .returned (.tuple #[.int .u32 (stepF K R a b c s x).1, .agg #[.int .u8 (stepF K R a b c s x).2.1, .int .u8 (stepF K R a b c s x).2.2.1, .int .u8 (stepF K R a b c s x).2.2.2], .int .i64 (rightF K R a b c s x)]) ∧ Below w.heap.size w w') ∧
    (∀ w, Calls Try.prog 13 #[.agg #[.int .i64 K, .int .i64 R, .int .u32 a, .int .u32 b, .int .u32 c], .int .u32 s, .int .u8 x] w fun e w' => e = .returned (.tuple #[.int .u32 (backF K R a b c s x).1, .agg #[.int .u8 (backF K R a b c s x).2.1, .int .u8 (backF K R a b c s x).2.2.1, .int .u8 (backF K R a b c s x).2.2.2], .int .i64 (rightF K R a b c s x)]) ∧ Below w.heap.size w w') := by
  by_cases h : rightF K R a b c s x = 0
  · obtain ⟨j, rfl, hj, hR, hs2, hx2⟩ := good_parts h
    rw [stepF_good h, backF_good h, h, show ((j : Int) + 2 - 1).toNat = j + 1 by omega, show ((j : Int) + 2 - 2).toNat = j by omega]
    exact ⟨tstep_good R j a b c s x hR hj hA hB hC hs2 hx2 h, tback_good R j a b c s x hR hj hA hB hC hs2 hx2 h⟩
  · rw [stepF_bad h, backF_bad h]
    exact ⟨tstep_bad K R a b c s x hA hB hC hs hx h, tback_bad K R a b c s x hA hB hC hs hx h⟩
theorem rsteps_any (K R : Int) (a b c s x : Nat) (hA : a ≤ 4294967295) (hB : b ≤ 4294967295) (hC : c ≤ 4294967295) (hs : s ≤ 4294967295) (hx : x ≤ 255) :
    (∀ w, Calls Try.prog 14 #[.agg #[.int .i64 K, .int .i64 R, .int .u32 a, .int .u32 b, .int .u32 c], .int .u32 s, .int .u8 x] w fun e w' => e = .returned (.tuple #[.int .u32 (stepF K R a b c s x).1, .agg #[.int .u8 (stepF K R a b c s x).2.1, .int .u8 (stepF K R a b c s x).2.2.1, .int .u8 (stepF K R a b c s x).2.2.2], .int .i64 (rightF K R a b c s x)]) ∧ Below w.heap.size w w') ∧
    (∀ w, Calls Try.prog 15 #[.agg #[.int .i64 K, .int .i64 R, .int .u32 a, .int .u32 b, .int .u32 c], .int .u32 s, .int .u8 x] w fun e w' => e = .returned (.tuple #[.int .u32 (backF K R a b c s x).1, .agg #[.int .u8 (backF K R a b c s x).2.1, .int .u8 (backF K R a b c s x).2.2.1, .int .u8 (backF K R a b c s x).2.2.2], .int .i64 (rightF K R a b c s x)]) ∧ Below w.heap.size w w') := by
  by_cases h : rightF K R a b c s x = 0
  · obtain ⟨j, rfl, hj, hR, hs2, hx2⟩ := good_parts h
    rw [stepF_good h, backF_good h, h, show ((j : Int) + 2 - 1).toNat = j + 1 by omega, show ((j : Int) + 2 - 2).toNat = j by omega]
    exact ⟨rstep_good R j a b c s x hR hj hA hB hC hs2 hx2 h, rback_good R j a b c s x hR hj hA hB hC hs2 hx2 h⟩
  · rw [stepF_bad h, backF_bad h]
    exact ⟨rstep_bad K R a b c s x hA hB hC hs hx h, rback_bad K R a b c s x hA hB hC hs hx h⟩

theorem eq_sym (d : Nat) (a b c x y z : Int) (w : World) :
    (Op.equalIn (d + 2) 26 (.agg #[.int .u8 a, .int .u8 b, .int .u8 c]) (.agg #[.int .u8 x, .int .u8 y, .int .u8 z])).run Try.prog w = .ok (a == x && (b == y && c == z)) w := by
  have e (p q : Int) (w : World) := run_equalIn_int (P := Try.prog) w d 5 .u8 .u8 p q Try.underlying5
  have part0 (a b c : Int) (w : World) : (part 5 #[.int .u8 a, .int .u8 b, .int .u8 c] 0).run Try.prog w = .ok (.int .u8 a) w := by kernel_rfl
  have part1 (a b c : Int) (w : World) : (part 5 #[.int .u8 a, .int .u8 b, .int .u8 c] Try.t5.size).run Try.prog w = .ok (.int .u8 b) w := by kernel_rfl
  have part2 (a b c : Int) (w : World) : (part 5 #[.int .u8 a, .int .u8 b, .int .u8 c] (2 * Try.t5.size)).run Try.prog w = .ok (.int .u8 c) w := by kernel_rfl
  unfold Op.equalIn
  simp only [Sem.run_bind, run_underlying Try.underlying26, Result.andThen_ok]
  simp only [Std.Legacy.Range.forIn_eq_forIn_range', sizeOf]
  simp [show List.range' 0 3 = [0, 1, 2] from rfl, part0, part1, part2, e]
  by_cases h1 : a = x <;> by_cases h2 : b = y <;> by_cases h3 : c = z <;> simp [h1, h2, h3]
theorem eq_sym_same (a b c : Int) (w : World) :
    (Op.equalIn 10000 26 (.agg #[.int .u8 a, .int .u8 b, .int .u8 c]) (.agg #[.int .u8 a, .int .u8 b, .int .u8 c])).run Try.prog w = .ok true w := by
  have := eq_sym 9998 a b c a b c w
  simpa using this
end Go.Proofs.Ytpmnbdkncmjafaa
