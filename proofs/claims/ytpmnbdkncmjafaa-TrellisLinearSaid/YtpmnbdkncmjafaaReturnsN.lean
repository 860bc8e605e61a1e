/- There and back, in numbers. -/
import Derived.Test.YtpmnbdkncmjafaaRows
import Derived.Test.YtpmnbdkncmjafaaTKnows
namespace Go.Proofs.Ytpmnbdkncmjafaa
open Go.RowKit

/-! the law for numbers -/
theorem there_back {j t q : Nat} (ht : t < 2 ^ (j + 1)) (hq : q ≤ 1) :
    t / 2 ^ j ≤ 1 ∧ (2 * t + q) % 2 ^ (j + 1) < 2 ^ (j + 1) ∧ priorF j ((2 * t + q) % 2 ^ (j + 1)) (t / 2 ^ j) = t ∧ (2 * t + q) % 2 ^ (j + 1) % 2 = q ∧
    (2 * priorF j t q + t % 2) % 2 ^ (j + 1) = t ∧ priorF j t q / 2 ^ j = q := by
  have e0 : 2 ^ (j + 1) = 2 * 2 ^ j := by rw [Nat.pow_succ]; omega
  have hP : 1 ≤ 2 ^ j := Nat.one_le_two_pow
  unfold priorF
  rw [e0] at ht ⊢
  clear e0
  generalize 2 ^ j = P at *
  have ho : t / P ≤ 1 := by
    have := Nat.div_lt_of_lt_mul (show t < P * 2 by omega); omega
  have hS := Nat.mod_lt (2 * t + q) (show 0 < 2 * P by omega)
  refine ⟨ho, hS, ?_⟩
  have hq01 : q = 0 ∨ q = 1 := by omega
  have h45 : (2 * (t / 2 + q * P) + t % 2) % (2 * P) = t ∧ (t / 2 + q * P) / P = q := by
    rcases hq01 with rfl | rfl
    · refine ⟨?_, ?_⟩
      · rw [Nat.mod_eq_of_lt (by omega)]; omega
      · rw [Nat.zero_mul, Nat.add_zero]; exact Nat.div_eq_of_lt (by omega)
    · refine ⟨?_, ?_⟩
      · rw [show 2 * (t / 2 + 1 * P) + t % 2 = t + 2 * P by omega, Nat.add_mod_right, Nat.mod_eq_of_lt ht]
      · rw [Nat.one_mul, Nat.add_div_right _ hP, Nat.div_eq_of_lt (by omega)]
  by_cases hlt : t < P
  · have e1 : t / P = 0 := Nat.div_eq_of_lt hlt
    rw [e1, Nat.mod_eq_of_lt (show 2 * t + q < 2 * P by omega)]
    exact ⟨by omega, by omega, h45.1, h45.2⟩
  · have e1 : t / P = 1 := by
      have := Nat.div_le_div_right (c := P) (show P ≤ t by omega)
      rw [Nat.div_self hP] at this
      omega
    have e2 : (2 * t + q) % (2 * P) = 2 * t + q - 2 * P := by
      rw [Nat.mod_eq_sub_mod (by omega), Nat.mod_eq_of_lt (by omega)]
    rw [e1, e2]
    exact ⟨by omega, by omega, h45.1, h45.2⟩
theorem low8 (x : Nat) (hx : x ≤ 255) : bits .and .u8 (x : Int) 1 = ((x % 2 : Nat) : Int) := by
  have h1 : (BitVec.ofInt 8 1).toNat = 2 ^ 1 - 1 := by decide
  have key : (BitVec.ofInt 8 (x : Int) &&& BitVec.ofInt 8 1).toNat = ((x : Int) % ((2 ^ 8 : Nat) : Int)).toNat % 2 ^ 1 := by
    rw [BitVec.toNat_and, BitVec.toNat_ofInt, h1, Nat.and_two_pow_sub_one_eq_mod]
  show IntKind.u8.wrap ((BitVec.ofInt 8 (x : Int) &&& BitVec.ofInt 8 1).toNat : Nat) = ((x % 2 : Nat) : Int)
  rw [key, IntKind.wrap_u8]
  omega

end Go.Proofs.Ytpmnbdkncmjafaa
