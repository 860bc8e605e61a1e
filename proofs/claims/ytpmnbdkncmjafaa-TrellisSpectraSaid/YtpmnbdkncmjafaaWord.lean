/- Small facts on words of 64, 32 and 8 bits as the walk spells them. Nothing of the program stands here. -/
import Derived.WalkKit
import Derived.WalkSpells
import Derived.WalkLawsBesides
import Derived.Test.YtpmnbdkncmjafaaGf2
import Derived.Lib.BitFns
namespace Go.Proofs.Ytpmnbdkncmjafaa
open Go.RowKit

theorem hide {p : Prop} (h : p) : Hid p := h
theorem xor64 {a b : Nat} (ha : a ≤ 18446744073709551615) (hb : b ≤ 18446744073709551615) : bits .xor .u64 (a : Int) (b : Int) = ((a ^^^ b : Nat) : Int) := u64_xor_nat a b (by omega) (by omega)
theorem or64 {a b : Nat} (ha : a ≤ 18446744073709551615) (hb : b ≤ 18446744073709551615) : bits .or .u64 (a : Int) (b : Int) = ((a ||| b : Nat) : Int) := u64_or_nat a b (by omega) (by omega)
theorem and64 {a b : Nat} (ha : a ≤ 18446744073709551615) (hb : b ≤ 18446744073709551615) : bits .and .u64 (a : Int) (b : Int) = ((a &&& b : Nat) : Int) := u64_and_nat a b (by omega) (by omega)
theorem xor64_le {a b : Nat} (ha : a ≤ 18446744073709551615) (hb : b ≤ 18446744073709551615) : a ^^^ b ≤ 18446744073709551615 := by
  have : a ^^^ b < 2 ^ 64 := Nat.xor_lt_two_pow (by omega) (by omega)
  omega
theorem or64_le {a b : Nat} (ha : a ≤ 18446744073709551615) (hb : b ≤ 18446744073709551615) : a ||| b ≤ 18446744073709551615 := by
  have : a ||| b < 2 ^ 64 := Nat.or_lt_two_pow (by omega) (by omega)
  omega
theorem shrI (a k : Nat) : ((a : Int) / 2 ^ k) = ((a / 2 ^ k : Nat) : Int) := by simp
theorem shr_le {a k M : Nat} (h : a ≤ M) : a / 2 ^ k ≤ M := Nat.le_trans (Nat.div_le_self _ _) h
theorem shlI64 (a k : Nat) : IntKind.u64.wrap ((a : Int) * 2 ^ k) = ((a * 2 ^ k % 2 ^ 64 : Nat) : Int) := by
  rw [IntKind.wrap_u64]; simp
theorem shl64_le (a k : Nat) : a * 2 ^ k % 2 ^ 64 ≤ 18446744073709551615 := by
  have := Nat.mod_lt (a * 2 ^ k) (show 0 < 2 ^ 64 by decide)
  omega
theorem and1 (a : Nat) : a &&& 1 = a % 2 := by simp
/-- the test 'a >> k & 1' -/
theorem bit64 {a : Nat} (k : Nat) (ha : a ≤ 18446744073709551615) : bits .and .u64 ((a : Int) / 2 ^ k) 1 = ((a / 2 ^ k % 2 : Nat) : Int) := by
  rw [shrI]
  have := and64 (a := a / 2 ^ k) (b := 1) (shr_le ha) (by omega)
  rw [and1] at this
  exact this
theorem bit64_eq {a : Nat} (k : Nat) (ha : a ≤ 18446744073709551615) (h : a / 2 ^ k % 2 = 0) : (bits .and .u64 ((a : Int) / 2 ^ k) 1 == 0) = true := by
  rw [bit64 k ha, h]; rfl
theorem bit64_eq' {a : Nat} (k : Nat) (ha : a ≤ 18446744073709551615) (h : a / 2 ^ k % 2 = 1) : (bits .and .u64 ((a : Int) / 2 ^ k) 1 == 0) = false := by
  rw [bit64 k ha, h]; rfl
theorem bit64_ne {a : Nat} (k : Nat) (ha : a ≤ 18446744073709551615) (h : a / 2 ^ k % 2 = 1) : (bits .and .u64 ((a : Int) / 2 ^ k) 1 != 0) = true := by
  rw [bit64 k ha, h]; rfl
theorem bit64_ne' {a : Nat} (k : Nat) (ha : a ≤ 18446744073709551615) (h : a / 2 ^ k % 2 = 0) : (bits .and .u64 ((a : Int) / 2 ^ k) 1 != 0) = false := by
  rw [bit64 k ha, h]; rfl
theorem bitLenAux_len : ∀ f x : Nat, x < 2 ^ f → Lib.bitLenAux f x = Gf2.len x
  | 0, x, h => by
    have : x = 0 := by simpa using h
    subst this; rw [Gf2.len_zero]; rfl
  | f + 1, x, h => by
    unfold Lib.bitLenAux
    by_cases e : x = 0
    · rw [if_pos e, e, Gf2.len_zero]
    · rw [if_neg e, Gf2.len_pos e, bitLenAux_len f (x / 2) (by rw [Nat.pow_succ] at h; omega), Nat.add_comm]
theorem bitLen_len {x : Nat} (h : x ≤ 18446744073709551615) : Lib.bitLen x = Gf2.len x := bitLenAux_len 64 x (by omega)
theorem len_le64 {x : Nat} (h : x ≤ 18446744073709551615) : Gf2.len x ≤ 64 := Gf2.len_le (by omega)
/-- the two halves of a product -/
def mulH (a b : Nat) : Nat := Gf2.cm a b / 2 ^ 64
def mulL (a b : Nat) : Nat := Gf2.cm a b % 2 ^ 64
theorem natI {a b : Nat} (h : a = b) : Value.int .u64 (a : Int) = .int .u64 (b : Int) := by rw [h]
end Go.Proofs.Ytpmnbdkncmjafaa
