/- A step's symbols: of numbers alone. -/
import Derived.Test.YtpmnbdkncmjafaaRows
import Derived.Test.YtpmnbdkncmjafaaPop
import Derived.Test.YtpmnbdkncmjafaaCheckF
namespace Go.Proofs.Ytpmnbdkncmjafaa
open Go.RowKit

def outF (w g : Nat) : Nat := Gf2.par (w &&& g)
theorem outF_le (w g : Nat) : outF w g ≤ 1 := Gf2.par_le _
theorem or_bit {s x : Nat} (hs : s ≤ 2147483647) (hx : x ≤ 1) : bits .or .u32 ((s : Int) * 2) (x : Int) = ((2 * s + x : Nat) : Int) := by
  have h := or32 (a := 2 * s) (b := x) (by omega) (by omega)
  have e : 2 * s ||| x = 2 * s + x := by
    have := Nat.two_pow_add_eq_or_of_lt (i := 1) (b := x) (by omega) s
    simpa using this.symm
  rw [e] at h
  rw [← h]
  congr 1
  push_cast
  omega
theorem one_bit (n : Nat) : bits .and .i64 (n : Int) 1 % 256 = ((n % 2 : Nat) : Int) := by
  have h1 : (BitVec.ofInt 64 1).toNat = 2 ^ 1 - 1 := by decide
  have key : (BitVec.ofInt 64 (n : Int) &&& BitVec.ofInt 64 1).toNat = ((n : Int) % ((2 ^ 64 : Nat) : Int)).toNat % 2 ^ 1 := by
    rw [BitVec.toNat_and, BitVec.toNat_ofInt, h1, Nat.and_two_pow_sub_one_eq_mod]
  show IntKind.i64.wrap ((BitVec.ofInt 64 (n : Int) &&& BitVec.ofInt 64 1).toNat : Nat) % 256 = ((n % 2 : Nat) : Int)
  rw [key, IntKind.wrap_i64]
  omega
theorem mask_n (m n : Nat) (hm : m ≤ 4294967295) (hn : 2 ≤ n ∧ n ≤ 31) : bits .and .u32 (m : Int) (IntKind.u32.wrap (IntKind.u32.wrap (2 ^ n) - 1)) = ((m % 2 ^ n : Nat) : Int) := by
  have h2 : 2 ^ n ≤ 2 ^ 31 := Nat.pow_le_pow_right (by omega) (by omega)
  have h3 : 1 ≤ 2 ^ n := Nat.one_le_two_pow
  have e : (2 : Int) ^ n = ((2 ^ n : Nat) : Int) := by simp
  rw [e, IntWalk.u32_in ((2 ^ n : Nat) : Int) (by omega), IntWalk.u32_in (((2 ^ n : Nat) : Int) - 1) (by omega)]
  have e2 : ((2 ^ n : Nat) : Int) - 1 = ((2 ^ n - 1 : Nat) : Int) := by omega
  rw [e2, and32 hm (by omega), Nat.and_two_pow_sub_one_eq_mod]
theorem mask_m (m n : Nat) (hm : m ≤ 4294967295) (hn : 2 ≤ n ∧ n ≤ 31) : bits .and .u32 (m : Int) ((2 ^ n - 1) % 4294967296) = ((m % 2 ^ n : Nat) : Int) := by
  have h2 : 2 ^ n ≤ 2 ^ 31 := Nat.pow_le_pow_right (by omega) (by omega)
  have h3 : 1 ≤ 2 ^ n := Nat.one_le_two_pow
  have e : (2 : Int) ^ n = ((2 ^ n : Nat) : Int) := by simp
  have e2 : (((2 ^ n : Nat) : Int) - 1) % 4294967296 = ((2 ^ n - 1 : Nat) : Int) := by omega
  rw [e, e2, and32 hm (by omega), Nat.and_two_pow_sub_one_eq_mod]
theorem set_drewN (w : World) (j : Nat) (p : Addr) (v : Value) : (w.drewN j).setCell p v = (w.setCell p v).drewN j := rfl

def third (R : Int) (x : Nat) : Nat := if R = 2 then 0 else x
end Go.Proofs.Ytpmnbdkncmjafaa
