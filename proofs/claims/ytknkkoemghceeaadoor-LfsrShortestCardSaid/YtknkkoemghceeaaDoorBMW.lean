/- The shortest register of a row of bits: the row as a number; how far the loops have come. Nothing of Go stands here. -/
import Derived.Test.YtknkkoemghceeaaDoorBM
namespace Gf2
namespace BM

/-- a row of bits as a number: the first bit is worth 1 -/
def rowN : List Nat → Nat
  | [] => 0
  | x :: r => x % 2 + 2 * rowN r
theorem rowN_bit : ∀ (xs : List Nat) (i : Nat), rowN xs / 2 ^ i % 2 = xs.getD i 0 % 2
  | [], i => by simp [rowN]
  | x :: r, 0 => by simp [rowN]
  | x :: r, i + 1 => by
    rw [Nat.pow_succ, Nat.mul_comm, ← Nat.div_div_eq_div_mul]
    have : rowN (x :: r) / 2 = rowN r := by simp only [rowN]; omega
    rw [this, rowN_bit r i]
    rfl
theorem rowN_at {xs : List Nat} (hb : ∀ i, xs.getD i 0 ≤ 1) (i : Nat) : rowN xs / 2 ^ i % 2 = xs.getD i 0 := by
  rw [rowN_bit]
  have := hb i
  omega
/-- the sum over the first i coefficients of c -/
def part (S c n i : Nat) : Nat := cm (c % 2 ^ i) S / 2 ^ n % 2
theorem part_zero (S c n : Nat) : part S c n 0 = 0 := by simp [part, Nat.mod_one, cm_zero]
theorem part_le (S c n i : Nat) : part S c n i ≤ 1 := by unfold part; omega
theorem xor_bit (x y n : Nat) : (x ^^^ y) / 2 ^ n % 2 = (x / 2 ^ n % 2) ^^^ (y / 2 ^ n % 2) := by
  rw [xor_high, xor_odd]
  have h1 := Nat.mod_lt (x / 2 ^ n) (show 0 < 2 by omega)
  have h2 := Nat.mod_lt (y / 2 ^ n) (show 0 < 2 by omega)
  have e : ∀ a b : Nat, a < 2 → b < 2 → (a + b) % 2 = a ^^^ b := by
    intro a b ha hb
    have : a = 0 ∨ a = 1 := by omega
    have : b = 0 ∨ b = 1 := by omega
    rcases ‹a = 0 ∨ a = 1› with rfl | rfl <;> rcases ‹b = 0 ∨ b = 1› with rfl | rfl <;> rfl
  exact e _ _ h1 h2
theorem shift_bit (S i n : Nat) : S * 2 ^ i / 2 ^ n % 2 = if i ≤ n then S / 2 ^ (n - i) % 2 else 0 := by
  split
  · rename_i h
    rw [shift_high h]
  · rename_i h
    rw [shift_high' (by omega), show i - n = (i - n - 1) + 1 by omega, Nat.pow_succ, ← Nat.mul_assoc]
    omega
theorem part_no {S c n i : Nat} (h : c / 2 ^ i % 2 = 0 ∨ n < i) : part S c n (i + 1) = part S c n i := by
  unfold part
  rw [cm_step]
  by_cases h1 : c / 2 ^ i % 2 = 1
  · rw [if_pos h1, xor_bit, shift_bit, if_neg (by omega), Nat.xor_zero]
  · rw [if_neg h1, Nat.xor_zero]
theorem part_yes {S c n i : Nat} (h : c / 2 ^ i % 2 = 1) (hi : i ≤ n) : part S c n (i + 1) = part S c n i ^^^ (S / 2 ^ (n - i) % 2) := by
  unfold part
  rw [cm_step, if_pos h, xor_bit, shift_bit, if_pos hi]
theorem part_done {S c n i : Nat} (h : c < 2 ^ i) : part S c n i = (dsc S c n).toNat := by
  unfold part dsc
  rw [Nat.mod_eq_of_lt h, Nat.testBit_eq_decide_div_mod_eq]
  have := Nat.mod_lt (cm c S / 2 ^ n) (show 0 < 2 by omega)
  by_cases h1 : cm c S / 2 ^ n % 2 = 1
  · simp [h1]
  · have : cm c S / 2 ^ n % 2 = 0 := by omega
    simp [this]
/-- bit k of the product asks the first k + 1 bits alone -/
theorem dsc_low {S T c k : Nat} (h : S % 2 ^ (k + 1) = T % 2 ^ (k + 1)) : dsc S c k = dsc T c k := by
  have key : ∀ X : Nat, dsc X c k = dsc (X % 2 ^ (k + 1)) c k := by
    intro X
    have e : X = X % 2 ^ (k + 1) ^^^ X / 2 ^ (k + 1) * 2 ^ (k + 1) := by
      refine Nat.eq_of_testBit_eq fun j => ?_
      rw [Nat.testBit_xor, Nat.testBit_mod_two_pow, Nat.testBit_mul_two_pow, Nat.testBit_div_two_pow]
      by_cases hj : j < k + 1
      · simp [hj, show ¬ k + 1 ≤ j by omega]
      · simp [hj, show k + 1 ≤ j by omega, show j - (k + 1) + (k + 1) = j by omega]
    unfold dsc
    conv => lhs; rw [e]
    rw [cm_xor_right, Nat.testBit_xor, cm_comm c (X / 2 ^ (k + 1) * 2 ^ (k + 1)), cm_shift, Nat.testBit_mul_two_pow, show decide (k + 1 ≤ k) = false by simp, Bool.false_and, Bool.xor_false]
  rw [key S, key T, h]
theorem step_low {S T n : Nat} (s : St) (h : S % 2 ^ (n + 1) = T % 2 ^ (n + 1)) : step S n s = step T n s := by
  unfold step
  rw [dsc_low h]
theorem low_less {S T a b : Nat} (hab : a ≤ b) (h : S % 2 ^ b = T % 2 ^ b) : S % 2 ^ a = T % 2 ^ a := by
  have := congrArg (· % 2 ^ a) h
  simp only [Nat.mod_mod_of_dvd _ (Nat.pow_dvd_pow 2 hab)] at this
  exact this
theorem run_low {S T : Nat} : ∀ n, S % 2 ^ n = T % 2 ^ n → run S n = run T n
  | 0, _ => rfl
  | n + 1, h => by
    show step S n (run S n) = step T n (run T n)
    rw [run_low n (low_less (by omega) h), step_low _ h]
theorem rowN_take (xs : List Nat) (m : Nat) : rowN (xs.take m) % 2 ^ m = rowN xs % 2 ^ m := by
  refine Nat.eq_of_testBit_eq fun j => ?_
  rw [Nat.testBit_mod_two_pow, Nat.testBit_mod_two_pow, Nat.testBit_eq_decide_div_mod_eq, Nat.testBit_eq_decide_div_mod_eq, rowN_bit, rowN_bit]
  by_cases hj : j < m
  · simp only [List.getD_eq_getElem?_getD, List.getElem?_take, hj, if_pos]
  · simp [hj]
/-- the shortest length of a row less its last bit, and of the row -/
theorem grows (xs : List Nat) (n : Nat) : ((run (rowN xs) (n + 1)).L = (run (rowN (xs.take n)) n).L ∨ (run (rowN xs) (n + 1)).L = n + 1 - (run (rowN (xs.take n)) n).L) ∧ (run (rowN (xs.take n)) n).L ≤ (run (rowN xs) (n + 1)).L := by
  rw [run_low n (rowN_take xs n)]
  exact run_grows _ _
/-- least's loop: the shifts from sh0 down -/
def lst (b db : Nat) : Nat → Nat → Nat → Nat
  | 0, _, c => c
  | k + 1, sh, c => lst b db k (sh - 1) (if c / 2 ^ (sh + db) % 2 = 1 then c ^^^ b * 2 ^ sh else c)
theorem lst_inv {S n lb db : Nat} : ∀ (k sh : Nat) (s : St), Inv S n s lb → (∀ j, j < k → s.m ≤ sh - j) → k ≤ sh + 1 → (0 < k → sh + n + 1 ≤ s.m + 2 * s.L) → Inv S n { s with c := lst s.b db k sh s.c } lb
  | 0, _, _, h, _, _, _ => h
  | k + 1, sh, s, h, h1, h2, h3 => by
    have h4 := h3 (by omega)
    have h5 := h1 0 (by omega)
    unfold lst
    split
    · exact lst_inv k (sh - 1) { s with c := s.c ^^^ s.b * 2 ^ sh } (h.least (by omega) h4) (fun j hj => by have := h1 (j + 1) (by omega); show s.m ≤ sh - 1 - j; omega) (by omega) (fun hk => by show sh - 1 + n + 1 ≤ s.m + 2 * s.L; omega)
    · exact lst_inv k (sh - 1) s h (fun j hj => by have := h1 (j + 1) (by omega); omega) (by omega) (fun hk => by omega)
end BM
end Gf2
