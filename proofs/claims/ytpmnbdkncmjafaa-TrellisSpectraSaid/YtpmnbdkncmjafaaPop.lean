/- Counting bits: sums and parities of the bits of a number. Nothing of Go stands here. -/
import Derived.Test.YtpmnbdkncmjafaaGf2
namespace Gf2
/-- the ones among the lowest k bits -/
def popF : Nat → Nat → Nat
  | 0, _ => 0
  | k + 1, x => x % 2 + popF k (x / 2)
theorem popF_zero (k : Nat) : popF k 0 = 0 := by
  induction k with
  | zero => rfl
  | succ k ih => simp [popF, ih]
theorem popF_le (k x : Nat) : popF k x ≤ k := by
  induction k generalizing x with
  | zero => simp [popF]
  | succ k ih => have := ih (x / 2); simp only [popF]; omega
theorem popF_add (i j x : Nat) : popF (i + j) x = popF i x + popF j (x / 2 ^ i) := by
  induction i generalizing x with
  | zero => simp [popF]
  | succ i ih =>
    rw [show i + 1 + j = (i + j) + 1 by omega]
    simp only [popF]
    rw [ih (x / 2), Nat.div_div_eq_div_mul, show (2 : Nat) * 2 ^ i = 2 ^ (i + 1) by rw [Nat.pow_succ]; omega]
    omega
theorem popF_mod (i x : Nat) : popF i (x % 2 ^ i) = popF i x := by
  induction i generalizing x with
  | zero => rfl
  | succ i ih =>
    simp only [popF]
    have h1 : x % 2 ^ (i + 1) % 2 = x % 2 := by
      rw [Nat.pow_succ, Nat.mul_comm, Nat.mod_mul_right_mod]
    have h2 : x % 2 ^ (i + 1) / 2 = x / 2 % 2 ^ i := by
      rw [Nat.pow_succ, Nat.mul_comm, Nat.mod_mul_right_div_self]
    rw [h1, h2, ih]
theorem popF_small {i j x : Nat} (h : x < 2 ^ i) (hij : i ≤ j) : popF j x = popF i x := by
  obtain ⟨d, rfl⟩ : ∃ d, j = i + d := ⟨j - i, by omega⟩
  rw [popF_add, Nat.div_eq_of_lt h, popF_zero, Nat.add_zero]
theorem popF_xor (k x y : Nat) : popF k (x ^^^ y) % 2 = (popF k x + popF k y) % 2 := by
  induction k generalizing x y with
  | zero => rfl
  | succ k ih =>
    simp only [popF]
    have h1 : (x ^^^ y) % 2 = (x % 2 + y % 2) % 2 := xor_odd x y
    have h2 : (x ^^^ y) / 2 = x / 2 ^^^ y / 2 := xor_half x y
    have := ih (x / 2) (y / 2)
    rw [h2, h1]
    omega
/-- the parity of a word's ones -/
def par (x : Nat) : Nat := popF 32 x % 2
theorem par_le (x : Nat) : par x ≤ 1 := by unfold par; omega
theorem par_xor (x y : Nat) : par (x ^^^ y) = par x ^^^ par y := by
  unfold par
  rw [popF_xor]
  have h1 : popF 32 x % 2 = 0 ∨ popF 32 x % 2 = 1 := by omega
  have h2 : popF 32 y % 2 = 0 ∨ popF 32 y % 2 = 1 := by omega
  rcases h1 with h1 | h1 <;> rcases h2 with h2 | h2 <;> rw [h1, h2] <;> simp [Nat.add_mod, h1, h2]
end Gf2
