/- The symbols of some bits are sums of products: the register's word against the document's. Of numbers alone. -/
import Derived.Test.YtmmngcjnofcmmaaRows
import Derived.Test.YtmmngcjnofcmmaaSyms
namespace Go.Proofs.Ytmmngcjnofcmmaa
open Go.RowKit

/-- the bit that lies j places back of place t: 0 ahead of the row and behind it -/
def backAt (xs : List Nat) (t j : Nat) : Nat := if j ≤ t then xs.getD (t - j) 0 else 0
/-- the document's symbol, the first j terms of it -/
def symP (g : Nat) (xs : List Nat) (t : Nat) : Nat → Nat
  | 0 => 0
  | j + 1 => symP g xs t j ^^^ (if g / 2 ^ j % 2 = 1 then backAt xs t j else 0)
theorem div_succ (x j : Nat) : x / 2 ^ (j + 1) = x / 2 / 2 ^ j := by rw [Nat.pow_succ', ← Nat.div_div_eq_div_mul]
theorem mod_bit {x n j : Nat} (h : j < n) : x % 2 ^ n / 2 ^ j % 2 = x / 2 ^ j % 2 := by
  obtain ⟨d, rfl⟩ : ∃ d, n = j + (d + 1) := ⟨n - j - 1, by omega⟩
  rw [Nat.pow_add, Nat.mod_mul_right_div_self, Nat.pow_succ, Nat.mul_comm (2 ^ d) 2]
  exact Nat.mod_mul_right_mod _ _ _
theorem and_bit (w g k : Nat) : (w &&& g) / 2 ^ k % 2 = if g / 2 ^ k % 2 = 1 then w / 2 ^ k % 2 else 0 := by
  have h := Nat.testBit_and w g k
  simp only [Nat.testBit_eq_decide_div_mod_eq] at h
  have h1 : (w &&& g) / 2 ^ k % 2 < 2 := Nat.mod_lt _ (by omega)
  have h2 : w / 2 ^ k % 2 < 2 := Nat.mod_lt _ (by omega)
  generalize (w &&& g) / 2 ^ k % 2 = x at *
  generalize w / 2 ^ k % 2 = y at *
  generalize g / 2 ^ k % 2 = z at *
  by_cases hz : z = 1
  · rw [if_pos hz]
    by_cases hy : y = 1
    · simp [hz, hy] at h; omega
    · simp [hz, hy] at h; omega
  · rw [if_neg hz]
    simp [hz] at h; omega
section
variable {n : Nat} {xs : List Nat}
theorem window (hx : ∀ i, xs.getD i 0 ≤ 1) : ∀ t j, j ≤ n → (2 * stAt n 0 xs t + xs.getD t 0) / 2 ^ j % 2 = backAt xs t j
  | t, 0, _ => by
    have := hx t
    unfold backAt
    rw [if_pos (Nat.zero_le _), Nat.sub_zero, Nat.pow_zero, Nat.div_one]
    omega
  | 0, j + 1, _ => by
    have := hx 0
    show (2 * 0 + xs.getD 0 0) / 2 ^ (j + 1) % 2 = 0
    rw [div_succ, show (2 * 0 + xs.getD 0 0) / 2 = 0 by omega, Nat.zero_div]
  | t + 1, j + 1, hj => by
    have h1 := hx (t + 1)
    have e : (2 * stAt n 0 xs (t + 1) + xs.getD (t + 1) 0) / 2 ^ (j + 1) = stAt n 0 xs (t + 1) / 2 ^ j := by
      rw [div_succ, show (2 * stAt n 0 xs (t + 1) + xs.getD (t + 1) 0) / 2 = stAt n 0 xs (t + 1) by omega]
    have e2 : stAt n 0 xs (t + 1) = (2 * stAt n 0 xs t + xs.getD t 0) % 2 ^ n := rfl
    rw [e, e2, mod_bit (by omega), window hx t j (by omega)]
    unfold backAt
    by_cases h : j ≤ t
    · rw [if_pos h, if_pos (by omega), show t + 1 - (j + 1) = t - j by omega]
    · rw [if_neg h, if_neg (by omega)]
theorem pop_sym {w g t : Nat} : ∀ k, (∀ j, j < k → w / 2 ^ j % 2 = backAt xs t j) → Gf2.popF k (w &&& g) % 2 = symP g xs t k
  | 0, _ => rfl
  | k + 1, h => by
    have ih := pop_sym (g := g) k fun j hj => h j (by omega)
    have e := Gf2.popF_add k 1 (w &&& g)
    have e1 : Gf2.popF 1 ((w &&& g) / 2 ^ k) = (w &&& g) / 2 ^ k % 2 := by simp [Gf2.popF]
    have hb := and_bit w g k
    rw [h k (by omega)] at hb
    show _ = symP g xs t k ^^^ (if g / 2 ^ k % 2 = 1 then backAt xs t k else 0)
    rw [← ih, ← hb, e, e1]
    have hlt : (w &&& g) / 2 ^ k % 2 < 2 := Nat.mod_lt _ (by omega)
    generalize (w &&& g) / 2 ^ k % 2 = x at *
    generalize Gf2.popF k (w &&& g) = y at *
    have hx : x = 0 ∨ x = 1 := by omega
    have hy : y % 2 = 0 ∨ y % 2 = 1 := by omega
    rcases hx with hx | hx <;> rcases hy with hy | hy <;> rw [hx, hy] <;> simp <;> omega
/-- a step's symbol is the document's -/
theorem outF_sym {g : Nat} (hx : ∀ i, xs.getD i 0 ≤ 1) (hn : n ≤ 31) (hg : g < 2 ^ (n + 1)) (t : Nat) : outF (2 * stAt n 0 xs t + xs.getD t 0) g = symP g xs t (n + 1) := by
  have h := pop_sym (w := 2 * stAt n 0 xs t + xs.getD t 0) (g := g) (xs := xs) (t := t) (n + 1) fun j hj => window hx t j (by omega)
  rw [← h]
  unfold outF Gf2.par
  rw [Gf2.popF_small (i := n + 1) (j := 32) (Nat.and_lt_two_pow _ hg) (by omega)]
end
end Go.Proofs.Ytmmngcjnofcmmaa
