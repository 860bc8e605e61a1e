/- Turned round: products, common divisors; of numbers alone. -/
import Derived.Test.YtpmnbdkncmjafaaRows
import Derived.Test.YtpmnbdkncmjafaaGf2
import Derived.Test.YtpmnbdkncmjafaaRevM
namespace Go.Proofs.Ytpmnbdkncmjafaa.Rev
open Gf2

theorem revP_xor (n a b : Nat) : revP n (a ^^^ b) = revP n a ^^^ revP n b := by
  refine Nat.eq_of_testBit_eq fun j => ?_
  rw [revP_bit, Nat.testBit_xor, Nat.testBit_xor, revP_bit, revP_bit]
  cases decide (j ≤ n) <;> simp
theorem revP_zero (n : Nat) : revP n 0 = 0 := by
  refine Nat.eq_of_testBit_eq fun j => ?_
  rw [revP_bit]; simp
theorem revP_pow {n k : Nat} (h : k ≤ n) : revP n (2 ^ k) = 2 ^ (n - k) := by
  refine Nat.eq_of_testBit_eq fun j => ?_
  rw [revP_bit, Nat.testBit_two_pow, Nat.testBit_two_pow]
  by_cases h1 : j ≤ n
  · by_cases h2 : k = n - j
    · simp [h1, h2, show n - (n - j) = j by omega]
    · simp [h1, h2]; omega
  · simp [h1]; omega
theorem revP_shift {n m k b : Nat} (hk : k ≤ n) (hb : b < 2 ^ (m + 1)) : revP (n + m) (b * 2 ^ k) = revP m b * 2 ^ (n - k) := by
  refine Nat.eq_of_testBit_eq fun j => ?_
  rw [revP_bit, Nat.testBit_mul_two_pow, Nat.testBit_mul_two_pow, revP_bit]
  by_cases h1 : n - k ≤ j
  · by_cases h2 : j - (n - k) ≤ m
    · simp [h1, h2, show j ≤ n + m by omega, show k ≤ n + m - j by omega, show n + m - j - k = m - (j - (n - k)) by omega]
    · simp [h2]
      intro h3 h4
      omega
  · by_cases h3 : j ≤ n + m
    · have h4 : b.testBit (n + m - j - k) = false := Nat.testBit_lt_two_pow (Nat.lt_of_lt_of_le hb (Nat.pow_le_pow_right (by omega) (by omega)))
      simp [h1, h4]
    · simp [h1, h3]
theorem mod_split (a k : Nat) : a % 2 ^ (k + 1) = a % 2 ^ k ^^^ (if a / 2 ^ k % 2 = 1 then 2 ^ k else 0) := by
  refine Nat.eq_of_testBit_eq fun j => ?_
  rw [Nat.testBit_xor, Nat.testBit_mod_two_pow, Nat.testBit_mod_two_pow]
  have hk : a.testBit k = decide (a / 2 ^ k % 2 = 1) := Nat.testBit_eq_decide_div_mod_eq
  rcases Nat.lt_trichotomy j k with h | h | h
  · have : (if a / 2 ^ k % 2 = 1 then 2 ^ k else 0).testBit j = false := by
      split
      · rw [Nat.testBit_two_pow]; simp; omega
      · simp
    rw [this]
    simp [h, show j < k + 1 by omega]
  · subst h
    have : (if a / 2 ^ j % 2 = 1 then 2 ^ j else 0).testBit j = decide (a / 2 ^ j % 2 = 1) := by
      split
      · rename_i h; rw [Nat.testBit_two_pow]; simp [h]
      · rename_i h; simp [h]
    rw [this, hk]
    simp
  · have : (if a / 2 ^ k % 2 = 1 then 2 ^ k else 0).testBit j = false := by
      split
      · rw [Nat.testBit_two_pow]; simp; omega
      · simp
    rw [this]
    simp [show ¬ j < k by omega, show ¬ j < k + 1 by omega]
theorem rev_cm_mod {n m a b : Nat} (hb : b < 2 ^ (m + 1)) : ∀ k, k ≤ n + 1 → revP (n + m) (cm (a % 2 ^ k) b) = cm (revP n (a % 2 ^ k)) (revP m b)
  | 0, _ => by rw [Nat.pow_zero, Nat.mod_one, cm_zero, revP_zero, revP_zero, cm_zero]
  | k + 1, hk => by
    have ih := rev_cm_mod (n := n) (a := a) hb k (by omega)
    rw [cm_step, revP_xor, ih, mod_split a k, revP_xor, cm_xor_left]
    congr 1
    split
    · rw [revP_shift (by omega) hb, revP_pow (by omega), cm_pow]
    · rw [revP_zero, revP_zero, cm_zero]
/-- the product turned round is the product of those turned round -/
theorem rev_cm {n m a b : Nat} (ha : a < 2 ^ (n + 1)) (hb : b < 2 ^ (m + 1)) : revP (n + m) (cm a b) = cm (revP n a) (revP m b) := by
  have h := rev_cm_mod (n := n) (a := a) hb (n + 1) (Nat.le_refl _)
  rwa [Nat.mod_eq_of_lt ha] at h
theorem cm_odd (a b : Nat) : cm a b % 2 = a % 2 * (b % 2) := by
  rw [cm_rec, xor_odd, Nat.mul_mod_right, Nat.add_zero, Nat.mod_mod]
  unfold low
  rcases Nat.mod_two_eq_zero_or_one a with h | h <;> rw [h]
  · simp
  · simp
/-- what is odd and divides a power of x is 1 -/
theorem odd_dvd_pow {D : Nat} (hD : D % 2 = 1) : ∀ N q, cm q D = 2 ^ N → D = 1
  | 0, q, h => by
    have hq : q ≠ 0 := fun e => by rw [e, cm_zero] at h; simp at h
    have hD0 : D ≠ 0 := fun e => by rw [e] at hD; simp at hD
    have h1 := len_cm hq hD0
    rw [h, Nat.pow_zero, show len 1 = 1 from len_eq (n := 0) (by decide) (by decide)] at h1
    have h2 : len D ≤ 1 := by have := len_pos hq; omega
    have h3 := lt_of_len h2
    omega
  | N + 1, q, h => by
    have h1 : q % 2 = 0 := by
      have h2 := cm_odd q D
      rw [h, hD, Nat.pow_succ, Nat.mul_mod_left, Nat.mul_one] at h2
      exact h2.symm
    have h3 : q = 2 * (q / 2) := by omega
    rw [h3, cm_two_left, Nat.pow_succ] at h
    exact odd_dvd_pow hD N (q / 2) (by omega)
/-- Bezout -/
theorem gcd_lin (a b : Nat) : ∃ u v, cm u a ^^^ cm v b = gcd a b := by
  by_cases hb : b = 0
  · subst hb
    exact ⟨1, 0, by rw [gcd_zero, cm_one_left, cm_zero, Nat.xor_zero]⟩
  · obtain ⟨u, v, h⟩ := gcd_lin b (rem a b)
    refine ⟨v, u ^^^ cm v (quo a b), ?_⟩
    rw [gcd_step a hb, ← h, rem_xor, cm_xor_right, cm_xor_left, cm_assoc, ← Nat.xor_assoc, Nat.xor_comm (cm v a), Nat.xor_assoc]
termination_by len b
decreasing_by exact len_rem a hb
theorem gcd_zero_l (a : Nat) : gcd 0 a = a := Dvd.antisymm (gcd_dvd 0 a).2 (dvd_gcd (Dvd.zero a) (Dvd.refl a))
theorem lt_of_lens {u M : Nat} (h : len u ≤ M) : u < 2 ^ (M + 1) := lt_of_len (by omega)
/-- what divides two that are turned round, one of them odd, is 1 where their divisor is 1 -/
theorem rev_lin2 {n a b u v D : Nat} (ha : a < 2 ^ (n + 1)) (hb : b < 2 ^ (n + 1)) (h : cm u a ^^^ cm v b = 1) (h1 : Dvd D (revP n a)) (h2 : Dvd D (revP n b)) (hD : D % 2 = 1) : D = 1 := by
  have hu : u < 2 ^ (max (len u) (len v) + 1) := lt_of_lens (by omega)
  have hv : v < 2 ^ (max (len u) (len v) + 1) := lt_of_lens (by omega)
  generalize max (len u) (len v) = M at *
  have e : revP (M + n) 1 = 2 ^ (M + n) := by have := revP_pow (n := M + n) (k := 0) (by omega); simpa using this
  rw [← h, revP_xor, rev_cm hu ha, rev_cm hv hb] at e
  obtain ⟨q, hq⟩ := Dvd.xor (h1.cm (revP M u)) (h2.cm (revP M v))
  exact odd_dvd_pow hD (M + n) q (hq.trans e)
theorem rev_lin3 {n a b c u v t D : Nat} (ha : a < 2 ^ (n + 1)) (hb : b < 2 ^ (n + 1)) (hc : c < 2 ^ (n + 1)) (h : cm u a ^^^ cm v b ^^^ cm t c = 1) (h1 : Dvd D (revP n a)) (h2 : Dvd D (revP n b)) (h3 : Dvd D (revP n c)) (hD : D % 2 = 1) : D = 1 := by
  have hu : u < 2 ^ (max (max (len u) (len v)) (len t) + 1) := lt_of_lens (by omega)
  have hv : v < 2 ^ (max (max (len u) (len v)) (len t) + 1) := lt_of_lens (by omega)
  have ht : t < 2 ^ (max (max (len u) (len v)) (len t) + 1) := lt_of_lens (by omega)
  generalize max (max (len u) (len v)) (len t) = M at *
  have e : revP (M + n) 1 = 2 ^ (M + n) := by have := revP_pow (n := M + n) (k := 0) (by omega); simpa using this
  rw [← h, revP_xor, revP_xor, rev_cm hu ha, rev_cm hv hb, rev_cm ht hc] at e
  obtain ⟨q, hq⟩ := Dvd.xor (Dvd.xor (h1.cm (revP M u)) (h2.cm (revP M v))) (h3.cm (revP M t))
  exact odd_dvd_pow hD (M + n) q (hq.trans e)
theorem dvd_odd {D a : Nat} (h : Dvd D a) (ha : a % 2 = 1) : D % 2 = 1 := by
  obtain ⟨q, hq⟩ := h
  have := cm_odd q D
  rw [hq, ha] at this
  rcases Nat.mod_two_eq_zero_or_one D with h | h
  · rw [h] at this; simp at this
  · exact h
theorem revP_ne {n a : Nat} (h0 : a ≠ 0) (ha : a < 2 ^ (n + 1)) : revP n a ≠ 0 := fun e => by
  have := revP_revP ha
  rw [e, revP_zero] at this
  exact h0 this.symm
theorem bitz (a : Nat) : a.testBit 0 = decide (a % 2 = 1) := by simp
theorem revP_low (n a : Nat) : (revP n a) % 2 = a / 2 ^ n % 2 := by
  have h := revP_bit n a 0
  rw [bitz] at h
  have h2 : a.testBit n = decide (a / 2 ^ n % 2 = 1) := Nat.testBit_eq_decide_div_mod_eq
  simp only [Nat.zero_le, decide_true, Bool.true_and, Nat.sub_zero, h2] at h
  have h3 := decide_eq_decide.1 h
  omega
theorem revP_high (n a : Nat) : (revP n a) / 2 ^ n % 2 = a % 2 := by
  have h := revP_bit n a n
  have h2 : (revP n a).testBit n = decide ((revP n a) / 2 ^ n % 2 = 1) := Nat.testBit_eq_decide_div_mod_eq
  rw [h2, Nat.sub_self, bitz] at h
  simp only [Nat.le_refl, decide_true, Bool.true_and] at h
  have h3 := decide_eq_decide.1 h
  omega
end Go.Proofs.Ytpmnbdkncmjafaa.Rev
