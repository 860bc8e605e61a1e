/- Powers of two among words: how many ones; the test by and. -/
import Derived.Test.YtfjaohadjmigoaaDoorGf2
import Derived.Test.YtfjaohadjmigoaaDoorPop
namespace Gf2

theorem popF_none (k : Nat) : ∀ x, x < 2 ^ k → popF k x = 0 → x = 0 := by
  induction k with
  | zero => intro x hx _; simpa using hx
  | succ k ih =>
    intro x hx h
    simp only [popF] at h
    have := ih (x / 2) (by rw [Nat.pow_succ] at hx; omega) (by omega)
    omega
theorem popF_one (k : Nat) : ∀ x, x < 2 ^ k → popF k x = 1 → ∃ i, i < k ∧ x = 2 ^ i := by
  induction k with
  | zero => intro x _ h; simp [popF] at h
  | succ k ih =>
    intro x hx h
    simp only [popF] at h
    rw [Nat.pow_succ] at hx
    by_cases hb : x % 2 = 1
    · have := popF_none k (x / 2) (by omega) (by omega)
      exact ⟨0, by omega, by omega⟩
    · obtain ⟨i, hi, e⟩ := ih (x / 2) (by omega) (by omega)
      exact ⟨i + 1, by omega, by rw [Nat.pow_succ, ← e]; omega⟩
theorem popF_pow (k : Nat) : ∀ i, i < k → popF k (2 ^ i) = 1 := by
  induction k with
  | zero => intro i h; omega
  | succ k ih =>
    intro i hi
    simp only [popF]
    cases i with
    | zero => simp [popF_zero]
    | succ i =>
      have e : 2 ^ (i + 1) / 2 = 2 ^ i := by rw [Nat.pow_succ]; omega
      have e2 : 2 ^ (i + 1) % 2 = 0 := by rw [Nat.pow_succ]; omega
      rw [e, e2, ih i (by omega)]
theorem and_zero_iff (x y : Nat) : x &&& y = 0 ↔ ¬ (x % 2 = 1 ∧ y % 2 = 1) ∧ x / 2 &&& y / 2 = 0 := by
  have h1 : (x &&& y) / 2 = x / 2 &&& y / 2 := Nat.and_div_two
  have h2 : (x &&& y) % 2 = 1 ↔ x % 2 = 1 ∧ y % 2 = 1 := Nat.and_mod_two_eq_one
  rw [← h1, ← h2]
  omega
theorem and_pred (k : Nat) : ∀ x, x < 2 ^ k → x ≠ 0 → (x &&& (x - 1) = 0 ↔ popF k x = 1) := by
  induction k with
  | zero => intro x hx h0; exact absurd (by simpa using hx) h0
  | succ k ih =>
    intro x hx h0
    rw [Nat.pow_succ] at hx
    rw [and_zero_iff]
    simp only [popF]
    by_cases hb : x % 2 = 1
    · have e : (x - 1) / 2 = x / 2 := by omega
      rw [e, Nat.and_self]
      constructor
      · rintro ⟨_, h⟩; rw [h, popF_zero, hb]
      · intro h
        exact ⟨by omega, popF_none k (x / 2) (by omega) (by omega)⟩
    · have e : (x - 1) / 2 = x / 2 - 1 := by omega
      rw [e, ih (x / 2) (by omega) (by omega)]
      constructor
      · rintro ⟨_, h⟩; omega
      · intro h; exact ⟨by omega, by omega⟩
end Gf2
