/- The shortest register: none is shorter. Nothing of Go stands here. -/
import Derived.Test.YtknkkoemghceeaaDoorBMX
namespace Gf2
namespace BM

/-- c makes the first n bits with length L -/
def Fits (S n L c : Nat) : Prop := c % 2 = 1 ∧ c < 2 ^ (L + 1) ∧ ∀ k, L ≤ k → k < n → dsc S c k = false
theorem cm_low {a b i j n : Nat} (ha : a < 2 ^ i) (hb : b < 2 ^ j) (h : i + j ≤ n + 1) : (cm a b).testBit n = false := by
  by_cases ha0 : a = 0
  · rw [ha0, cm_zero]; simp
  by_cases hb0 : b = 0
  · rw [hb0, cm_zero_right]; simp
  have h1 := len_cm ha0 hb0
  have h2 := len_le ha
  have h3 := len_le hb
  exact bit_above (by omega)
theorem cm_high (a b n : Nat) : (cm a (b * 2 ^ (n + 1))).testBit n = false := by
  rw [cm_comm, cm_shift, Nat.testBit_mul_two_pow, show decide (n + 1 ≤ n) = false by simp, Bool.false_and]
theorem cm_at (a n : Nat) (ha : a % 2 = 1) : (cm a (2 ^ n)).testBit n = true := by
  rw [cm_comm, cm_pow, Nat.testBit_mul_two_pow]
  simp [Nat.testBit_zero, ha]
/-- a number by its low bits, bit n and what is above, where all between are 0 -/
theorem split_at {x L n : Nat} (hL : L ≤ n) (h : ∀ k, L ≤ k → k < n → x.testBit k = false) : x = x % 2 ^ L ^^^ (if x.testBit n then 2 ^ n else 0) ^^^ x / 2 ^ (n + 1) * 2 ^ (n + 1) := by
  refine Nat.eq_of_testBit_eq fun j => ?_
  rw [Nat.testBit_xor, Nat.testBit_xor, Nat.testBit_mod_two_pow, Nat.testBit_mul_two_pow, Nat.testBit_div_two_pow]
  rcases Nat.lt_trichotomy j n with hj | hj | hj
  · have e1 : decide (n + 1 ≤ j) = false := by simp; omega
    rw [e1]
    have e2 : (if x.testBit n = true then 2 ^ n else 0).testBit j = false := by
      split
      · rw [Nat.testBit_two_pow]; simp; omega
      · simp
    rw [e2]
    by_cases hjL : j < L
    · simp [hjL]
    · simp [hjL, h j (by omega) hj]
  · subst hj
    have e1 : decide (j + 1 ≤ j) = false := by simp
    rw [e1]
    have e3 : decide (j < L) = false := by simp; omega
    rw [e3]
    cases x.testBit j <;> simp [Nat.testBit_two_pow_self]
  · have e1 : decide (n + 1 ≤ j) = true := by simp; omega
    have e2 : (if x.testBit n = true then 2 ^ n else 0).testBit j = false := by
      split
      · rw [Nat.testBit_two_pow]; simp; omega
      · simp
    have e3 : decide (j < L) = false := by simp; omega
    rw [e1, e2, e3, show j - (n + 1) + (n + 1) = j by omega]
    simp
/-- Massey's lemma -/
theorem massey {S n L L' c c' : Nat} (h : Fits S n L c) (hn : dsc S c n = true) (h' : Fits S (n + 1) L' c') : n + 1 ≤ L + L' := by
  refine Decidable.byContradiction fun hlt => ?_
  have hlt : L + L' ≤ n := by omega
  obtain ⟨h1, h2, h3⟩ := h
  obtain ⟨g1, g2, g3⟩ := h'
  have eA := split_at (x := cm c S) (L := L) (n := n) (by omega) h3
  have eB := split_at (x := cm c' S) (L := L') (n := n) (by omega) (fun k a b => g3 k a (by omega))
  have hA : (cm c S).testBit n = true := hn
  have hB : (cm c' S).testBit n = false := g3 n (by omega) (by omega)
  rw [hA, if_pos rfl] at eA
  rw [hB, if_neg (by simp), Nat.xor_zero] at eB
  have k1 : (cm c' (cm c S)).testBit n = true := by
    rw [eA, cm_xor_right, cm_xor_right, Nat.testBit_xor, Nat.testBit_xor, cm_high, cm_at c' n g1, cm_low g2 (Nat.mod_lt _ (Nat.two_pow_pos L)) (by omega)]
    rfl
  have k2 : (cm c (cm c' S)).testBit n = false := by
    rw [eB, cm_xor_right, Nat.testBit_xor, cm_high, cm_low h2 (Nat.mod_lt _ (Nat.two_pow_pos L')) (by omega)]
    rfl
  have e : cm c' (cm c S) = cm c (cm c' S) := by rw [← cm_assoc, ← cm_assoc, cm_comm c' c]
  rw [e, k2] at k1
  cases k1
theorem run_fits (S n : Nat) : Fits S n (run S n).L (run S n).c := by
  obtain ⟨lb, h⟩ := run_inv S n
  exact ⟨h.odd, h.deg, h.zero⟩
/-- none is shorter -/
theorem run_min (S : Nat) : ∀ n L' c', Fits S n L' c' → (run S n).L ≤ L'
  | 0, _, _, _ => Nat.zero_le _
  | n + 1, L', c', h => by
    have ih := run_min S n L' c' ⟨h.1, h.2.1, fun k a b => h.2.2 k a (by omega)⟩
    show (step S n (run S n)).L ≤ L'
    unfold step
    split
    · exact ih
    · rename_i hd
      split
      · have := massey (run_fits S n) (by simpa using hd) h
        show n + 1 - (run S n).L ≤ L'
        omega
      · exact ih
end BM
end Gf2
