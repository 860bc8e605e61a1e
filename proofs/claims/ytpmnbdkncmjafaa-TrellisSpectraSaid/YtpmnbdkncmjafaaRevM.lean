/- A word turned round, bit by bit; of numbers alone. -/
import Derived.Test.YtpmnbdkncmjafaaRows
namespace Go.Proofs.Ytpmnbdkncmjafaa.Rev

/-- neighbours of k bits exchanged under a mask -/
def swp (k m x : Nat) : Nat := (x / 2 ^ k &&& m) ||| ((x &&& m) * 2 ^ k % 2 ^ 64)
def at_ (k m i : Nat) : Nat := if m.testBit i then i + k else i - k
theorem swp_bit {k m : Nat} (ht : ∀ i : Fin 64, if m.testBit i then (decide (k ≤ i.val) && m.testBit (i.val - k)) = false else k ≤ i.val ∧ m.testBit (i.val - k) = true) (x : Nat) {i : Nat} (hi : i < 64) : (swp k m x).testBit i = x.testBit (at_ k m i) := by
  have h := ht ⟨i, hi⟩
  simp only at h
  unfold swp at_
  rw [Nat.testBit_or, Nat.testBit_and, Nat.testBit_div_two_pow, Nat.testBit_mod_two_pow, Nat.testBit_mul_two_pow, Nat.testBit_and]
  by_cases hm : m.testBit i = true
  · rw [if_pos hm] at h
    rw [hm]
    have h2 : (decide (k ≤ i) && (x.testBit (i - k) && m.testBit (i - k))) = false := by
      cases hk : decide (k ≤ i)
      · simp
      · rw [hk] at h
        simp at h
        simp [h]
    rw [h2]
    simp
  · rw [if_neg hm] at h
    have hm' : m.testBit i = false := by simpa using hm
    rw [hm']
    simp [hi, h.1, h.2]
/-- the halves exchanged -/
def hlf (x : Nat) : Nat := (x / 2 ^ 32) ||| (x * 2 ^ 32 % 2 ^ 64)
theorem hlf_bit {x : Nat} (hx : x < 2 ^ 64) {i : Nat} (hi : i < 64) : (hlf x).testBit i = x.testBit (if i < 32 then i + 32 else i - 32) := by
  unfold hlf
  rw [Nat.testBit_or, Nat.testBit_div_two_pow, Nat.testBit_mod_two_pow, Nat.testBit_mul_two_pow]
  by_cases h : i < 32
  · rw [if_pos h]
    have : ¬ 32 ≤ i := by omega
    simp [this]
  · rw [if_neg h]
    have h2 : x.testBit (i + 32) = false := Nat.testBit_lt_two_pow (Nat.lt_of_lt_of_le hx (Nat.pow_le_pow_right (by omega) (by omega)))
    have : 32 ≤ i := by omega
    simp [h2, this, hi]
theorem swp_lt {k m x : Nat} (hm : m < 2 ^ 64) : swp k m x < 2 ^ 64 := by
  unfold swp
  refine Nat.or_lt_two_pow ?_ (Nat.mod_lt _ (by decide))
  exact Nat.lt_of_le_of_lt Nat.and_le_right hm
theorem hlf_lt {x : Nat} (hx : x < 2 ^ 64) : hlf x < 2 ^ 64 := by
  unfold hlf
  refine Nat.or_lt_two_pow ?_ (Nat.mod_lt _ (by decide))
  exact Nat.lt_of_le_of_lt (Nat.div_le_self _ _) hx
def m0 : Nat := 6148914691236517205
def m1 : Nat := 3689348814741910323
def m2 : Nat := 1085102592571150095
def m3 : Nat := 71777214294589695
def m4 : Nat := 281470681808895
/-- bits.Reverse64 -/
def r64 (x : Nat) : Nat := hlf (swp 16 m4 (swp 8 m3 (swp 4 m2 (swp 2 m1 (swp 1 m0 x)))))
theorem r64_lt (x : Nat) : r64 x < 2 ^ 64 := hlf_lt (swp_lt (by decide))
theorem r64_bit (x : Nat) {i : Nat} (hi : i < 64) : (r64 x).testBit i = x.testBit (63 - i) := by
  have key : ∀ i : Fin 64, (if i.val < 32 then i.val + 32 else i.val - 32) < 64 ∧ at_ 16 m4 (if i.val < 32 then i.val + 32 else i.val - 32) < 64 ∧ at_ 8 m3 (at_ 16 m4 (if i.val < 32 then i.val + 32 else i.val - 32)) < 64 ∧
      at_ 4 m2 (at_ 8 m3 (at_ 16 m4 (if i.val < 32 then i.val + 32 else i.val - 32))) < 64 ∧ at_ 2 m1 (at_ 4 m2 (at_ 8 m3 (at_ 16 m4 (if i.val < 32 then i.val + 32 else i.val - 32)))) < 64 ∧
      at_ 1 m0 (at_ 2 m1 (at_ 4 m2 (at_ 8 m3 (at_ 16 m4 (if i.val < 32 then i.val + 32 else i.val - 32))))) = 63 - i.val := by decide +kernel
  obtain ⟨h1, h2, h3, h4, h5, h6⟩ := key ⟨i, hi⟩
  simp only at h1 h2 h3 h4 h5 h6
  unfold r64
  rw [hlf_bit (swp_lt (by decide)) hi, swp_bit (by decide +kernel) _ h1, swp_bit (by decide +kernel) _ h2, swp_bit (by decide +kernel) _ h3, swp_bit (by decide +kernel) _ h4, swp_bit (by decide +kernel) _ h5, h6]
/-- the first k bits of a, each at the place n less its own -/
def revK (n a : Nat) : Nat → Nat
  | 0 => 0
  | k + 1 => revK n a k ||| (a / 2 ^ k % 2) * 2 ^ (n - k)
/-- a polynomial of degree n at most, turned round -/
def revP (n a : Nat) : Nat := revK n a (n + 1)
theorem bit_bit (a j : Nat) : (a % 2).testBit j = (decide (j = 0) && a.testBit 0) := by
  have h := Nat.testBit_mod_two_pow a 1 j
  rw [Nat.pow_one] at h
  rw [h]
  cases j with
  | zero => simp
  | succ j => simp
theorem revK_bit (n a : Nat) : ∀ k, k ≤ n + 1 → ∀ j, (revK n a k).testBit j = (decide (j ≤ n ∧ n - j < k) && a.testBit (n - j))
  | 0, _, j => by simp [revK]
  | k + 1, hk, j => by
    rw [revK, Nat.testBit_or, revK_bit n a k (by omega) j, Nat.testBit_mul_two_pow, bit_bit, Nat.testBit_div_two_pow, Nat.zero_add]
    by_cases h1 : j ≤ n
    · by_cases h2 : n - j < k
      · have h3 : ¬ j - (n - k) = 0 ∨ ¬ n - k ≤ j := by omega
        simp [h1, h2, show n - j < k + 1 by omega]
        intro h4 h5 h6
        omega
      · by_cases h3 : n - j = k
        · have h4 : n - k ≤ j := by omega
          have h5 : j - (n - k) = 0 := by omega
          simp [h1, h3, h4, h5]
        · have h4 : ¬ n - k ≤ j := by omega
          simp [h1, h2, h4, show ¬ n - j < k + 1 by omega]
    · have h5 : ¬ j - (n - k) = 0 := by omega
      simp [h1, h5]
theorem revP_bit (n a j : Nat) : (revP n a).testBit j = (decide (j ≤ n) && a.testBit (n - j)) := by
  unfold revP
  rw [revK_bit n a (n + 1) (Nat.le_refl _) j]
  by_cases h : j ≤ n
  · simp [h, show n - j < n + 1 by omega]
  · simp [h]
/-- what poly.Reverse answers -/
theorem r64_shr {n a : Nat} (hn : n ≤ 63) : r64 a / 2 ^ (63 - n) = revP n a := by
  refine Nat.eq_of_testBit_eq fun j => ?_
  rw [Nat.testBit_div_two_pow, revP_bit]
  by_cases h : j ≤ n
  · rw [r64_bit _ (by omega), show 63 - (j + (63 - n)) = n - j by omega]
    simp [h]
  · rw [Nat.testBit_lt_two_pow (Nat.lt_of_lt_of_le (r64_lt a) (Nat.pow_le_pow_right (by omega) (by omega)))]
    simp [h]
theorem revP_lt (n a : Nat) : revP n a < 2 ^ (n + 1) := by
  refine Nat.lt_pow_two_of_testBit _ fun i hi => ?_
  rw [revP_bit]
  simp [show ¬ i ≤ n by omega]
theorem revP_revP {n a : Nat} (ha : a < 2 ^ (n + 1)) : revP n (revP n a) = a := by
  refine Nat.eq_of_testBit_eq fun j => ?_
  rw [revP_bit, revP_bit]
  by_cases h : j ≤ n
  · simp [h, show n - (n - j) = j by omega]
  · simp [h]
    rw [Nat.testBit_lt_two_pow (Nat.lt_of_lt_of_le ha (Nat.pow_le_pow_right (by omega) (by omega)))]
end Go.Proofs.Ytpmnbdkncmjafaa.Rev
