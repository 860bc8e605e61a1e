/- Linear registers: a step, its linearity, its powers, its period. Nothing of Go stands here. -/
import Derived.Test.YtknkkoemghceeaaDoorPop
namespace Gf2
theorem and_xor_left (x y t : Nat) : (x ^^^ y) &&& t = (x &&& t) ^^^ (y &&& t) := by
  apply Nat.eq_of_testBit_eq
  intro i
  simp only [Nat.testBit_and, Nat.testBit_xor]
  cases x.testBit i <;> cases y.testBit i <;> cases t.testBit i <;> rfl
theorem add_eq_xor {a b n : Nat} (h : a < 2 ^ n) : a + b * 2 ^ n = a ^^^ b * 2 ^ n := by
  rw [Nat.add_comm, Nat.mul_comm, Nat.two_pow_add_eq_or_of_lt h b]
  apply Nat.eq_of_testBit_eq
  intro i
  rw [Nat.testBit_or, Nat.testBit_xor, Nat.testBit_two_pow_mul]
  rcases Nat.lt_or_ge i n with hi | hi
  · simp [show ¬ i ≥ n by omega]
  · rw [Nat.testBit_lt_two_pow (Nat.lt_of_lt_of_le h (Nat.pow_le_pow_right (by omega) hi))]
    simp
/-- a step of a register of D bits -/
def stp (D T v : Nat) : Nat := v / 2 + par (v &&& T) * 2 ^ (D - 1)
section
variable {D T : Nat}
theorem half_lt {v : Nat} (hD : 1 ≤ D) (h : v < 2 ^ D) : v / 2 < 2 ^ (D - 1) := by
  obtain ⟨d, rfl⟩ : ∃ d, D = d + 1 := ⟨D - 1, by omega⟩
  simp only [Nat.pow_succ] at h
  simp only [Nat.add_sub_cancel]
  omega
theorem stp_lt {v : Nat} (hD : 1 ≤ D) (h : v < 2 ^ D) : stp D T v < 2 ^ D := by
  unfold stp
  have h1 := half_lt hD h
  have h2 := par_le (v &&& T)
  obtain ⟨d, rfl⟩ : ∃ d, D = d + 1 := ⟨D - 1, by omega⟩
  simp only [Nat.pow_succ, Nat.add_sub_cancel] at *
  have h3 : par (v &&& T) * 2 ^ d ≤ 1 * 2 ^ d := Nat.mul_le_mul_right _ h2
  omega
theorem stp_xor {x y : Nat} (hD : 1 ≤ D) (hx : x < 2 ^ D) (hy : y < 2 ^ D) : stp D T (x ^^^ y) = stp D T x ^^^ stp D T y := by
  unfold stp
  have hxy : (x ^^^ y) < 2 ^ D := Nat.xor_lt_two_pow hx hy
  rw [add_eq_xor (half_lt hD hxy), add_eq_xor (half_lt hD hx), add_eq_xor (half_lt hD hy), xor_half, and_xor_left, par_xor]
  have e : (par (x &&& T) ^^^ par (y &&& T)) * 2 ^ (D - 1) = par (x &&& T) * 2 ^ (D - 1) ^^^ par (y &&& T) * 2 ^ (D - 1) := by
    have := @Nat.shiftLeft_xor_distrib (D - 1) (par (x &&& T)) (par (y &&& T))
    simpa [Nat.shiftLeft_eq] using this
  rw [e, xor_swap]
theorem par_zero : par 0 = 0 := by unfold par; rw [popF_zero]
theorem stp_zero : stp D T 0 = 0 := by unfold stp; simp [par_zero]
/-- k steps -/
def stpN (D T : Nat) : Nat → Nat → Nat
  | 0, v => v
  | k + 1, v => stpN D T k (stp D T v)
theorem stpN_lt {v : Nat} (hD : 1 ≤ D) (h : v < 2 ^ D) (k : Nat) : stpN D T k v < 2 ^ D := by
  induction k generalizing v with
  | zero => exact h
  | succ k ih => exact ih (stp_lt hD h)
theorem stpN_add (k l v : Nat) : stpN D T (k + l) v = stpN D T l (stpN D T k v) := by
  induction k generalizing v with
  | zero => rw [Nat.zero_add]; rfl
  | succ k ih => rw [show k + 1 + l = (k + l) + 1 by omega]; exact ih _
theorem stpN_one (v : Nat) : stpN D T 1 v = stp D T v := rfl
theorem stpN_succ (k v : Nat) : stpN D T (k + 1) v = stp D T (stpN D T k v) := stpN_add k 1 v
theorem stpN_xor {x y : Nat} (hD : 1 ≤ D) (hx : x < 2 ^ D) (hy : y < 2 ^ D) (k : Nat) : stpN D T k (x ^^^ y) = stpN D T k x ^^^ stpN D T k y := by
  induction k generalizing x y with
  | zero => rfl
  | succ k ih => simp only [stpN]; rw [stp_xor hD hx hy, ih (stp_lt hD hx) (stp_lt hD hy)]
theorem stpN_zero (k : Nat) : stpN D T k 0 = 0 := by
  induction k with
  | zero => rfl
  | succ k ih => simp only [stpN]; rw [stp_zero, ih]
/-- the lowest one of a number -/
theorem low_one {v : Nat} (h : v ≠ 0) : ∃ i r, v = (2 * r + 1) * 2 ^ i := by
  induction v using Nat.strongRecOn with
  | ind v ih =>
    rcases Nat.mod_two_eq_zero_or_one v with h2 | h2
    · obtain ⟨i, r, e⟩ := ih (v / 2) (by omega) (by omega)
      refine ⟨i + 1, r, ?_⟩
      rw [Nat.pow_succ, ← Nat.mul_assoc, ← e]
      omega
    · exact ⟨0, v / 2, by omega⟩
theorem low_off {v i r : Nat} (h : v = (2 * r + 1) * 2 ^ i) : v &&& (v - 1) = r * 2 ^ (i + 1) ∧ v = 2 ^ i ^^^ r * 2 ^ (i + 1) := by
  have hp : 0 < 2 ^ i := Nat.two_pow_pos i
  have e2 : r * 2 ^ (i + 1) = (2 * r) * 2 ^ i := by rw [Nat.pow_succ, Nat.mul_comm (2 ^ i) 2, ← Nat.mul_assoc, Nat.mul_comm r 2]
  have ev : v = (2 * r) * 2 ^ i + 2 ^ i := by rw [h, Nat.add_mul, Nat.one_mul]
  have ev1 : v - 1 = (2 * r) * 2 ^ i + (2 ^ i - 1) := by omega
  constructor
  · rw [e2]
    apply Nat.eq_of_testBit_eq
    intro j
    rw [Nat.testBit_and, ev1, h, Nat.mul_comm (2 * r + 1), Nat.mul_comm (2 * r), Nat.two_pow_add_eq_or_of_lt (by omega), Nat.testBit_or]
    simp only [Nat.testBit_two_pow_mul, Nat.testBit_two_pow_sub_one]
    rcases Nat.lt_or_ge j i with hj | hj
    · simp [show ¬ i ≤ j by omega]
    · simp only [ge_iff_le, hj, decide_true, Bool.true_and, show ¬ j < i by omega, decide_false, Bool.or_false]
      cases hk : j - i with
      | zero => simp [Nat.testBit_zero]
      | succ k => simp only [Nat.testBit_succ]; rw [show (2 * r + 1) / 2 = r by omega, show 2 * r / 2 = r by omega, Bool.and_self]
  · have e3 := add_eq_xor (a := 2 ^ i) (b := r) (n := i + 1) (by rw [Nat.pow_succ]; omega)
    rw [← e3, e2]; omega
/-- the step can be undone -/
theorem stp_inj {x y : Nat} (hD : 1 ≤ D) (hT : T % 2 = 1) (hx : x < 2 ^ D) (hy : y < 2 ^ D) (h : stp D T x = stp D T y) : x = y := by
  have h1 : stp D T (x ^^^ y) = 0 := by rw [stp_xor hD hx hy, h, Nat.xor_self]
  have h0 : x ^^^ y = 0 := by
    unfold stp at h1
    have hp : 0 < 2 ^ (D - 1) := Nat.two_pow_pos _
    have a1 : (x ^^^ y) / 2 = 0 := by omega
    have a2 : par ((x ^^^ y) &&& T) = 0 := by
      rcases Nat.eq_zero_or_pos (par ((x ^^^ y) &&& T)) with e | e
      · exact e
      · have := Nat.mul_pos e hp; omega
    rcases (show x ^^^ y = 0 ∨ x ^^^ y = 1 by omega) with e | e
    · exact e
    · rw [e, Nat.one_and_eq_mod_two, hT] at a2
      exact absurd a2 (by decide)
  exact xor_zero_eq h0
theorem stpN_inj {x y : Nat} (hD : 1 ≤ D) (hT : T % 2 = 1) (hx : x < 2 ^ D) (hy : y < 2 ^ D) (k : Nat) (h : stpN D T k x = stpN D T k y) : x = y := by
  induction k generalizing x y with
  | zero => exact h
  | succ k ih => exact stp_inj hD hT hx hy (ih (stp_lt hD hx) (stp_lt hD hy) h)
end
/-- n + 1 numbers below n: two are alike -/
theorem pigeon : ∀ (n : Nat) (f : Nat → Nat), (∀ i, i ≤ n → f i < n) → ∃ i j, i < j ∧ j ≤ n ∧ f i = f j
  | 0, f, h => absurd (h 0 (Nat.le_refl _)) (by omega)
  | n + 1, f, h => by
    by_cases hex : ∃ i, i ≤ n ∧ f i = f (n + 1)
    · obtain ⟨i, hi, e⟩ := hex
      exact ⟨i, n + 1, by omega, Nat.le_refl _, e⟩
    · have hne : ∀ i, i ≤ n → f i ≠ f (n + 1) := fun i hi e => hex ⟨i, hi, e⟩
      have hl := h (n + 1) (Nat.le_refl _)
      obtain ⟨i, j, h1, h2, h3⟩ := pigeon n (fun i => if f i < f (n + 1) then f i else f i - 1) (fun i hi => by
        have a := h i (by omega)
        have b := hne i hi
        show (if f i < f (n + 1) then f i else f i - 1) < n
        split <;> omega)
      refine ⟨i, j, h1, by omega, ?_⟩
      have a := hne i (by omega)
      have b := hne j h2
      split at h3 <;> split at h3 <;> omega
section
variable {D T : Nat}
theorem returns {v : Nat} (hD : 1 ≤ D) (hT : T % 2 = 1) (hv : v < 2 ^ D) : ∃ n, 1 ≤ n ∧ n ≤ 2 ^ D ∧ stpN D T n v = v := by
  obtain ⟨i, j, h1, h2, h3⟩ := pigeon (2 ^ D) (fun k => stpN D T k v) (fun k _ => stpN_lt hD hv k)
  refine ⟨j - i, by omega, by omega, ?_⟩
  have h4 : stpN D T i (stpN D T (j - i) v) = stpN D T i v := by
    rw [← stpN_add, show j - i + i = j by omega]; exact h3.symm
  exact stpN_inj hD hT (stpN_lt hD hv _) hv i h4
theorem least_of {P : Nat → Prop} (h : ∃ n, P n) : ∃ n, P n ∧ ∀ m, m < n → ¬ P m := by
  obtain ⟨n, hn⟩ := h
  induction n using Nat.strongRecOn with
  | ind n ih =>
    by_cases hm : ∃ m, m < n ∧ P m
    · obtain ⟨m, hm, hp⟩ := hm
      exact ih m hm hp
    · exact ⟨n, hn, fun m hm' hp => hm ⟨m, hm', hp⟩⟩
/-- the period of a state: the least number of steps behind which it stands again -/
def Per (D T v n : Nat) : Prop := 1 ≤ n ∧ stpN D T n v = v ∧ ∀ m, 1 ≤ m → m < n → stpN D T m v ≠ v
theorem per_ex {v : Nat} (hD : 1 ≤ D) (hT : T % 2 = 1) (hv : v < 2 ^ D) : ∃ n, Per D T v n ∧ n ≤ 2 ^ D := by
  obtain ⟨n0, a0, b0, c0⟩ := returns hD hT hv
  obtain ⟨n, ⟨h1, h2⟩, h3⟩ := least_of (P := fun n => 1 ≤ n ∧ stpN D T n v = v) ⟨n0, a0, c0⟩
  refine ⟨n, ⟨h1, h2, fun m hm hlt e => h3 m hlt ⟨hm, e⟩⟩, ?_⟩
  rcases Nat.lt_or_ge (2 ^ D) n with h | h
  · exact absurd ⟨a0, c0⟩ (h3 n0 (by omega))
  · exact h
theorem Per.unique {v m n : Nat} (hm : Per D T v m) (hn : Per D T v n) : m = n := by
  rcases Nat.lt_trichotomy m n with h | h | h
  · exact absurd hm.2.1 (hn.2.2 m hm.1 h)
  · exact h
  · exact absurd hn.2.1 (hm.2.2 n hn.1 h)
theorem Per.mul {v n : Nat} (h : Per D T v n) (q : Nat) : stpN D T (n * q) v = v := by
  induction q with
  | zero => rfl
  | succ q ih => rw [Nat.mul_succ, stpN_add, ih, h.2.1]
/-- k steps go nowhere just where k is a multiple of the period -/
theorem Per.iff {v n : Nat} (h : Per D T v n) (k : Nat) : stpN D T k v = v ↔ k % n = 0 := by
  have e : stpN D T k v = stpN D T (k % n) v := by
    have := Nat.div_add_mod k n
    rw [← this, stpN_add, h.mul, this]
  rw [e]
  constructor
  · intro h2
    rcases Nat.eq_zero_or_pos (k % n) with h0 | h0
    · exact h0
    · exact absurd h2 (h.2.2 _ h0 (Nat.mod_lt _ (by have := h.1; omega)))
  · intro h2; rw [h2]; rfl
end
end Gf2
