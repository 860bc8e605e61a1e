/- Polynomials act on a register's states: x is a step; the register's own polynomial acts as nothing. Nothing of Go stands here. -/
import Derived.Test.YtknkkoemghceeaaDoorReg
namespace Gf2
section
variable {D T : Nat}
/-- what a polynomial makes of a state -/
def act (D T : Nat) (q v : Nat) : Nat := if q = 0 then 0 else low q v ^^^ act D T (q / 2) (stp D T v)
termination_by q
decreasing_by omega
theorem act_zero (v : Nat) : act D T 0 v = 0 := by rw [act]; simp
theorem act_rec (q v : Nat) : act D T q v = low q v ^^^ act D T (q / 2) (stp D T v) := by
  by_cases h : q = 0
  · subst h; simp [act_zero, low]
  · rw [act, if_neg h]
theorem low_lt {q v n : Nat} (h : v < 2 ^ n) : low q v < 2 ^ n := by
  unfold low; split
  · exact h
  · exact Nat.two_pow_pos n
theorem act_lt {v : Nat} (hD : 1 ≤ D) (h : v < 2 ^ D) (q : Nat) : act D T q v < 2 ^ D := by
  induction q using bin_ind generalizing v with
  | h0 => rw [act_zero]; exact Nat.two_pow_pos _
  | h q _ ih => rw [act_rec]; exact Nat.xor_lt_two_pow (low_lt h) (ih (stp_lt hD h))
theorem act_xor_left (a b v : Nat) : act D T (a ^^^ b) v = act D T a v ^^^ act D T b v := by
  induction a using bin_ind generalizing b v with
  | h0 => simp [act_zero]
  | h a ha ih => rw [act_rec (a ^^^ b), act_rec a, act_rec b, xor_half, ih, low_add, xor_swap]
theorem act_two (a v : Nat) : act D T (2 * a) v = act D T a (stp D T v) := by
  rw [act_rec]
  have h1 : (2 * a) / 2 = a := by omega
  rw [h1]
  simp [low]
theorem act_one (v : Nat) : act D T 1 v = v := by rw [act_rec]; simp [low, act_zero]
theorem act_stp {v : Nat} (hD : 1 ≤ D) (h : v < 2 ^ D) (q : Nat) : act D T q (stp D T v) = stp D T (act D T q v) := by
  induction q using bin_ind generalizing v with
  | h0 => rw [act_zero, act_zero, stp_zero]
  | h q _ ih =>
    rw [act_rec q (stp D T v), act_rec q v, stp_xor hD (low_lt h) (act_lt hD (stp_lt hD h) _), ih (stp_lt hD h)]
    congr 1
    unfold low; split
    · rfl
    · rw [stp_zero]
theorem act_stpN {v : Nat} (hD : 1 ≤ D) (h : v < 2 ^ D) (q k : Nat) : act D T q (stpN D T k v) = stpN D T k (act D T q v) := by
  induction k generalizing v with
  | zero => rfl
  | succ k ih => simp only [stpN]; rw [ih (stp_lt hD h), act_stp hD h]
theorem act_none (q : Nat) : act D T q 0 = 0 := by
  induction q using bin_ind with
  | h0 => rw [act_zero]
  | h q _ ih => rw [act_rec, stp_zero, ih]; simp [low]
theorem act_low (a b v : Nat) : act D T (low a b) v = low a (act D T b v) := by
  unfold low; split
  · rfl
  · rw [act_zero]
theorem act_cm {v : Nat} (hD : 1 ≤ D) (h : v < 2 ^ D) (a b : Nat) : act D T (cm a b) v = act D T a (act D T b v) := by
  induction a using bin_ind generalizing v with
  | h0 => rw [cm_zero, act_zero, act_zero]
  | h a _ ih => rw [cm_rec, act_xor_left, act_low, act_two, ih (stp_lt hD h), act_rec a, act_stp hD h]
theorem act_pow (k v : Nat) : act D T (2 ^ k) v = stpN D T k v := by
  induction k generalizing v with
  | zero => exact act_one v
  | succ k ih => rw [Nat.pow_succ, Nat.mul_comm, act_two, ih]; rfl
/-- a step of the sum -/
theorem act_bit (q v k : Nat) : act D T (q % 2 ^ (k + 1)) v = act D T (q % 2 ^ k) v ^^^ (if q / 2 ^ k % 2 = 1 then stpN D T k v else 0) := by
  have h01 : q / 2 ^ k % 2 = 0 ∨ q / 2 ^ k % 2 = 1 := by omega
  rw [bit_mod]
  rcases h01 with h | h
  · rw [h]; simp
  · rw [h, if_pos rfl, Nat.mul_one, ← act_pow, ← act_xor_left]
    congr 1
    have := add_eq_xor (b := 1) (Nat.mod_lt q (Nat.two_pow_pos k))
    simpa using this
/-- the bit j of a state is what the register tells in j steps -/
theorem bit_out {v : Nat} (h : v < 2 ^ D) (j : Nat) (hj : j < D) : v / 2 ^ j % 2 = stpN D T j v % 2 := by
  induction j generalizing v with
  | zero => simp [stpN]
  | succ j ih =>
    simp only [stpN]
    rw [← ih (stp_lt (by omega) h) (by omega), Nat.pow_succ, Nat.mul_comm, ← Nat.div_div_eq_div_mul]
    unfold stp
    obtain ⟨d, rfl⟩ : ∃ d, D = j + (d + 1) + 1 := ⟨D - j - 2, by omega⟩
    rw [show j + (d + 1) + 1 - 1 = j + (d + 1) by omega, Nat.pow_add, Nat.mul_left_comm, Nat.add_mul_div_left _ _ (Nat.two_pow_pos j), Nat.pow_succ, ← Nat.mul_assoc]
    omega
theorem par_rec {x : Nat} (h : x < 2 ^ 31) : par x = (x % 2 + par (x / 2)) % 2 := by
  have h1 := popF_add 1 31 x
  rw [Nat.pow_one, ← popF_small (i := 31) (j := 32) (x := x / 2) (by omega) (by omega), show popF 1 x = x % 2 from rfl, show 1 + 31 = 32 from rfl] at h1
  unfold par
  rw [h1]
  omega
theorem and_half (a b : Nat) : (a &&& b) / 2 = (a / 2) &&& (b / 2) := by
  have := @Nat.shiftRight_and_distrib 1 a b
  simpa [Nat.shiftRight_eq_div_pow] using this
theorem and_odd (a b : Nat) : (a &&& b) % 2 = (a % 2) * (b % 2) := by
  have h := Nat.and_mod_two_pow (a := a) (b := b) (n := 1)
  rw [Nat.pow_one] at h
  rw [h]
  have ha : a % 2 = 0 ∨ a % 2 = 1 := by omega
  have hb : b % 2 = 0 ∨ b % 2 = 1 := by omega
  rcases ha with ha | ha <;> rcases hb with hb | hb <;> simp [ha, hb]
/-- above a mask nothing counts -/
theorem and_mask {a b q n k : Nat} (h : q < 2 ^ k) (hk : k ≤ n) : (a + b * 2 ^ n) &&& q = a &&& q := by
  apply Nat.eq_of_testBit_eq
  intro i
  rw [Nat.testBit_and, Nat.testBit_and]
  by_cases hi : i < k
  · congr 1
    obtain ⟨d, rfl⟩ : ∃ d, n = i + (d + 1) := ⟨n - i - 1, by omega⟩
    rw [Nat.testBit_eq_decide_div_mod_eq, Nat.testBit_eq_decide_div_mod_eq, decide_eq_decide, Nat.pow_add, Nat.mul_left_comm, Nat.add_mul_div_left _ _ (Nat.two_pow_pos i), Nat.pow_succ, ← Nat.mul_assoc]
    omega
  · rw [Nat.testBit_lt_two_pow (Nat.lt_of_lt_of_le h (Nat.pow_le_pow_right (by omega) (by omega : k ≤ i)))]
    simp
theorem act_par {k q u : Nat} (hD : 1 ≤ D) (hD30 : D ≤ 30) (hu : u < 2 ^ D) (hq : q < 2 ^ k) (hk : k ≤ D) : act D T q u % 2 = par (u &&& q) := by
  induction k generalizing q u with
  | zero =>
    obtain rfl : q = 0 := by simpa using hq
    rw [act_zero, Nat.and_zero, par_zero]
  | succ k ih =>
    have hq2 : q / 2 < 2 ^ k := by rw [Nat.pow_succ] at hq; omega
    have h31 : u &&& q < 2 ^ 31 := Nat.lt_of_le_of_lt Nat.and_le_left (Nat.lt_of_lt_of_le hu (Nat.pow_le_pow_right (by omega) (by omega)))
    rw [act_rec, xor_odd, ih (stp_lt hD hu) hq2 (by omega), par_rec h31, and_half, and_odd]
    have : stp D T u &&& (q / 2) = u / 2 &&& q / 2 := by unfold stp; exact and_mask hq2 (by omega)
    rw [this]
    unfold low
    have ha : u % 2 = 0 ∨ u % 2 = 1 := by omega
    have hb : q % 2 = 0 ∨ q % 2 = 1 := by omega
    rcases ha with ha | ha <;> rcases hb with hb | hb <;> simp [ha, hb]
/-- D steps on, the last bit is what came in -/
theorem stpN_last {u : Nat} (hD : 1 ≤ D) (hu : u < 2 ^ D) : stpN D T D u % 2 = par (u &&& T) := by
  obtain ⟨d, rfl⟩ : ∃ d, D = d + 1 := ⟨D - 1, by omega⟩
  simp only [stpN]
  rw [← bit_out (stp_lt hD hu) d (by omega)]
  unfold stp
  have h2 := half_lt hD hu
  simp only [Nat.add_sub_cancel] at *
  rw [Nat.mul_comm, Nat.add_mul_div_left _ _ (Nat.two_pow_pos d), Nat.div_eq_of_lt h2, Nat.zero_add]
  have := par_le (u &&& T)
  omega
/-- the register's polynomial -/
theorem pol_xor {T : Nat} (hT : T < 2 ^ D) : 2 ^ D + T = 2 ^ D ^^^ T := by
  have := add_eq_xor (b := 1) hT
  rw [Nat.one_mul] at this
  rw [Nat.add_comm, this, Nat.xor_comm]
theorem act_pol {v : Nat} (hD : 1 ≤ D) (hD30 : D ≤ 30) (hT : T < 2 ^ D) (hv : v < 2 ^ D) : act D T (2 ^ D + T) v = 0 := by
  have key : ∀ u, u < 2 ^ D → act D T (2 ^ D + T) u % 2 = 0 := fun u hu => by
    rw [pol_xor hT, act_xor_left, act_pow, xor_odd, stpN_last hD hu, act_par hD hD30 hu hT (Nat.le_refl _)]
    omega
  have hlt : act D T (2 ^ D + T) v < 2 ^ D := act_lt hD hv _
  apply Nat.eq_of_testBit_eq
  intro j
  rw [Nat.zero_testBit]
  by_cases hj : j < D
  · rw [Nat.testBit_eq_decide_div_mod_eq, bit_out (T := T) hlt j hj, ← act_stpN hD hv, key _ (stpN_lt hD hv j)]
    rfl
  · exact Nat.testBit_lt_two_pow (Nat.lt_of_lt_of_le hlt (Nat.pow_le_pow_right (by omega) (by omega)))
theorem act_rem {v : Nat} (hD : 1 ≤ D) (hD30 : D ≤ 30) (hT : T < 2 ^ D) (hv : v < 2 ^ D) (q : Nat) : act D T (rem q (2 ^ D + T)) v = act D T q v := by
  rw [rem_xor, act_xor_left, act_cm hD hv, act_pol hD hD30 hT hv, act_none, Nat.xor_zero]
/-- a polynomial that acts as k steps do -/
def Goes (D T q k : Nat) : Prop := ∀ v, v < 2 ^ D → act D T q v = stpN D T k v
theorem Goes.one (hD : 1 ≤ D) (hD30 : D ≤ 30) (hT : T < 2 ^ D) : Goes D T (rem 1 (2 ^ D + T)) 0 := fun v hv => by
  rw [act_rem hD hD30 hT hv, act_one]; rfl
theorem Goes.twice {q k : Nat} (hD : 1 ≤ D) (hD30 : D ≤ 30) (hT : T < 2 ^ D) (h : Goes D T q k) : Goes D T (rem (cm q q) (2 ^ D + T)) (2 * k) := fun v hv => by
  rw [act_rem hD hD30 hT hv, act_cm hD hv, h v hv, h _ (stpN_lt hD hv k), ← stpN_add, show k + k = 2 * k by omega]
theorem Goes.next {q k : Nat} (hD : 1 ≤ D) (hD30 : D ≤ 30) (hT : T < 2 ^ D) (h : Goes D T q k) : Goes D T (rem (cm q 2) (2 ^ D + T)) (k + 1) := fun v hv => by
  have h2 : act D T 2 v = stp D T v := by have := act_two (D := D) (T := T) 1 v; rw [act_one] at this; exact this
  rw [act_rem hD hD30 hT hv, act_cm hD hv, h2, h _ (stp_lt hD hv)]; rfl
/-- the bit j of the state k steps on is a sum of what the register tells -/
theorem Goes.bit {q k S j : Nat} (hD : 1 ≤ D) (hS : S < 2 ^ D) (hq : q < 2 ^ D) (h : Goes D T q k) (hj : j < D) :
    act D T (q % 2 ^ D) (stpN D T j S) % 2 = stpN D T k S / 2 ^ j % 2 := by
  rw [Nat.mod_eq_of_lt hq, h _ (stpN_lt hD hS j), bit_out (T := T) (stpN_lt hD hS k) j hj, ← stpN_add, ← stpN_add, Nat.add_comm]
theorem act_bit2 (q v k : Nat) : act D T (q % 2 ^ (k + 1)) v % 2 = (act D T (q % 2 ^ k) v % 2 + (if q / 2 ^ k % 2 = 1 then stpN D T k v % 2 else 0)) % 2 := by
  rw [act_bit, xor_odd]; split <;> simp
theorem len_pol {T : Nat} (hT : T < 2 ^ D) : len (2 ^ D + T) = D + 1 := len_eq (by omega) (by rw [Nat.pow_succ]; omega)
theorem rem_pol {T : Nat} (hT : T < 2 ^ D) (q : Nat) : rem q (2 ^ D + T) < 2 ^ D := by
  have h := len_rem q (b := 2 ^ D + T) (by have := Nat.two_pow_pos D; omega)
  rw [len_pol hT] at h
  exact lt_of_len (by omega)
end
end Gf2
