/- The long division's two loops: what a round does to what has been divided so far. Plain arithmetic; nothing of the program stands here. -/
import Derived.Test.YtpmnbdkncmjafaaWord
namespace Go.Proofs.Ytpmnbdkncmjafaa
open Go.RowKit

/-- ahead of the round at x^(64 + m - 1): the high half has m bits -/
def LongA (A b m hi lo q : Nat) : Prop := ∃ Q, hi < 2 ^ m ∧ m ≤ 64 ∧ lo ≤ 18446744073709551615 ∧ q = Q % 2 ^ 64 ∧ Q % 2 ^ (65 + m - Gf2.len b) = 0 ∧ Gf2.cm Q b ^^^ (hi * 2 ^ 64 + lo) = A
/-- ahead of the round at x^(m - 1) of the low half -/
def LongB (A b m lo q : Nat) : Prop := ∃ Q, lo < 2 ^ m ∧ m ≤ 64 ∧ q = Q % 2 ^ 64 ∧ Q % 2 ^ (1 + m - Gf2.len b) = 0 ∧ Gf2.cm Q b ^^^ lo = A

theorem le_of_lt64 {x m : Nat} (h : x < 2 ^ m) (hm : m ≤ 64) : x ≤ 18446744073709551615 := by
  have : 2 ^ m ≤ 2 ^ 64 := Nat.pow_le_pow_right (by omega) hm
  omega
theorem mod64_le (x : Nat) : x % 2 ^ 64 ≤ 18446744073709551615 := by
  have := Nat.mod_lt x (show 0 < 2 ^ 64 by decide)
  omega

section
variable {A b m n d hi lo q : Nat}
theorem LongA.m_le (h : LongA A b m hi lo q) : m ≤ 64 := by obtain ⟨_, _, h, _⟩ := h; exact h
theorem LongA.hi_le (h : LongA A b m hi lo q) : hi ≤ 18446744073709551615 := by obtain ⟨_, h1, h2, _⟩ := h; exact le_of_lt64 h1 h2
theorem LongA.lo_le (h : LongA A b m hi lo q) : lo ≤ 18446744073709551615 := by obtain ⟨_, _, _, h, _⟩ := h; exact h
theorem LongA.q_le (h : LongA A b m hi lo q) : q ≤ 18446744073709551615 := by obtain ⟨_, _, _, _, h, _⟩ := h; rw [h]; exact mod64_le _
theorem LongA.start (hhi : hi ≤ 18446744073709551615) (hlo : lo ≤ 18446744073709551615) (b : Nat) : LongA (hi * 2 ^ 64 + lo) b (Gf2.len hi) hi lo 0 :=
  ⟨0, Gf2.lt_len hi, len_le64 hhi, hlo, by simp, by simp, by rw [Gf2.cm_zero, Nat.zero_xor]⟩
theorem LongA.stay (h : LongA A b (n + 1) hi lo q) (hb : hi / 2 ^ n % 2 = 0) : LongA A b n hi lo q := by
  obtain ⟨Q, h1, h2, h3, h4, h5, h6⟩ := h
  exact ⟨Q, Gf2.lt_of_bit h1 hb, by omega, h3, h4, Gf2.mod_zero_of_le h5 (by omega), h6⟩
theorem LongA.core (h : LongA A b (n + 1) hi lo q) (hb0 : b ≠ 0) (hd : Gf2.len b = d + 1) (hd64 : d < 64) (hbit : hi / 2 ^ n % 2 = 1) :
    ∃ Q, q = Q % 2 ^ 64 ∧ Q % 2 ^ (64 + n - d + 1) = 0 ∧ (hi * 2 ^ 64 + lo ^^^ b * 2 ^ (64 + n - d)) / 2 ^ 64 < 2 ^ n ∧ (Q ^^^ 2 ^ (64 + n - d)) % 2 ^ (65 + n - Gf2.len b) = 0 ∧
      Gf2.cm (Q ^^^ 2 ^ (64 + n - d)) b ^^^ (hi * 2 ^ 64 + lo ^^^ b * 2 ^ (64 + n - d)) = A := by
  obtain ⟨Q, h1, h2, h3, h4, h5, h6⟩ := h
  have e1 : 65 + (n + 1) - Gf2.len b = 64 + n - d + 1 := by omega
  have e2 : 65 + n - Gf2.len b = 64 + n - d := by omega
  rw [e1] at h5
  have hl : Gf2.len (hi * 2 ^ 64 + lo) = Gf2.len b + (64 + n - d) := by
    have hx := Gf2.len_of_bit h1 hbit
    have hp : 2 ^ n ≤ hi := by
      apply Nat.le_of_not_lt
      intro hc
      rw [Nat.div_eq_of_lt hc] at hbit
      omega
    rw [hd, show d + 1 + (64 + n - d) = 64 + n + 1 by omega]
    apply Gf2.len_eq
    · rw [Nat.pow_add, Nat.mul_comm (2 ^ 64)]
      exact Nat.le_trans (Nat.mul_le_mul_right _ hp) (Nat.le_add_right _ _)
    · have h7 : hi * 2 ^ 64 + lo < (hi + 1) * 2 ^ 64 := by rw [Nat.add_mul]; omega
      have h8 : (hi + 1) * 2 ^ 64 ≤ 2 ^ (n + 1) * 2 ^ 64 := Nat.mul_le_mul_right _ h1
      rw [← Nat.pow_add, show n + 1 + 64 = 64 + n + 1 by omega] at h8
      omega
  obtain ⟨g1, g2⟩ := Gf2.long_step h6 hb0 hl
  refine ⟨Q, h4, h5, ?_, ?_, g1⟩
  · rw [Nat.div_lt_iff_lt_mul (Nat.two_pow_pos 64), ← Nat.pow_add]
    have e3 : Gf2.len b + (64 + n - d) - 1 = n + 64 := by omega
    rw [e3] at g2
    exact g2
  · rw [e2]; exact Gf2.free_step h5

theorem LongA.big (h : LongA A b (n + 1) hi lo q) (hb0 : b ≠ 0) (hd : Gf2.len b = d + 1) (hbit : hi / 2 ^ n % 2 = 1) (hdn : d ≤ n) :
    ∃ hi', LongA A b n hi' lo q ∧ bits .xor .u64 (hi : Int) (IntKind.u64.wrap ((b : Int) * 2 ^ (64 + n - d - 64))) = (hi' : Int) := by
  have hn := h.m_le
  have hhi := h.hi_le
  have hlo := h.lo_le
  have h1 : hi < 2 ^ (n + 1) := by obtain ⟨_, h1, _⟩ := h; exact h1
  obtain ⟨Q, g1, g2, g3, g4, g5⟩ := h.core hb0 hd (by omega) hbit
  have hs : b * 2 ^ (n - d) < 2 ^ (n + 1) := by
    apply Gf2.lt_of_len
    rw [Gf2.len_shift hb0]
    omega
  have hs64 : b * 2 ^ (n - d) < 2 ^ 64 := Nat.lt_of_lt_of_le hs (Nat.pow_le_pow_right (by omega) hn)
  refine ⟨hi ^^^ b * 2 ^ (n - d), ⟨Q ^^^ 2 ^ (64 + n - d), ?_, by omega, hlo, ?_, g4, ?_⟩, ?_⟩
  · rw [Gf2.xor_high, Gf2.join_high (by omega), Gf2.shift_high' (by omega), show 64 + n - d - 64 = n - d by omega] at g3
    exact g3
  · rw [Gf2.xor_low, ← g1]
    have : 2 ^ (64 + n - d) % 2 ^ 64 = 0 := by
      have := Gf2.shift_low' (b := 1) (s := 64 + n - d) (n := 64) (by omega)
      rwa [Nat.one_mul] at this
    rw [this, Nat.xor_zero]
  · rw [← g5]
    congr 1
    rw [← Gf2.join_of (hi * 2 ^ 64 + lo ^^^ b * 2 ^ (64 + n - d)) 64, Gf2.xor_high, Gf2.xor_low, Gf2.join_high (by omega), Gf2.join_low (by omega), Gf2.shift_high' (by omega), Gf2.shift_low' (by omega), Nat.xor_zero,
      show 64 + n - d - 64 = n - d by omega]
  · rw [show 64 + n - d - 64 = n - d by omega, shlI64, Nat.mod_eq_of_lt hs64, xor64 hhi (by omega)]

theorem LongA.small (h : LongA A b (n + 1) hi lo q) (hb0 : b ≠ 0) (hd : Gf2.len b = d + 1) (hb : b ≤ 18446744073709551615) (hd64 : d < 64) (hbit : hi / 2 ^ n % 2 = 1) (hdn : ¬ d ≤ n) :
    ∃ hi' lo' q', LongA A b n hi' lo' q' ∧ bits .xor .u64 (hi : Int) ((b : Int) / 2 ^ (64 - (64 + n - d))) = (hi' : Int) ∧
      bits .xor .u64 (lo : Int) (IntKind.u64.wrap ((b : Int) * 2 ^ (64 + n - d))) = (lo' : Int) ∧ bits .or .u64 (q : Int) (IntKind.u64.wrap (2 ^ (64 + n - d))) = (q' : Int) := by
  have hn := h.m_le
  have hhi := h.hi_le
  have hlo := h.lo_le
  have hq := h.q_le
  obtain ⟨Q, g1, g2, g3, g4, g5⟩ := h.core hb0 hd hd64 hbit
  have hp : 2 ^ (64 + n - d) < 2 ^ 64 := Nat.pow_lt_pow_right (by omega) (by omega)
  refine ⟨hi ^^^ b / 2 ^ (64 - (64 + n - d)), lo ^^^ b * 2 ^ (64 + n - d) % 2 ^ 64, q ||| 2 ^ (64 + n - d), ⟨Q ^^^ 2 ^ (64 + n - d), ?_, by omega, xor64_le hlo (shl64_le _ _), ?_, g4, ?_⟩, ?_, ?_, ?_⟩
  · rw [Gf2.xor_high, Gf2.join_high (by omega), Gf2.shift_high (by omega)] at g3
    exact g3
  · rw [Gf2.xor_low, g1, Gf2.or_free (Gf2.free_mod g2), Nat.mod_eq_of_lt hp]
  · rw [← g5]
    congr 1
    rw [← Gf2.join_of (hi * 2 ^ 64 + lo ^^^ b * 2 ^ (64 + n - d)) 64, Gf2.xor_high, Gf2.xor_low, Gf2.join_high (by omega), Gf2.join_low (by omega), Gf2.shift_high (by omega)]
  · rw [shrI, xor64 hhi (shr_le hb)]
  · rw [shlI64, xor64 hlo (shl64_le _ _)]
  · have h1 := shlI64 1 (64 + n - d)
    rw [Nat.one_mul, Nat.mod_eq_of_lt hp, show ((1 : Nat) : Int) = 1 from rfl, Int.one_mul] at h1
    rw [h1, or64 hq (by omega)]

theorem LongB.of (h : LongA A b 0 hi lo q) : LongB A b (Gf2.len lo) lo q := by
  obtain ⟨Q, h1, h2, h3, h4, h5, h6⟩ := h
  have h0 : hi = 0 := by simpa using h1
  subst h0
  have hl := len_le64 h3
  exact ⟨Q, Gf2.lt_len lo, hl, h4, Gf2.mod_zero_of_le h5 (by omega), by simpa using h6⟩
theorem LongB.m_le (h : LongB A b m lo q) : m ≤ 64 := by obtain ⟨_, _, h, _⟩ := h; exact h
theorem LongB.lo_le (h : LongB A b m lo q) : lo ≤ 18446744073709551615 := by obtain ⟨_, h1, h2, _⟩ := h; exact le_of_lt64 h1 h2
theorem LongB.q_le (h : LongB A b m lo q) : q ≤ 18446744073709551615 := by obtain ⟨_, _, _, h, _⟩ := h; rw [h]; exact mod64_le _
theorem LongB.stay (h : LongB A b (n + 1) lo q) (hb : lo / 2 ^ n % 2 = 0) : LongB A b n lo q := by
  obtain ⟨Q, h1, h2, h4, h5, h6⟩ := h
  exact ⟨Q, Gf2.lt_of_bit h1 hb, by omega, h4, Gf2.mod_zero_of_le h5 (by omega), h6⟩
theorem LongB.next (h : LongB A b (n + 1) lo q) (hb0 : b ≠ 0) (hd : Gf2.len b = d + 1) (hbit : lo / 2 ^ n % 2 = 1) (hdn : d ≤ n) :
    ∃ lo' q', LongB A b n lo' q' ∧ bits .xor .u64 (lo : Int) (IntKind.u64.wrap ((b : Int) * 2 ^ (n - d))) = (lo' : Int) ∧ bits .or .u64 (q : Int) (IntKind.u64.wrap (2 ^ (n - d))) = (q' : Int) := by
  have hn := h.m_le
  have hlo := h.lo_le
  have hq := h.q_le
  obtain ⟨Q, h1, h2, h4, h5, h6⟩ := h
  rw [show 1 + (n + 1) - Gf2.len b = n - d + 1 by omega] at h5
  have hl : Gf2.len lo = Gf2.len b + (n - d) := by rw [Gf2.len_of_bit h1 hbit, hd]; omega
  obtain ⟨g1, g2⟩ := Gf2.long_step h6 hb0 hl
  have hs : b * 2 ^ (n - d) < 2 ^ (n + 1) := by
    apply Gf2.lt_of_len
    rw [Gf2.len_shift hb0]
    omega
  have hs64 : b * 2 ^ (n - d) < 2 ^ 64 := Nat.lt_of_lt_of_le hs (Nat.pow_le_pow_right (by omega) hn)
  have hp : 2 ^ (n - d) < 2 ^ 64 := Nat.pow_lt_pow_right (by omega) (by omega)
  refine ⟨lo ^^^ b * 2 ^ (n - d), q ||| 2 ^ (n - d), ⟨Q ^^^ 2 ^ (n - d), ?_, by omega, ?_, ?_, g1⟩, ?_, ?_⟩
  · rw [show Gf2.len b + (n - d) - 1 = n by omega] at g2; exact g2
  · rw [Gf2.xor_low, h4, Gf2.or_free (Gf2.free_mod h5), Nat.mod_eq_of_lt hp]
  · rw [show 1 + n - Gf2.len b = n - d by omega]; exact Gf2.free_step h5
  · rw [shlI64, Nat.mod_eq_of_lt hs64, xor64 hlo (by omega)]
  · have h1 := shlI64 1 (n - d)
    rw [Nat.one_mul, Nat.mod_eq_of_lt hp, show ((1 : Nat) : Int) = 1 from rfl, Int.one_mul] at h1
    rw [h1, or64 hq (by omega)]
theorem LongB.done (h : LongB A b m lo q) (hm : m < Gf2.len b) : q = Gf2.quo A b % 2 ^ 64 ∧ lo = Gf2.rem A b := by
  obtain ⟨Q, h1, h2, h4, h5, h6⟩ := h
  obtain ⟨g1, g2⟩ := Gf2.rem_eq (Nat.lt_of_le_of_lt (Gf2.len_le h1) hm) h6
  exact ⟨by rw [g1, h4], g2.symm⟩
end
end Go.Proofs.Ytpmnbdkncmjafaa
