/- A code turned round is one just where the code is; of numbers alone. -/
import Derived.Test.YtpmnbdkncmjafaaRows
import Derived.Test.YtpmnbdkncmjafaaCheckF
import Derived.Test.YtpmnbdkncmjafaaRevC
namespace Go.Proofs.Ytpmnbdkncmjafaa
open Rev

theorem or_lo2 (x y : Nat) : (x ||| y) % 2 = 0 ↔ x % 2 = 0 ∧ y % 2 = 0 := by
  have h := Nat.testBit_or x y 0
  rw [bitz, bitz, bitz] at h
  rcases Nat.mod_two_eq_zero_or_one (x ||| y) with e | e <;> rcases Nat.mod_two_eq_zero_or_one x with e1 | e1 <;> rcases Nat.mod_two_eq_zero_or_one y with e2 | e2 <;> rw [e, e1, e2] at h <;> simp at h <;> simp [e, e1, e2]
theorem div_hi2 {x n : Nat} (h : x < 2 ^ (n + 1)) : x / 2 ^ n = x / 2 ^ n % 2 := by
  have : x / 2 ^ n < 2 := by
    rw [Nat.div_lt_iff_lt_mul (Nat.two_pow_pos n), Nat.mul_comm]
    rwa [Nat.pow_succ] at h
  exact (Nat.mod_eq_of_lt this).symm
theorem or_hi2 {x y n : Nat} (hx : x < 2 ^ (n + 1)) (hy : y < 2 ^ (n + 1)) : (x ||| y) / 2 ^ n = 0 ↔ x / 2 ^ n % 2 = 0 ∧ y / 2 ^ n % 2 = 0 := by
  have hxy : x ||| y < 2 ^ (n + 1) := Nat.or_lt_two_pow hx hy
  have h := Nat.testBit_or x y n
  rw [Nat.testBit_eq_decide_div_mod_eq, Nat.testBit_eq_decide_div_mod_eq, Nat.testBit_eq_decide_div_mod_eq] at h
  rw [div_hi2 hxy]
  rcases Nat.mod_two_eq_zero_or_one ((x ||| y) / 2 ^ n) with e | e <;> rcases Nat.mod_two_eq_zero_or_one (x / 2 ^ n) with e1 | e1 <;> rcases Nat.mod_two_eq_zero_or_one (y / 2 ^ n) with e2 | e2 <;> rw [e, e1, e2] at h <;> simp at h <;> simp [e, e1, e2]
/-- the generators that a code has, turned round -/
def revC (R : Int) (n c : Nat) : Nat := if R = 2 then c else revP n c
theorem goodG_rev {n a : Nat} (h : goodG (n + 1) a) : goodG (n + 1) (revP n a) := ⟨revP_ne h.1 h.2, revP_lt n a⟩
theorem gcdK_one {R : Int} {n a b c : Nat} (hg : gensGood (n + 1) (countF R) a b c) (hhi : orK a b c (countF R) / 2 ^ n ≠ 0) (h1 : gcdK a b c (countF R) = 1) : gcdK (revP n a) (revP n b) (revC R n c) (countF R) = 1 := by
  obtain ⟨ha, hb, hc⟩ := hg
  by_cases hR : R = 2
  · have e : countF R = 2 := if_pos hR
    rw [e] at hhi h1 ⊢
    simp only [gcdK, orK, gcd_zero_l, Nat.zero_or] at hhi h1 ⊢
    obtain ⟨u, v, huv⟩ := gcd_lin a b
    rw [h1] at huv
    obtain ⟨d1, d2⟩ := Gf2.gcd_dvd (revP n a) (revP n b)
    refine rev_lin2 ha.2 hb.2 huv d1 d2 ?_
    rw [Ne, or_hi2 ha.2 hb.2, ← revP_low, ← revP_low] at hhi
    rcases Nat.mod_two_eq_zero_or_one (revP n a) with q1 | q1
    · exact dvd_odd d2 (by omega)
    · exact dvd_odd d1 q1
  · have e : countF R = 3 := if_neg hR
    have hc := hc e
    rw [e] at hhi h1 ⊢
    unfold revC
    rw [if_neg hR]
    simp only [gcdK, orK, gcd_zero_l, Nat.zero_or] at hhi h1 ⊢
    obtain ⟨u, v, huv⟩ := gcd_lin a b
    obtain ⟨s, t, hst⟩ := gcd_lin (Gf2.gcd a b) c
    rw [h1, ← huv, Gf2.cm_xor_right, ← Gf2.cm_assoc, ← Gf2.cm_assoc] at hst
    obtain ⟨d1, d2⟩ := Gf2.gcd_dvd (Gf2.gcd (revP n a) (revP n b)) (revP n c)
    obtain ⟨d3, d4⟩ := Gf2.gcd_dvd (revP n a) (revP n b)
    have d5 := d1.trans d3
    have d6 := d1.trans d4
    refine rev_lin3 ha.2 hb.2 hc.2 hst d5 d6 d2 ?_
    have hab : a ||| b < 2 ^ (n + 1) := Nat.or_lt_two_pow ha.2 hb.2
    rw [Ne, or_hi2 hab hc.2] at hhi
    rcases Nat.mod_two_eq_zero_or_one (revP n c) with q3 | q3
    · rcases Nat.mod_two_eq_zero_or_one (revP n a) with q1 | q1
      · rcases Nat.mod_two_eq_zero_or_one (revP n b) with q2 | q2
        · exfalso
          refine hhi ⟨?_, by rw [← revP_low]; exact q3⟩
          rw [← div_hi2 hab]
          exact (or_hi2 ha.2 hb.2).2 ⟨by rw [← revP_low]; exact q1, by rw [← revP_low]; exact q2⟩
        · exact dvd_odd d6 q2
      · exact dvd_odd d5 q1
    · exact dvd_odd d2 q3
/-- a code turned round may be where the code may be -/
theorem checkF_rev {n : Nat} {R : Int} {a b c : Nat} (h : checkF (n + 1) R a b c = 0) : checkF (n + 1) R (revP n a) (revP n b) (revC R n c) = 0 := by
  obtain ⟨h1, h2, h3, h4, h5⟩ := checkF_zero h
  have hn : ((n : Int) + 1).toNat = n + 1 := by omega
  rw [hn] at h2 h4
  rw [Nat.add_sub_cancel] at h4
  have hh : ¬ headBad (n + 1 : Nat) R (revC R n c) := by
    unfold headBad at *
    intro e
    rcases e with e | e | e | ⟨e1, e2⟩
    · exact h1 (.inl (by omega))
    · exact h1 (.inr (.inl (by omega)))
    · exact h1 (.inr (.inr (.inl e)))
    · refine h1 (.inr (.inr (.inr ⟨e1, ?_⟩)))
      unfold revC at e2
      rwa [if_pos e1] at e2
  have hg : gensGood (n + 1) (countF R) (revP n a) (revP n b) (revC R n c) := by
    refine ⟨goodG_rev h2.1, goodG_rev h2.2.1, fun e => ?_⟩
    have hR : ¬ R = 2 := fun e2 => by rw [show countF R = 2 from if_pos e2] at e; omega
    unfold revC
    rw [if_neg hR]
    exact goodG_rev (h2.2.2 e)
  refine checkF_ok (K := n + 1) hh hg ?_ ?_ (gcdK_one h2 h4 h5)
  · intro e
    by_cases hR : R = 2
    · have e2 : countF R = 2 := if_pos hR
      rw [e2] at e h4
      simp only [orK, Nat.zero_or] at e h4
      rw [or_lo2, revP_low, revP_low] at e
      exact h4 ((or_hi2 h2.1.2 h2.2.1.2).2 e)
    · have e2 : countF R = 3 := if_neg hR
      have hc := h2.2.2 e2
      unfold revC at e
      rw [e2, if_neg hR] at e
      rw [e2] at h4
      simp only [orK, Nat.zero_or] at e h4
      rw [or_lo2, or_lo2, revP_low, revP_low, revP_low] at e
      have hab : a ||| b < 2 ^ (n + 1) := Nat.or_lt_two_pow h2.1.2 h2.2.1.2
      refine h4 ((or_hi2 hab hc.2).2 ⟨?_, e.2⟩)
      rw [← div_hi2 hab]
      exact (or_hi2 h2.1.2 h2.2.1.2).2 e.1
  · rw [Nat.add_sub_cancel]
    intro e
    by_cases hR : R = 2
    · have e2 : countF R = 2 := if_pos hR
      rw [e2] at e h3
      simp only [orK, Nat.zero_or] at e h3
      rw [or_hi2 (revP_lt n a) (revP_lt n b), revP_high, revP_high] at e
      exact h3 ((or_lo2 a b).2 e)
    · have e2 : countF R = 3 := if_neg hR
      unfold revC at e
      rw [e2, if_neg hR] at e
      rw [e2] at h3
      simp only [orK, Nat.zero_or] at e h3
      have hab : revP n a ||| revP n b < 2 ^ (n + 1) := Nat.or_lt_two_pow (revP_lt n a) (revP_lt n b)
      rw [or_hi2 hab (revP_lt n c), revP_high, ← div_hi2 hab, or_hi2 (revP_lt n a) (revP_lt n b), revP_high, revP_high] at e
      exact h3 ((or_lo2 (a ||| b) c).2 ⟨(or_lo2 a b).2 e.1, e.2⟩)
end Go.Proofs.Ytpmnbdkncmjafaa
