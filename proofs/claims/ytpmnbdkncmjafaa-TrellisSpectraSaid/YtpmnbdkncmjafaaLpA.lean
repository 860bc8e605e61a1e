/- What a register of a good code puts out, as a product; a state that is not 0 puts out a one among so many steps. Of numbers alone. -/
import Derived.Test.YtpmnbdkncmjafaaRows
import Derived.Test.YtpmnbdkncmjafaaRevK
import Derived.Test.YtpmnbdkncmjafaaTMap
namespace Go.Proofs.Ytpmnbdkncmjafaa
open Gf2 Rev

/-- all symbols of a generator while the bits of m go by, the newest lowest -/
def yRow (n g m : Nat) : Nat := cm m (revP n g) / 2 ^ n
theorem popF_top (k x : Nat) : popF (k + 1) x = popF k x + x / 2 ^ k % 2 := by
  rw [popF_add k 1]; simp [popF]
theorem div_and_bit (w g k : Nat) : (w &&& g) / 2 ^ k % 2 = if g / 2 ^ k % 2 = 1 then w / 2 ^ k % 2 else 0 := by
  have h := Nat.testBit_and w g k
  simp only [Nat.testBit_eq_decide_div_mod_eq] at h
  have h1 : (w &&& g) / 2 ^ k % 2 < 2 := Nat.mod_lt _ (by omega)
  have h2 : w / 2 ^ k % 2 < 2 := Nat.mod_lt _ (by omega)
  generalize (w &&& g) / 2 ^ k % 2 = x at *
  generalize w / 2 ^ k % 2 = y at *
  generalize g / 2 ^ k % 2 = z at *
  by_cases hz : z = 1
  · rw [if_pos hz]
    by_cases hy : y = 1
    · simp [hz, hy] at h; omega
    · simp [hz, hy] at h; omega
  · rw [if_neg hz]
    simp [hz] at h; omega
theorem cm_mid (n g x k : Nat) (hk : k ≤ n + 1) : cm (x % 2 ^ k) (revP n g) / 2 ^ n % 2 = popF k (x &&& g) % 2 := by
  induction k with
  | zero => simp [Nat.mod_one, cm_zero, popF]
  | succ k ih =>
    have ih := ih (by omega)
    rw [cm_step, xor_high, xor_odd, ih, popF_top]
    have hb : (if x / 2 ^ k % 2 = 1 then revP n g * 2 ^ k else 0) / 2 ^ n % 2 = (x &&& g) / 2 ^ k % 2 := by
      rw [div_and_bit]
      have hr : revP n g * 2 ^ k / 2 ^ n % 2 = g / 2 ^ k % 2 := by
        rw [shift_high (by omega)]
        have h1 := revP_bit n g (n - k)
        rw [Nat.testBit_eq_decide_div_mod_eq, show n - (n - k) = k by omega, Nat.testBit_eq_decide_div_mod_eq] at h1
        simp at h1
        omega
      split
      · rename_i h; rw [hr, h]; split <;> omega
      · rename_i h; rw [Nat.zero_div]; split <;> omega
    rw [hb]; omega
theorem cm_mod_bit (n g x : Nat) : cm x (revP n g) / 2 ^ n % 2 = cm (x % 2 ^ (n + 1)) (revP n g) / 2 ^ n % 2 := by
  have e : x = x % 2 ^ (n + 1) ^^^ 2 ^ (n + 1) * (x / 2 ^ (n + 1)) := by
    apply Nat.eq_of_testBit_eq
    intro i
    rw [Nat.testBit_xor, Nat.testBit_mod_two_pow, Nat.testBit_two_pow_mul, Nat.testBit_div_two_pow]
    by_cases h : i < n + 1
    · simp [h, show ¬ n + 1 ≤ i by omega]
    · simp [h, show n + 1 ≤ i by omega]
  have e2 : cm (2 ^ (n + 1) * (x / 2 ^ (n + 1))) (revP n g) = 2 ^ n * (2 * cm (x / 2 ^ (n + 1)) (revP n g)) := by
    rw [Nat.mul_comm, ← cm_pow, cm_assoc, cm_pow, Nat.pow_succ, Nat.mul_comm, Nat.mul_assoc]
  have h1 : cm x (revP n g) = cm (x % 2 ^ (n + 1)) (revP n g) ^^^ cm (2 ^ (n + 1) * (x / 2 ^ (n + 1))) (revP n g) := by rw [← cm_xor_left, ← e]
  rw [h1, xor_high, xor_odd, e2, Nat.mul_div_cancel_left _ (Nat.two_pow_pos n)]
  omega
theorem yRow_bit (n g x : Nat) (hn : n ≤ 31) (hg : g < 2 ^ (n + 1)) : yRow n g x % 2 = outF (x % 2 ^ (n + 1)) g := by
  unfold yRow outF par
  rw [cm_mod_bit, cm_mid n g x (n + 1) (Nat.le_refl _)]
  have e : x % 2 ^ (n + 1) &&& g = x &&& g := by
    apply Nat.eq_of_testBit_eq
    intro i
    rw [Nat.testBit_and, Nat.testBit_and, Nat.testBit_mod_two_pow]
    by_cases h : i < n + 1
    · simp [h]
    · have : g.testBit i = false := Nat.testBit_lt_two_pow (Nat.lt_of_lt_of_le hg (Nat.pow_le_pow_right (by omega) (by omega)))
      simp [this]
  rw [e, popF_small (i := n + 1) (j := 32) (Nat.lt_of_le_of_lt Nat.and_le_right hg) (by omega)]
theorem yRow_half (n g m b : Nat) (hb : b ≤ 1) : yRow n g (2 * m + b) / 2 = yRow n g m := by
  unfold yRow
  rw [cm_rec, show (2 * m + b) / 2 = m by omega, Nat.div_div_eq_div_mul, ← Nat.pow_succ, xor_high]
  have h1 : low (2 * m + b) (revP n g) / 2 ^ (n + 1) = 0 := by
    refine Nat.div_eq_of_lt ?_
    unfold low
    split
    · exact revP_lt n g
    · exact Nat.two_pow_pos _
  rw [h1, Nat.zero_xor, Nat.pow_succ', Nat.mul_div_mul_left _ _ (by omega)]
theorem yRow_step (n g m b : Nat) (hn : n ≤ 31) (hg : g < 2 ^ (n + 1)) (hb : b ≤ 1) : yRow n g (2 * m + b) = 2 * yRow n g m + outF (2 * (m % 2 ^ n) + b) g := by
  have h1 := yRow_half n g m b hb
  have h2 := yRow_bit n g (2 * m + b) hn hg
  have e : (2 * m + b) % 2 ^ (n + 1) = 2 * (m % 2 ^ n) + b := by
    rw [Nat.pow_succ', Nat.mod_mul, show (2 * m + b) / 2 = m by omega, show (2 * m + b) % 2 = b by omega]
    omega
  rw [e] at h2
  omega
/-- what a good code is, in plain words -/
structure GoodN (n : Nat) (R : Int) (a b c : Nat) : Prop where
  n2 : 2 ≤ n
  n31 : n ≤ 31
  a0 : a ≠ 0
  al : a < 2 ^ (n + 1)
  b0 : b ≠ 0
  bl : b < 2 ^ (n + 1)
  cl : c < 2 ^ (n + 1)
  odd : a % 2 = 1 ∨ b % 2 = 1 ∨ c % 2 = 1
  high : a / 2 ^ n % 2 = 1 ∨ b / 2 ^ n % 2 = 1 ∨ c / 2 ^ n % 2 = 1
  rate : R = 2 ∨ R = 3
  two : R = 2 → c = 0
  lin : ∃ u v t, cm u (revP n a) ^^^ cm v (revP n b) ^^^ cm t (revP n c) = 1
theorem goodN_of {n : Nat} {R : Int} {a b c : Nat} (h : checkF (n + 1) R a b c = 0) : GoodN n R a b c := by
  obtain ⟨m, em, h2, h31, hR⟩ := good_code h
  obtain rfl : n = m := by omega
  have hrev := checkF_rev h
  obtain ⟨hh, hg, hlo, hhi, hgc⟩ := checkF_zero h
  obtain ⟨_, hg', _, _, hgc'⟩ := checkF_zero hrev
  have en : ((n : Int) + 1).toNat = n + 1 := by omega
  rw [en] at hg hhi hg'
  rw [Nat.add_sub_cancel] at hhi
  have htwo : R = 2 → c = 0 := fun e => by
    by_cases hc : c = 0
    · exact hc
    · exact absurd (.inr (.inr (.inr ⟨e, hc⟩))) hh
  have hcl : c < 2 ^ (n + 1) := by
    rcases hR with e | e
    · rw [htwo e]; exact Nat.two_pow_pos _
    · exact (hg.2.2 (by rw [e]; rfl)).2
  have hor2 : ∀ x y : Nat, (x ||| y) % 2 = 1 → x % 2 = 1 ∨ y % 2 = 1 := fun x y e => by
    rcases Nat.mod_two_eq_zero_or_one x with h1 | h1
    · rcases Nat.mod_two_eq_zero_or_one y with h2 | h2
      · have := (or_lo2 x y).2 ⟨h1, h2⟩; omega
      · exact .inr h2
    · exact .inl h1
  have horn : ∀ x y : Nat, x < 2 ^ (n + 1) → y < 2 ^ (n + 1) → (x ||| y) / 2 ^ n ≠ 0 → x / 2 ^ n ≠ 0 ∨ y / 2 ^ n ≠ 0 := fun x y hx hy e => by
    by_cases h1 : x / 2 ^ n = 0
    · by_cases h2 : y / 2 ^ n = 0
      · exact absurd ((or_hi2 hx hy).2 ⟨by omega, by omega⟩) e
      · exact .inr h2
    · exact .inl h1
  have htop : ∀ x : Nat, x < 2 ^ (n + 1) → x / 2 ^ n ≠ 0 → x / 2 ^ n % 2 = 1 := fun x hx e => by have := div_hi2 hx; omega
  rcases hR with e | e
  · subst e
    have hc0 := htwo rfl
    subst hc0
    have ecf : countF 2 = 2 := rfl
    rw [ecf] at hg hlo hhi hgc hgc'
    simp only [orK, gcdK, Nat.zero_or, gcd_zero_l] at hlo hhi hgc hgc'
    obtain ⟨u, v, huv⟩ := gcd_lin (revP n a) (revP n b)
    refine ⟨h2, h31, hg.1.1, hg.1.2, hg.2.1.1, hg.2.1.2, hcl, ?_, ?_, .inl rfl, fun _ => rfl, ⟨u, v, 0, by rw [huv, hgc', cm_zero, Nat.xor_zero]⟩⟩
    · rcases hor2 a b (by omega) with h | h
      · exact .inl h
      · exact .inr (.inl h)
    · rcases horn a b hg.1.2 hg.2.1.2 hhi with h | h
      · exact .inl (htop a hg.1.2 h)
      · exact .inr (.inl (htop b hg.2.1.2 h))
  · subst e
    have ecf : countF 3 = 3 := rfl
    rw [ecf] at hg hlo hhi hgc hgc'
    have erc : revC 3 n c = revP n c := rfl
    rw [erc] at hgc'
    simp only [orK, gcdK, Nat.zero_or, gcd_zero_l] at hlo hhi hgc hgc'
    obtain ⟨u, v, huv⟩ := gcd_lin (revP n a) (revP n b)
    obtain ⟨s, t, hst⟩ := gcd_lin (Gf2.gcd (revP n a) (revP n b)) (revP n c)
    rw [hgc', ← huv, Gf2.cm_xor_right, ← Gf2.cm_assoc, ← Gf2.cm_assoc] at hst
    refine ⟨h2, h31, hg.1.1, hg.1.2, hg.2.1.1, hg.2.1.2, hcl, ?_, ?_, .inr rfl, fun e => absurd e (by decide), ⟨_, _, _, hst⟩⟩
    · rcases hor2 (a ||| b) c (by omega) with h | h
      · rcases hor2 a b h with h | h
        · exact .inl h
        · exact .inr (.inl h)
      · exact .inr (.inr h)
    · rcases horn (a ||| b) c (Nat.or_lt_two_pow hg.1.2 hg.2.1.2) hcl hhi with h | h
      · rcases horn a b hg.1.2 hg.2.1.2 h with h | h
        · exact .inl (htop a hg.1.2 h)
        · exact .inr (.inl (htop b hg.2.1.2 h))
      · exact .inr (.inr (htop c hcl h))
theorem cm_shift_left (h M g : Nat) : cm (h * 2 ^ M) g = cm h g * 2 ^ M := by rw [← cm_pow, cm_assoc, cm_pow]
theorem cm_lt {x y i j : Nat} (hx : x < 2 ^ i) (hy : y < 2 ^ (j + 1)) : cm x y < 2 ^ (i + j) := by
  by_cases h1 : x = 0
  · rw [h1, cm_zero]; exact Nat.two_pow_pos _
  · by_cases h2 : y = 0
    · rw [h2, cm_zero_right]; exact Nat.two_pow_pos _
    · have := len_cm h1 h2
      have h3 := len_le hx
      have h4 := len_le hy
      exact lt_of_len (by omega)
theorem split_at (X N : Nat) : X = (X / 2 ^ N) * 2 ^ N ^^^ X % 2 ^ N := by
  apply Nat.eq_of_testBit_eq
  intro i
  rw [Nat.testBit_xor, Nat.testBit_mod_two_pow, Nat.testBit_mul_two_pow, Nat.testBit_div_two_pow]
  by_cases h : i < N
  · simp [h, show ¬ N ≤ i by omega]
  · simp [h, show N ≤ i by omega, show i - N + N = i by omega]
/-- of two products of one register the low parts fit crosswise -/
theorem cross {N M r s : Nat} (hr : r < 2 ^ (N + 1)) (hs : s < 2 ^ (N + 1)) (h1 : cm M r / 2 ^ N % 2 ^ N = 0) (h2 : cm M s / 2 ^ N % 2 ^ N = 0) : cm (cm M r % 2 ^ N) s = cm (cm M s % 2 ^ N) r := by
  have sp : ∀ X, X / 2 ^ N % 2 ^ N = 0 → X = (X / 2 ^ (2 * N)) * 2 ^ (2 * N) ^^^ X % 2 ^ N := fun X h => by
    have e : X % 2 ^ (2 * N) = X % 2 ^ N := by
      rw [show 2 * N = N + N by omega, Nat.pow_add, Nat.mod_mul, h]; simp
    have := split_at X (2 * N)
    rwa [e] at this
  have e1 : cm (cm M r) s = cm (cm M s) r := by rw [cm_assoc, cm_assoc, cm_comm r s]
  have l1 : cm (cm M r % 2 ^ N) s < 2 ^ (2 * N) := by rw [show 2 * N = N + N by omega]; exact cm_lt (Nat.mod_lt _ (Nat.two_pow_pos _)) hs
  have l2 : cm (cm M s % 2 ^ N) r < 2 ^ (2 * N) := by rw [show 2 * N = N + N by omega]; exact cm_lt (Nat.mod_lt _ (Nat.two_pow_pos _)) hr
  rw [sp _ h1, sp _ h2, cm_xor_left, cm_xor_left, cm_shift_left, cm_shift_left] at e1
  have e3 := congrArg (· % 2 ^ (2 * N)) e1
  simp only [xor_low, Nat.mul_mod_left, Nat.zero_xor, Nat.mod_eq_of_lt l1, Nat.mod_eq_of_lt l2] at e3
  exact e3
/-- THE WINDOW: a register of 2 n bits that has put out nothing for its last n steps holds nothing -/
theorem window_zero {n : Nat} {R : Int} {a b c : Nat} (h : GoodN n R a b c) {M : Nat} (hM : M < 2 ^ (2 * n)) (h1 : yRow n a M % 2 ^ n = 0) (h2 : yRow n b M % 2 ^ n = 0) (h3 : yRow n c M % 2 ^ n = 0) : M = 0 := by
  obtain ⟨u, v, t, hl⟩ := h.lin
  have ra := revP_lt n a
  have rb := revP_lt n b
  have rc := revP_lt n c
  have hodd : revP n a / 2 ^ n % 2 = 1 ∨ revP n b / 2 ^ n % 2 = 1 ∨ revP n c / 2 ^ n % 2 = 1 := by rw [revP_high, revP_high, revP_high]; exact h.odd
  unfold yRow at h1 h2 h3
  generalize revP n a = A at *
  generalize revP n b = B at *
  generalize revP n c = C at *
  have key : ∀ s, s < 2 ^ (n + 1) → cm M s / 2 ^ n % 2 ^ n = 0 → cm (cm u (cm M A % 2 ^ n) ^^^ cm v (cm M B % 2 ^ n) ^^^ cm t (cm M C % 2 ^ n)) s = cm M s % 2 ^ n := fun s hs hz => by
    rw [cm_xor_left, cm_xor_left, cm_assoc, cm_assoc, cm_assoc, cross ra hs h1 hz, cross rb hs h2 hz, cross rc hs h3 hz, ← cm_comm A, ← cm_comm B, ← cm_comm C, ← cm_assoc, ← cm_assoc, ← cm_assoc, ← cm_xor_left, ← cm_xor_left, hl, cm_one_left]
  generalize hr : cm u (cm M A % 2 ^ n) ^^^ cm v (cm M B % 2 ^ n) ^^^ cm t (cm M C % 2 ^ n) = r at key
  have r0 : r = 0 := by
    by_cases e : r = 0
    · exact e
    · exfalso
      have big : ∀ s, s < 2 ^ (n + 1) → s / 2 ^ n % 2 = 1 → cm M s / 2 ^ n % 2 ^ n = 0 → False := fun s hs hb hz => by
        have hlen := len_of_bit hs hb
        have hs0 : s ≠ 0 := fun e0 => by rw [e0, Nat.zero_div] at hb; omega
        have h4 := len_cm e hs0
        rw [key s hs hz] at h4
        have h5 := len_le (Nat.mod_lt (cm M s) (Nat.two_pow_pos n))
        have h6 : len r ≠ 0 := fun e0 => e (len_eq_zero.1 e0)
        omega
      rcases hodd with q | q | q
      · exact big A ra q h1
      · exact big B rb q h2
      · exact big C rc q h3
  have low0 : ∀ s, s < 2 ^ (n + 1) → cm M s / 2 ^ n % 2 ^ n = 0 → cm M s % 2 ^ (2 * n) = 0 := fun s hs hz => by
    have := key s hs hz
    rw [r0, cm_zero] at this
    rw [show 2 * n = n + n by omega, Nat.pow_add, Nat.mod_mul, hz, ← this]; simp
  have hM2 : M % 2 ^ (2 * n) = 0 := by
    have e : M = cm u (cm M A) ^^^ cm v (cm M B) ^^^ cm t (cm M C) := by
      have : cm M (cm u A ^^^ cm v B ^^^ cm t C) = M := by rw [hl, cm_one_right]
      rw [cm_xor_right, cm_xor_right, ← cm_assoc, ← cm_assoc, ← cm_assoc, cm_comm M u, cm_comm M v, cm_comm M t, cm_assoc, cm_assoc, cm_assoc] at this
      exact this.symm
    have z : ∀ x y, y % 2 ^ (2 * n) = 0 → cm x y % 2 ^ (2 * n) = 0 := fun x y hy => by
      have : y = y / 2 ^ (2 * n) * 2 ^ (2 * n) := by have := Nat.div_add_mod y (2 ^ (2 * n)); rw [hy, Nat.mul_comm] at this; omega
      rw [this, cm_comm, cm_shift_left, Nat.mul_mod_left]
    rw [e, xor_low, xor_low, z _ _ (low0 A ra h1), z _ _ (low0 B rb h2), z _ _ (low0 C rc h3)]
    rfl
  rwa [Nat.mod_eq_of_lt hM] at hM2
end Go.Proofs.Ytpmnbdkncmjafaa
