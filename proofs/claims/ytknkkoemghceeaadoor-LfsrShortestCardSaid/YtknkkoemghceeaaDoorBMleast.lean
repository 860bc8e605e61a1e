/- The shortest register: of those of the shortest length the least one. Nothing of Go stands here. -/
import Derived.Test.YtknkkoemghceeaaDoorIrr
namespace Gf2
namespace BM

theorem xor_bits_lt {x d p : Nat} (hp : d.testBit p = true) (hhi : ∀ j, p < j → d.testBit j = false) (hx : x.testBit p = false) : x < x ^^^ d := by
  have hd : d / 2 ^ p = 1 := by
    have h1 : d / 2 ^ p % 2 = 1 := by rw [Nat.testBit_eq_decide_div_mod_eq] at hp; simpa using hp
    have h2 : d < 2 ^ (p + 1) := Nat.lt_pow_two_of_testBit _ fun i hi => hhi i (by omega)
    have h3 : d / 2 ^ p < 2 := Nat.div_lt_of_lt_mul (by rw [Nat.pow_succ] at h2; exact h2)
    generalize d / 2 ^ p = z at *
    omega
  have hx0 : x / 2 ^ p % 2 = 0 := by rw [Nat.testBit_eq_decide_div_mod_eq] at hx; have := Nat.mod_lt (x / 2 ^ p) (show 0 < 2 by omega); simp at hx; omega
  have h4 : (x ^^^ d) / 2 ^ p = x / 2 ^ p ^^^ 1 := by rw [xor_high, hd]
  have h5 : x / 2 ^ p ^^^ 1 = x / 2 ^ p + 1 := by
    have e : x / 2 ^ p = 2 * (x / 2 ^ p / 2) := by omega
    have h6 := xor_half (x / 2 ^ p) 1
    have h7 := xor_odd (x / 2 ^ p) 1
    simp only [Nat.reduceDiv, Nat.xor_zero] at h6
    omega
  apply Nat.lt_of_not_le
  intro hc
  have := Nat.div_le_div_right (c := 2 ^ p) hc
  omega
/-- lst clears the bits that it looks at, from the top down -/
theorem lst_clear {b db : Nat} (hb : len b = db + 1) : ∀ (k sh c : Nat), k ≤ sh + 1 → (∀ j, j < k → (lst b db k sh c).testBit (sh - j + db) = false) ∧ (∀ i, sh + db < i → (lst b db k sh c).testBit i = c.testBit i)
  | 0, sh, c, _ => ⟨fun j hj => by omega, fun i _ => rfl⟩
  | k + 1, sh, c, hk => by
    have htop : b.testBit db = true := by
      have hb0 : b ≠ 0 := by rintro rfl; rw [len_zero] at hb; omega
      have := top_bit hb0
      rwa [hb, Nat.add_sub_cancel] at this
    have habove : ∀ i, db < i → b.testBit i = false := fun i hi => bit_above (by omega)
    generalize hc1 : (if c / 2 ^ (sh + db) % 2 = 1 then c ^^^ b * 2 ^ sh else c) = c1
    have h1 : c1.testBit (sh + db) = false := by
      rw [← hc1]
      split
      · rename_i h
        have hbit : c.testBit (sh + db) = true := by rw [Nat.testBit_eq_decide_div_mod_eq, h]; rfl
        rw [Nat.testBit_xor, hbit, Nat.testBit_mul_two_pow, show sh + db - sh = db by omega, htop]
        simp
      · rename_i h
        rw [Nat.testBit_eq_decide_div_mod_eq]; simpa using h
    have h2 : ∀ i, sh + db < i → c1.testBit i = c.testBit i := fun i hi => by
      rw [← hc1]
      split
      · rw [Nat.testBit_xor, Nat.testBit_mul_two_pow, habove (i - sh) (by omega)]; simp
      · rfl
    rw [lst_next, hc1]
    by_cases hk0 : k = 0
    · subst hk0
      refine ⟨fun j hj => ?_, fun i hi => h2 i hi⟩
      obtain rfl : j = 0 := by omega
      exact h1
    · obtain ⟨g1, g2⟩ := lst_clear hb k (sh - 1) c1 (by omega)
      refine ⟨fun j hj => ?_, fun i hi => ?_⟩
      · rcases j with _ | j
        · rw [Nat.sub_zero, g2 (sh + db) (by omega)]; exact h1
        · have := g1 j (by omega)
          rwa [show sh - 1 - j = sh - (j + 1) by omega] at this
      · rw [g2 i (by omega), h2 i hi]
theorem mod_xor_high {x n : Nat} (h : x % 2 ^ n = 0) : ∃ q, x = q * 2 ^ n := ⟨x / 2 ^ n, by have := Nat.div_add_mod x (2 ^ n); rw [h, Nat.add_zero, Nat.mul_comm] at this; exact this.symm⟩
theorem mul_pow_cancel {a b n : Nat} (h : a * 2 ^ n = b * 2 ^ n) : a = b := Nat.eq_of_mul_eq_mul_right (Nat.two_pow_pos n) h
theorem shl_xor (a b n : Nat) : (a ^^^ b) * 2 ^ n = a * 2 ^ n ^^^ b * 2 ^ n := by
  have := @Nat.shiftLeft_xor_distrib n a b
  simpa [Nat.shiftLeft_eq] using this
theorem len_cm_lt {a b i j : Nat} (ha : a < 2 ^ (i + 1)) (hb : b < 2 ^ j) : len (cm a b) ≤ i + j := by
  by_cases ha0 : a = 0
  · rw [ha0, cm_zero, len_zero]; omega
  by_cases hb0 : b = 0
  · rw [hb0, cm_zero_right, len_zero]; omega
  have h1 := len_cm ha0 hb0
  have h2 := len_le ha
  have h3 := len_le hb
  omega
/-- two differ by a multiple of the last length's polynomial -/
theorem diff_form {S n lb : Nat} {s : St} (h : Inv S n s lb) {c' : Nat} (hf : Fits S n s.L c') : ∃ β, s.c ^^^ c' = cm β (s.b * 2 ^ s.m) ∧ len β ≤ 2 * s.L - n := by
  obtain ⟨h1, h2, h3, h4, h5, h6, h7, h8⟩ := h
  obtain ⟨f1, f2, f3⟩ := hf
  by_cases hL0 : s.L = 0
  · rw [hL0, Nat.zero_add, Nat.pow_one] at h3 f2
    refine ⟨0, ?_, by rw [len_zero]; omega⟩
    rw [cm_zero, show s.c = 1 by omega, show c' = 1 by omega]; rfl
  have hm : s.m ≤ n := by omega
  have h8 := h8 hm
  generalize hb' : s.b * 2 ^ s.m = b' at *
  -- the low parts
  have hbS : ∀ k, s.m + lb ≤ k → k < n → (cm b' S).testBit k = false := fun k hk hn => by
    rw [← hb', cm_shift, Nat.testBit_mul_two_pow]
    have := h7 (k - s.m) (by omega) (by omega)
    unfold dsc at this
    rw [this]; simp
  have hbn : (cm b' S).testBit n = true := by
    rw [← hb', cm_shift, Nat.testBit_mul_two_pow]
    unfold dsc at h8
    rw [h8]; simpa using hm
  have hbl : b' < 2 ^ (lb + s.m + 1) := by
    rw [← hb', show lb + s.m + 1 = (lb + 1) + s.m by omega, Nat.pow_add]
    exact Nat.mul_lt_mul_of_pos_right h6 (Nat.two_pow_pos _)
  have hbe : b' % 2 = 0 := by
    rw [← hb']
    obtain ⟨j, hj⟩ : ∃ j, s.m = j + 1 := ⟨s.m - 1, by omega⟩
    rw [hj, Nat.pow_succ, ← Nat.mul_assoc]; omega
  have ec := mod_of_zero (x := cm s.c S) (L := s.L) (n := n) (by omega) h1
  have ed : cm (s.c ^^^ c') S % 2 ^ n = cm (s.c ^^^ c') S % 2 ^ s.L := mod_of_zero (by omega) fun k hk hn => by
    rw [cm_xor_left, Nat.testBit_xor]
    have a1 := h1 k hk hn
    have a2 := f3 k hk hn
    unfold dsc at a1 a2
    rw [a1, a2]; rfl
  have eb := mod_of_zero (x := cm b' S) (L := s.m + lb) (n := n) (by omega) hbS
  have hdl : s.c ^^^ c' < 2 ^ (s.L + 1) := Nat.xor_lt_two_pow h3 f2
  have hde : (s.c ^^^ c') % 2 = 0 := by rw [xor_odd, h2, f1]
  generalize s.c ^^^ c' = d at *
  have hpc := Nat.mod_lt (cm s.c S) (Nat.two_pow_pos s.L)
  have hpd := Nat.mod_lt (cm d S) (Nat.two_pow_pos s.L)
  have hpb := Nat.mod_lt (cm b' S) (Nat.two_pow_pos (s.m + lb))
  -- x y' and y x' agree but for multiples of 2 ^ n
  have key : ∀ x y : Nat, (cm x (cm y S % 2 ^ n) ^^^ cm y (cm x S % 2 ^ n)) % 2 ^ n = 0 := fun x y => by
    rw [xor_low, ← cm_mod x (cm y S), ← cm_mod y (cm x S), ← cm_assoc, ← cm_assoc, cm_comm y x, Nat.xor_self]
  -- the determinant
  obtain ⟨e, he⟩ := mod_xor_high (key s.c b')
  obtain ⟨α, hα⟩ := mod_xor_high (key d b')
  obtain ⟨β, hβ⟩ := mod_xor_high (key s.c d)
  have small1 : ∀ {z p}, z * 2 ^ n = p → len p ≤ n + 1 → z ≤ 1 := fun {z p} hz hp => by
    by_cases hz0 : z = 0
    · omega
    · have := len_shift hz0 n
      rw [hz] at this
      have : z = 1 := len_le_one (by omega) hz0
      omega
  have le1 : e ≤ 1 := small1 he.symm (by
    have a1 := len_xor_le (cm s.c (cm b' S % 2 ^ n)) (cm b' (cm s.c S % 2 ^ n))
    rw [eb, ec] at a1
    have a2 := len_cm_lt h3 hpb
    have a3 := len_cm_lt hbl hpc
    rw [eb, ec]
    omega)
  have lα1 : α ≤ 1 := small1 hα.symm (by
    have a1 := len_xor_le (cm d (cm b' S % 2 ^ n)) (cm b' (cm d S % 2 ^ n))
    rw [eb, ed] at a1
    have a2 := len_cm_lt hdl hpb
    have a3 := len_cm_lt hbl hpd
    rw [eb, ed]
    omega)
  have lβ : len β ≤ 2 * s.L - n := by
    by_cases hβ0 : β = 0
    · rw [hβ0, len_zero]; omega
    · have a0 := len_shift hβ0 n
      have a1 := len_xor_le (cm s.c (cm d S % 2 ^ n)) (cm d (cm s.c S % 2 ^ n))
      rw [hβ, ed, ec] at a1
      have a2 := len_cm_lt h3 hpd
      have a3 := len_cm_lt hdl hpc
      omega
  -- the determinant is 2 ^ n
  have hsplit : ∀ X : Nat, X % 2 ^ (n + 1) = X % 2 ^ n ^^^ (if X.testBit n then 2 ^ n else 0) := fun X => by
    refine Nat.eq_of_testBit_eq fun j => ?_
    rw [Nat.testBit_xor, Nat.testBit_mod_two_pow, Nat.testBit_mod_two_pow]
    rcases Nat.lt_trichotomy j n with hj | hj | hj
    · have : (if X.testBit n = true then 2 ^ n else 0).testBit j = false := by
        split
        · rw [Nat.testBit_two_pow]; simp; omega
        · simp
      simp [this, hj, show j < n + 1 by omega]
    · subst hj
      cases X.testBit j <;> simp [Nat.testBit_two_pow_self]
    · have : (if X.testBit n = true then 2 ^ n else 0).testBit j = false := by
        split
        · rw [Nat.testBit_two_pow]; simp; omega
        · simp
      simp [this, show ¬ j < n by omega, show ¬ j < n + 1 by omega]
  have he1 : e = 1 := by
    have k2 : (cm s.c (cm b' S % 2 ^ (n + 1)) ^^^ cm b' (cm s.c S % 2 ^ (n + 1))) % 2 ^ (n + 1) = 0 := by
      rw [xor_low, ← cm_mod s.c (cm b' S), ← cm_mod b' (cm s.c S), ← cm_assoc, ← cm_assoc, cm_comm b' s.c, Nat.xor_self]
    rw [hsplit (cm b' S), hbn, if_pos rfl, hsplit (cm s.c S), cm_xor_right, cm_xor_right, xor_swap, he] at k2
    have k3 := congrArg (fun z => z.testBit n) k2
    simp only [Nat.testBit_mod_two_pow, Nat.zero_testBit, show decide (n < n + 1) = true by simp, Bool.true_and, Nat.testBit_xor] at k3
    have k4 : (cm s.c (2 ^ n)).testBit n = true := by rw [cm_at s.c n h2]
    have k5 : (cm b' (if (cm s.c S).testBit n = true then 2 ^ n else 0)).testBit n = false := by
      split
      · rw [cm_comm, cm_pow, Nat.testBit_mul_two_pow, Nat.sub_self, Go.Proofs.YtknkkoemghceeaaDoor.Rev.bitz, hbe]; simp
      · rw [cm_zero_right]; simp
    rw [k4, k5] at k3
    have : (e * 2 ^ n).testBit n = e.testBit 0 := by rw [Nat.testBit_mul_two_pow, Nat.sub_self]; simp
    rw [this] at k3
    rcases (show e = 0 ∨ e = 1 by omega) with e0 | e0
    · rw [e0] at k3; simp at k3
    · exact e0
  rw [he1, Nat.one_mul] at he
  -- Cramer
  have hcr : d * 2 ^ n = cm s.c α * 2 ^ n ^^^ cm b' β * 2 ^ n := by
    have a1 : cm s.c α * 2 ^ n = cm s.c (α * 2 ^ n) := by rw [← cm_pow n (cm s.c α), ← cm_pow n α, ← cm_assoc, ← cm_assoc, cm_comm (2 ^ n)]
    have a2 : cm b' β * 2 ^ n = cm b' (β * 2 ^ n) := by rw [← cm_pow n (cm b' β), ← cm_pow n β, ← cm_assoc, ← cm_assoc, cm_comm (2 ^ n)]
    have a3 : d * 2 ^ n = cm d (2 ^ n) := by rw [cm_comm, cm_pow]
    have a4 : cm d (2 ^ n) = cm d (cm s.c (cm b' S % 2 ^ n) ^^^ cm b' (cm s.c S % 2 ^ n)) := by rw [he]
    rw [a1, a2, a3, a4, ← hα, ← hβ]
    generalize cm b' S % 2 ^ n = pb
    generalize cm s.c S % 2 ^ n = pc
    generalize cm d S % 2 ^ n = pd
    have r1 : cm s.c (cm d pb) = cm d (cm s.c pb) := by rw [← cm_assoc, ← cm_assoc, cm_comm s.c d]
    have r2 : cm s.c (cm b' pd) = cm b' (cm s.c pd) := by rw [← cm_assoc, ← cm_assoc, cm_comm s.c b']
    have r3 : cm b' (cm d pc) = cm d (cm b' pc) := by rw [← cm_assoc, ← cm_assoc, cm_comm b' d]
    rw [cm_xor_right, cm_xor_right, cm_xor_right, r1, r2, r3, Nat.xor_assoc, ← Nat.xor_assoc (cm b' (cm s.c pd)), Nat.xor_self, Nat.zero_xor]
  rw [← shl_xor] at hcr
  have hd2 := mul_pow_cancel hcr
  have hα0 : α = 0 := by
    have a1 := xor_odd (cm s.c α) (cm b' β)
    rw [← hd2, hde, Go.Proofs.YtknkkoemghceeaaDoor.Rev.cm_odd, Go.Proofs.YtknkkoemghceeaaDoor.Rev.cm_odd, h2, hbe] at a1
    rcases (show α = 0 ∨ α = 1 by omega) with e0 | e0
    · exact e0
    · rw [e0] at a1; simp at a1
  rw [hα0, cm_zero_right, Nat.zero_xor, cm_comm] at hd2
  exact ⟨β, hd2, lβ⟩
/-- the answer is the least of all of its length -/
theorem fin_least {S n c' : Nat} (hf : Fits S n (run S n).L c') : fin S n ≤ c' := by
  obtain ⟨lb, hinv⟩ := run_inv S n
  have hb1 := run_b S n
  have hb0 : (run S n).b ≠ 0 := by intro e; rw [e] at hb1; simp at hb1
  unfold fin
  by_cases h2 : 2 * (run S n).L ≤ n
  · rw [if_pos h2]
    obtain ⟨β, h3, h4⟩ := diff_form hinv hf
    have hβ : β = 0 := len_eq_zero.1 (by omega)
    rw [hβ, cm_zero] at h3
    rw [xor_zero_eq h3]; exact Nat.le_refl _
  · rw [if_neg h2]
    have e : fin S n = lst (run S n).b (len (run S n).b - 1) (2 * (run S n).L - n) ((run S n).m + 2 * (run S n).L - n - 1) (run S n).c := by unfold fin; rw [if_neg h2]
    obtain ⟨lb', hinv'⟩ := fin_inv S n
    have hb2 := len_pos hb0
    obtain ⟨g1, _⟩ := lst_clear (b := (run S n).b) (db := len (run S n).b - 1) (by omega) (2 * (run S n).L - n) ((run S n).m + 2 * (run S n).L - n - 1) (run S n).c (by omega)
    rw [← e] at g1 ⊢
    obtain ⟨β, h3, h4⟩ := diff_form hinv' hf
    simp only at h3 h4
    by_cases hβ : β = 0
    · rw [hβ, cm_zero] at h3
      rw [xor_zero_eq h3]; exact Nat.le_refl _
    · have hl := len_pos hβ
      have hs0 : (run S n).b * 2 ^ (run S n).m ≠ 0 := Nat.mul_ne_zero hb0 (by have := Nat.two_pow_pos (run S n).m; omega)
      have hlc := len_cm hβ hs0
      rw [len_shift hb0] at hlc
      have hd0 := cm_ne hβ hs0
      have htop := top_bit hd0
      have hm1 := hinv.pos
      have hx := g1 (2 * (run S n).L - n - len β) (by omega)
      have hp : (run S n).m + 2 * (run S n).L - n - 1 - (2 * (run S n).L - n - len β) + (len (run S n).b - 1) = len (cm β ((run S n).b * 2 ^ (run S n).m)) - 1 := by omega
      rw [hp] at hx
      have := xor_bits_lt htop (fun j hj => bit_above (by omega)) hx
      rw [← h3] at this
      have e2 : fin S n ^^^ (fin S n ^^^ c') = c' := by rw [← Nat.xor_assoc, Nat.xor_self, Nat.zero_xor]
      rw [e2] at this
      exact Nat.le_of_lt this
end BM
end Gf2
