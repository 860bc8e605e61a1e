/- The shortest register, step by step: what stays. Nothing of Go stands here. -/
import Derived.Test.YtknkkoemghceeaaDoorGf2
namespace Gf2
namespace BM

theorem bit_shift (x k m : Nat) : (x * 2 ^ m).testBit k = (decide (m ≤ k) && x.testBit (k - m)) := by rw [Nat.testBit_mul_two_pow]
theorem cm_shift (b m S : Nat) : cm (b * 2 ^ m) S = cm b S * 2 ^ m := by
  rw [← cm_pow m b, cm_assoc, cm_pow]
/-- how far the product's bit k is from 0 -/
def dsc (S c k : Nat) : Bool := (cm c S).testBit k
theorem dsc_xor (S c b m k : Nat) : dsc S (c ^^^ b * 2 ^ m) k = (dsc S c k ^^ (decide (m ≤ k) && dsc S b (k - m))) := by
  unfold dsc
  rw [cm_xor_left, Nat.testBit_xor, cm_shift, bit_shift]
structure St where
  c : Nat
  b : Nat
  L : Nat
  m : Nat
def step (S n : Nat) (s : St) : St :=
  if dsc S s.c n = false then { s with m := s.m + 1 }
  else if 2 * s.L ≤ n then { c := s.c ^^^ s.b * 2 ^ s.m, b := s.c, L := n + 1 - s.L, m := 1 }
  else { s with c := s.c ^^^ s.b * 2 ^ s.m, m := s.m + 1 }
def run (S : Nat) : Nat → St
  | 0 => { c := 1, b := 1, L := 0, m := 1 }
  | n + 1 => step S n (run S n)
/-- what stays behind n bits -/
structure Inv (S n : Nat) (s : St) (lb : Nat) : Prop where
  zero : ∀ k, s.L ≤ k → k < n → dsc S s.c k = false
  odd : s.c % 2 = 1
  deg : s.c < 2 ^ (s.L + 1)
  sum : s.L + lb + s.m = n + 1
  pos : 1 ≤ s.m
  bdeg : s.b < 2 ^ (lb + 1)
  bzero : ∀ k, lb ≤ k → k + s.m < n → dsc S s.b k = false
  bone : s.m ≤ n → dsc S s.b (n - s.m) = true
theorem xor_odd_shift {c b m : Nat} (hc : c % 2 = 1) (hm : 1 ≤ m) : (c ^^^ b * 2 ^ m) % 2 = 1 := by
  obtain ⟨j, rfl⟩ : ∃ j, m = j + 1 := ⟨m - 1, by omega⟩
  have h := xor_odd c (b * 2 ^ (j + 1))
  have h2 : b * 2 ^ (j + 1) % 2 = 0 := by rw [Nat.pow_succ, ← Nat.mul_assoc]; omega
  omega
theorem xor_deg {c b m L L' lb : Nat} (hc : c < 2 ^ (L + 1)) (hb : b < 2 ^ (lb + 1)) (h1 : L ≤ L') (h2 : lb + m ≤ L') : c ^^^ b * 2 ^ m < 2 ^ (L' + 1) := by
  refine Nat.xor_lt_two_pow (Nat.lt_of_lt_of_le hc (Nat.pow_le_pow_right (by omega) (by omega))) ?_
  have h3 : b * 2 ^ m < 2 ^ (lb + 1) * 2 ^ m := Nat.mul_lt_mul_of_pos_right hb (Nat.two_pow_pos m)
  rw [← Nat.pow_add] at h3
  exact Nat.lt_of_lt_of_le h3 (Nat.pow_le_pow_right (by omega) (by omega))
theorem Inv.start (S : Nat) : Inv S 0 (run S 0) 0 := by
  refine ⟨fun k _ h => by omega, rfl, by simp [run], by simp [run], by simp [run], by simp [run], fun k _ h => by omega, fun h => ?_⟩
  simp [run] at h
theorem Inv.step {S n lb : Nat} {s : St} (h : Inv S n s lb) : ∃ lb', Inv S (n + 1) (step S n s) lb' := by
  obtain ⟨h1, h2, h3, h4, h5, h6, h7, h8⟩ := h
  unfold BM.step
  by_cases hd : dsc S s.c n = false
  · rw [if_pos hd]
    refine ⟨lb, fun k hk hn => ?_, h2, h3, by show s.L + lb + (s.m + 1) = n + 1 + 1; omega, by show 1 ≤ s.m + 1; omega, h6, fun k hk hn => h7 k hk (by have : k + (s.m + 1) < n + 1 := hn; omega), fun hm => ?_⟩
    · by_cases hkn : k = n
      · rw [hkn]; exact hd
      · exact h1 k hk (by omega)
    · have : s.m + 1 ≤ n + 1 := hm
      show dsc S s.b (n + 1 - (s.m + 1)) = true
      rw [show n + 1 - (s.m + 1) = n - s.m by omega]
      exact h8 (by omega)
  · rw [if_neg hd]
    have hd' : dsc S s.c n = true := by simpa using hd
    have key : ∀ L', s.L ≤ L' → lb + s.m ≤ L' → ∀ k, L' ≤ k → k < n + 1 → dsc S (s.c ^^^ s.b * 2 ^ s.m) k = false := by
      intro L' hL1 hL2 k hk hn
      rw [dsc_xor]
      by_cases hkn : k = n
      · subst hkn
        rw [hd', h8 (by omega), show decide (s.m ≤ k) = true by simpa using (by omega : s.m ≤ k)]
        rfl
      · rw [h1 k (by omega) (by omega), h7 (k - s.m) (by omega) (by omega)]
        simp
    by_cases h2L : 2 * s.L ≤ n
    · rw [if_pos h2L]
      refine ⟨s.L, key (n + 1 - s.L) (by omega) (by omega), xor_odd_shift h2 h5, xor_deg (L' := n + 1 - s.L) h3 h6 (by omega) (by omega), by show n + 1 - s.L + s.L + 1 = n + 1 + 1; omega, Nat.le_refl _, h3, fun k hk hn => h1 k hk (by have : k + 1 < n + 1 := hn; omega), fun _ => ?_⟩
      show dsc S s.c (n + 1 - 1) = true
      rw [Nat.add_sub_cancel]
      exact hd'
    · rw [if_neg h2L]
      refine ⟨lb, key s.L (Nat.le_refl _) (by omega), xor_odd_shift h2 h5, xor_deg (L' := s.L) h3 h6 (Nat.le_refl _) (by omega), by show s.L + lb + (s.m + 1) = n + 1 + 1; omega, by show 1 ≤ s.m + 1; omega, h6, fun k hk hn => h7 k hk (by have : k + (s.m + 1) < n + 1 := hn; omega), fun hm => ?_⟩
      have : s.m + 1 ≤ n + 1 := hm
      show dsc S s.b (n + 1 - (s.m + 1)) = true
      rw [show n + 1 - (s.m + 1) = n - s.m by omega]
      exact h8 (by omega)
theorem run_inv (S n : Nat) : ∃ lb, Inv S n (run S n) lb := by
  induction n with
  | zero => exact ⟨0, Inv.start S⟩
  | succ n ih =>
    obtain ⟨lb, h⟩ := ih
    exact h.step
/-- one more bit leaves the length, or makes it n + 1 less what it was; it never falls -/
theorem run_grows (S n : Nat) : ((run S (n + 1)).L = (run S n).L ∨ (run S (n + 1)).L = n + 1 - (run S n).L) ∧ (run S n).L ≤ (run S (n + 1)).L := by
  show ((step S n (run S n)).L = (run S n).L ∨ (step S n (run S n)).L = n + 1 - (run S n).L) ∧ (run S n).L ≤ (step S n (run S n)).L
  unfold step
  split
  · exact ⟨.inl rfl, Nat.le_refl _⟩
  · split
    · exact ⟨.inr rfl, by show (run S n).L ≤ n + 1 - (run S n).L; omega⟩
    · exact ⟨.inl rfl, Nat.le_refl _⟩
theorem run_le (S n : Nat) : (run S n).L ≤ n := by
  obtain ⟨lb, h⟩ := run_inv S n
  have h1 := h.sum
  have h2 := h.pos
  omega
/-- what least may add -/
theorem Inv.least {S n lb sh : Nat} {s : St} (h : Inv S n s lb) (h1 : s.m ≤ sh) (h2 : sh + n + 1 ≤ s.m + 2 * s.L) : Inv S n { s with c := s.c ^^^ s.b * 2 ^ sh } lb := by
  obtain ⟨g1, g2, g3, g4, g5, g6, g7, g8⟩ := h
  refine ⟨fun k hk hn => ?_, xor_odd_shift g2 (by omega), xor_deg (L' := s.L) g3 g6 (Nat.le_refl _) (by omega), g4, g5, g6, g7, g8⟩
  show dsc S (s.c ^^^ s.b * 2 ^ sh) k = false
  have hk' : s.L ≤ k := hk
  rw [dsc_xor, g1 k hk hn, g7 (k - sh) (by omega) (by omega)]
  simp
end BM
end Gf2
