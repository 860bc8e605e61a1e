/- Multiples of a polynomial of degree 1 or more: their divisor, plain. Nothing of the program stands here. -/
import Derived.Test.YtfjaohadjmigoaaDoorMul
import Derived.Test.YtfjaohadjmigoaaDoorDiv
import Derived.Test.YtfjaohadjmigoaaDoorEval
namespace Gf2
theorem gcd_eq_zero {a b : Nat} : gcd a b = 0 ↔ a = 0 ∧ b = 0 := by
  constructor
  · intro h
    obtain ⟨h1, h2⟩ := gcd_dvd a b
    rw [h] at h1 h2
    obtain ⟨q, h1⟩ := h1
    obtain ⟨q', h2⟩ := h2
    rw [cm_zero_right] at h1 h2
    exact ⟨h1.symm, h2.symm⟩
  · rintro ⟨rfl, rfl⟩; exact gcd_zero 0
theorem dvd_mul_right (a b : Nat) : Dvd b (cm a b) := ⟨a, rfl⟩
end Gf2
namespace Go.Proofs.YtfjaohadjmigoaaDoor
open Go.RowKit
def dOf (d : Nat) : Nat := 2 + d % 6
def prodF (g d : Nat) : Nat := Gf2.cm (g % 1024) (dOf d)
theorem dOf_lt (d : Nat) : dOf d < 2 ^ 3 ∧ 2 ≤ dOf d := by unfold dOf; omega
theorem prod_lt (g d : Nat) : prodF g d < 2 ^ 13 := by
  unfold prodF
  have h1 := Gf2.len_le (show g % 1024 < 2 ^ 10 by omega)
  have h2 := Gf2.len_le (dOf_lt d).1
  apply Gf2.lt_of_len
  by_cases e : g % 1024 = 0
  · rw [e, Gf2.cm_zero, Gf2.len_zero]; omega
  · have := Gf2.len_cm e (show dOf d ≠ 0 by have := (dOf_lt d).2; omega)
    omega
theorem prod_high (g d : Nat) : mulH (g % 1024) (dOf d) = 0 := by
  have := prod_lt g d
  unfold prodF at this
  unfold mulH
  exact Nat.div_eq_of_lt (by omega)
theorem prod_low (g d : Nat) : mulL (g % 1024) (dOf d) = prodF g d := by
  have := prod_lt g d
  unfold prodF at this
  unfold mulL prodF
  exact Nat.mod_eq_of_lt (by omega)
theorem prod_dvd (g d : Nat) : Gf2.Dvd (dOf d) (prodF g d) := Gf2.dvd_mul_right _ _
theorem gcdK_dvd2 (a b c : Nat) : Gf2.Dvd (gcdK a b c 2) a ∧ Gf2.Dvd (gcdK a b c 2) b := by
  have h1 := Gf2.gcd_dvd (Gf2.gcd 0 a) b
  have h2 := Gf2.gcd_dvd 0 a
  exact ⟨h1.1.trans h2.2, h1.2⟩
theorem gcdK_dvd3 (a b c : Nat) : Gf2.Dvd (gcdK a b c 3) a ∧ Gf2.Dvd (gcdK a b c 3) b ∧ Gf2.Dvd (gcdK a b c 3) c := by
  have h := Gf2.gcd_dvd (Gf2.gcd (Gf2.gcd 0 a) b) c
  have h1 := gcdK_dvd2 a b c
  exact ⟨h.1.trans h1.1, h.1.trans h1.2, h.2⟩
theorem dvd_gcdK {d a b c : Nat} (ha : Gf2.Dvd d a) (hb : Gf2.Dvd d b) (hc : Gf2.Dvd d c) (n : Nat) : Gf2.Dvd d (gcdK a b c n) := by
  have h1 := Gf2.dvd_gcd (Gf2.Dvd.zero d) ha
  have h2 := Gf2.dvd_gcd h1 hb
  have h3 := Gf2.dvd_gcd h2 hc
  match n with
  | 0 => exact Gf2.Dvd.zero d
  | 1 => exact h1
  | 2 => exact h2
  | n + 3 => exact h3
theorem gcdK_zero2 (a b c : Nat) : gcdK a b c 2 = 0 ↔ a = 0 ∧ b = 0 := by
  show Gf2.gcd (Gf2.gcd 0 a) b = 0 ↔ _
  rw [Gf2.gcd_eq_zero, Gf2.gcd_eq_zero]; simp
theorem gcdK_zero3 (a b c : Nat) : gcdK a b c 3 = 0 ↔ a = 0 ∧ b = 0 ∧ c = 0 := by
  show Gf2.gcd (Gf2.gcd (Gf2.gcd 0 a) b) c = 0 ↔ _
  rw [Gf2.gcd_eq_zero, Gf2.gcd_eq_zero, Gf2.gcd_eq_zero]; simp [and_assoc]
theorem multiples_refused (K R : Int) (x y z d : Nat) : checkF K R (prodF x d) (prodF y d) (prodF z d) ≠ 0 := by
  intro h
  obtain ⟨_, _, _, _, h5⟩ := checkF_zero h
  have h1 := dvd_gcdK (prod_dvd x d) (prod_dvd y d) (prod_dvd z d) (countF R)
  rw [h5] at h1
  have h2 := h1.len_le (by omega)
  have h3 : Gf2.len 1 = 1 := Gf2.len_eq (n := 0) (by simp) (by simp)
  have h4 : 2 ≤ Gf2.len (dOf d) := by
    apply Nat.le_of_not_lt
    intro hc
    have := Gf2.lt_len (dOf d)
    have h6 : 2 ^ Gf2.len (dOf d) ≤ 2 ^ 1 := Nat.pow_le_pow_right (by omega) (by omega)
    have := (dOf_lt d).2
    omega
  omega
/-- 1 of what is not 0 -/
def oneOf (x : Nat) : Nat := if x = 0 then 0 else 1
def cntK (x y z : Nat) : Nat → Nat
  | 0 => 0
  | 1 => oneOf x
  | 2 => oneOf x + oneOf y
  | _ => oneOf x + oneOf y + oneOf z
theorem cntK_le (x y z k : Nat) : cntK x y z k ≤ 3 := by
  have h (x : Nat) : oneOf x ≤ 1 := by unfold oneOf; split <;> omega
  have := h x
  have := h y
  have := h z
  unfold cntK
  split <;> omega
theorem cnt_zero (x y z : Nat) : cntK x y z 3 = 0 ↔ x = 0 ∧ y = 0 ∧ z = 0 := by
  show oneOf x + oneOf y + oneOf z = 0 ↔ _
  unfold oneOf
  split <;> split <;> split <;> omega
/-- the law's last test -/
theorem common_last (R : Int) (x y z : Nat) : (decide (cntK x y z 3 = 0)) = (decide (gcdK x y z (countF R) = 0) && (decide (R ≠ 2) || decide (z = 0))) := by
  unfold countF
  by_cases hR : R = 2
  · have h := gcdK_zero2 x y z
    have h2 := cnt_zero x y z
    rw [if_pos hR, Bool.eq_iff_iff]
    simp only [decide_eq_true_eq, Bool.and_eq_true, Bool.or_eq_true, hR, ne_eq, not_true_eq_false, false_or, decide_false, Bool.false_eq_true]
    rw [h, h2, and_assoc]
  · have h := gcdK_zero3 x y z
    have h2 := cnt_zero x y z
    rw [if_neg hR, Bool.eq_iff_iff]
    simp only [decide_eq_true_eq, Bool.and_eq_true, Bool.or_eq_true, hR, ne_eq, not_false_eq_true, true_or, and_true]
    rw [h, h2]
theorem common_rest (R : Int) (x y z : Nat) : Gf2.rem x (gcdK x y z (countF R)) = 0 ∧ Gf2.rem y (gcdK x y z (countF R)) = 0 ∧ (R ≠ 2 → Gf2.rem z (gcdK x y z (countF R)) = 0) ∨ gcdK x y z (countF R) = 0 := by
  by_cases e : gcdK x y z (countF R) = 0
  · exact .inr e
  · left
    unfold countF at e ⊢
    by_cases hR : R = 2
    · rw [if_pos hR] at e ⊢
      obtain ⟨h1, h2⟩ := gcdK_dvd2 x y z
      exact ⟨h1.rem_zero e, h2.rem_zero e, fun h => absurd hR h⟩
    · rw [if_neg hR] at e ⊢
      obtain ⟨h1, h2, h3⟩ := gcdK_dvd3 x y z
      exact ⟨h1.rem_zero e, h2.rem_zero e, fun _ => h3.rem_zero e⟩

theorem zBneI {x : Int} (h : x ≠ 0) : (x != 0) = true := by rw [bne_iff_ne]; exact h
end Go.Proofs.YtfjaohadjmigoaaDoor
