/- The plain functions on polynomials, reckoned: with so many steps at most; and which codes may be. Nothing of the program stands here. -/
import Derived.Test.YtpmnbdkncmjafaaCheckF
namespace Gf2
def lenF : Nat → Nat → Nat
  | 0, _ => 0
  | n + 1, a => if a = 0 then 0 else lenF n (a / 2) + 1
theorem lenF_eq : ∀ n a, a < 2 ^ n → lenF n a = len a
  | 0, a, h => by
    have : a = 0 := by simpa using h
    subst this; rw [len_zero]; rfl
  | n + 1, a, h => by
    unfold lenF
    by_cases e : a = 0
    · rw [if_pos e, e, len_zero]
    · rw [if_neg e, lenF_eq n (a / 2) (by rw [Nat.pow_succ] at h; omega), ← len_pos e]
def remF : Nat → Nat → Nat → Nat
  | 0, a, _ => a
  | n + 1, a, b => if lenF 64 b ≤ lenF 64 a then remF n (a ^^^ b * 2 ^ (lenF 64 a - lenF 64 b)) b else a
theorem remF_eq (b : Nat) (hb0 : b ≠ 0) (hb : b < 2 ^ 64) : ∀ n a, a < 2 ^ 64 → len a ≤ n → remF n a b = rem a b
  | 0, a, _, h => by
    have : a = 0 := len_eq_zero.1 (by omega)
    subst this
    have h1 := len_pos hb0
    rw [rem, if_neg (by rw [len_zero]; omega)]; rfl
  | n + 1, a, ha, h => by
    unfold remF
    rw [lenF_eq 64 b hb, lenF_eq 64 a ha, rem]
    by_cases e : len b ≤ len a
    · have hd := len_down hb0 e
      rw [if_pos e, if_pos ⟨e, hb0⟩]
      exact remF_eq b hb0 hb n _ (lt_of_len (by have := len_le ha; omega)) (by omega)
    · rw [if_neg e, if_neg (fun h => e h.1)]
def gcdF : Nat → Nat → Nat → Nat
  | 0, a, _ => a
  | n + 1, a, b => if b = 0 then a else gcdF n b (remF 64 a b)
theorem gcdF_eq : ∀ n a b, a < 2 ^ 64 → b < 2 ^ 64 → len b < n → gcdF n a b = gcd a b
  | 0, _, _, _, _, h => by omega
  | n + 1, a, b, ha, hb, h => by
    unfold gcdF
    by_cases e : b = 0
    · rw [if_pos e, e, gcd_zero]
    · have hr := len_rem a e
      rw [if_neg e, remF_eq b e hb 64 a ha (len_le ha), gcd_step a e]
      exact gcdF_eq n b _ hb (lt_of_len (by have := len_le hb; omega)) (by omega)
theorem gcdF65 {a b : Nat} (ha : a < 2 ^ 64) (hb : b < 2 ^ 64) : gcdF 65 a b = gcd a b := gcdF_eq 65 a b ha hb (by have := len_le hb; omega)
end Gf2
namespace Go.Proofs.Ytpmnbdkncmjafaa
open Go.RowKit
def gcdKF (a b c : Nat) : Nat → Nat
  | 0 => 0
  | 1 => Gf2.gcdF 65 0 a
  | 2 => Gf2.gcdF 65 (Gf2.gcdF 65 0 a) b
  | _ => Gf2.gcdF 65 (Gf2.gcdF 65 (Gf2.gcdF 65 0 a) b) c
theorem gcd_le {a b : Nat} (ha : a ≤ 18446744073709551615) (hb : b ≤ 18446744073709551615) : Gf2.gcd a b ≤ 18446744073709551615 := by
  have h := Gf2.gcd_dvd a b
  have le {x m : Nat} (h : x < 2 ^ m) (hm : m ≤ 64) : x ≤ 18446744073709551615 := by
    have : 2 ^ m ≤ 2 ^ 64 := Nat.pow_le_pow_right (by omega) hm
    omega
  by_cases e : a = 0
  · by_cases e2 : b = 0
    · subst e; subst e2; rw [Gf2.gcd_zero]; omega
    · exact le (Gf2.lt_len _) (Nat.le_trans (h.2.len_le e2) (len_le64 hb))
  · exact le (Gf2.lt_len _) (Nat.le_trans (h.1.len_le e) (len_le64 ha))
theorem gcdKF_eq {a b c : Nat} (ha : a ≤ 4294967295) (hb : b ≤ 4294967295) (hc : c ≤ 4294967295) (k : Nat) : gcdKF a b c k = gcdK a b c k := by
  have h1 := gcd_le (a := 0) (b := a) (by omega) (by omega)
  have h2 := gcd_le (a := Gf2.gcd 0 a) (b := b) h1 (by omega)
  have e1 : Gf2.gcdF 65 0 a = Gf2.gcd 0 a := Gf2.gcdF65 (by omega) (by omega)
  have e2 : Gf2.gcdF 65 (Gf2.gcd 0 a) b = Gf2.gcd (Gf2.gcd 0 a) b := Gf2.gcdF65 (by omega) (by omega)
  have e3 : Gf2.gcdF 65 (Gf2.gcd (Gf2.gcd 0 a) b) c = Gf2.gcd (Gf2.gcd (Gf2.gcd 0 a) b) c := Gf2.gcdF65 (by omega) (by omega)
  match k with
  | 0 => rfl
  | 1 => exact e1
  | 2 => show Gf2.gcdF 65 (Gf2.gcdF 65 0 a) b = Gf2.gcd (Gf2.gcd 0 a) b; rw [e1, e2]
  | n + 3 => show Gf2.gcdF 65 (Gf2.gcdF 65 (Gf2.gcdF 65 0 a) b) c = Gf2.gcd (Gf2.gcd (Gf2.gcd 0 a) b) c; rw [e1, e2, e3]
/-- a code that may be, reckoned -/
def okB (K R a b c : Nat) : Bool :=
  decide (3 ≤ K ∧ K ≤ 32 ∧ ((R = 2 ∧ c = 0) ∨ R = 3) ∧ a ≤ 4294967295 ∧ b ≤ 4294967295 ∧ c ≤ 4294967295 ∧ a ≠ 0 ∧ a < 2 ^ K ∧ b ≠ 0 ∧ b < 2 ^ K ∧ (R = 3 → c ≠ 0 ∧ c < 2 ^ K) ∧
    orK a b c R % 2 ≠ 0 ∧ orK a b c R / 2 ^ (K - 1) ≠ 0 ∧ gcdKF a b c R = 1)
theorem okB_ok {K R a b c : Nat} (h : okB K R a b c = true) : checkF K R a b c = 0 := by
  unfold okB at h
  obtain ⟨h1, h2, h3, ha, hb, hc, g1, g2, g3, g4, g5, g6, g7, g8⟩ := of_decide_eq_true h
  have hR : countF R = R := by
    unfold countF
    rcases h3 with ⟨e, _⟩ | e <;> subst e <;> rfl
  refine checkF_ok ?_ ?_ ?_ ?_ ?_
  · rintro (e | e | e | e)
    · omega
    · omega
    · rcases h3 with ⟨e2, _⟩ | e2 <;> subst e2 <;> simp at e
    · rcases h3 with ⟨e2, e3⟩ | e2
      · exact e.2 e3
      · subst e2; simp at e
  · rw [hR]; exact ⟨⟨g1, g2⟩, ⟨g3, g4⟩, fun e => ⟨(g5 e).1, (g5 e).2⟩⟩
  · rw [hR]; exact g6
  · rw [hR]; exact g7
  · rw [hR, ← gcdKF_eq ha hb hc]; exact g8
end Go.Proofs.Ytpmnbdkncmjafaa
