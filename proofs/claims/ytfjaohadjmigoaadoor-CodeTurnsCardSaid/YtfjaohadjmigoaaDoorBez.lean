/- Bezout's polynomials, plain: inverses modulo a polynomial, and their uniqueness. Nothing of the program stands here. -/
import Derived.Test.YtfjaohadjmigoaaDoorComM
namespace Gf2

theorem xor_cancel (a b : Nat) : a ^^^ (a ^^^ b) = b := by rw [← Nat.xor_assoc, Nat.xor_self, Nat.zero_xor]
theorem xor_cancel' (a b : Nat) : (a ^^^ b) ^^^ b = a := by rw [Nat.xor_assoc, Nat.xor_self, Nat.xor_zero]
theorem gcd_zero_left (a : Nat) : gcd 0 a = a := by
  by_cases h : a = 0
  · rw [h, gcd_zero]
  · rw [gcd_step 0 h]
    have : rem 0 a = 0 := (rem_eq (q := 0) (r := 0) (by rw [len_zero]; have := len_pos h; omega) (by rw [cm_zero]; rfl)).2
    rw [this, gcd_zero]
/-- a and b are one but for a multiple of m -/
def Cong (m a b : Nat) : Prop := Dvd m (a ^^^ b)
theorem Cong.refl (m a : Nat) : Cong m a a := by unfold Cong; rw [Nat.xor_self]; exact Dvd.zero m
theorem Cong.symm {m a b : Nat} (h : Cong m a b) : Cong m b a := by unfold Cong at *; rw [Nat.xor_comm]; exact h
theorem Cong.trans {m a b c : Nat} (h : Cong m a b) (h' : Cong m b c) : Cong m a c := by
  unfold Cong at *
  have e : a ^^^ c = (a ^^^ b) ^^^ (b ^^^ c) := by rw [Nat.xor_assoc, xor_cancel]
  rw [e]; exact h.xor h'
theorem Cong.xor {m a b c d : Nat} (h : Cong m a b) (h' : Cong m c d) : Cong m (a ^^^ c) (b ^^^ d) := by
  unfold Cong at *
  rw [xor_swap]; exact Dvd.xor h h'
theorem Cong.cm {m a b : Nat} (h : Cong m a b) (c : Nat) : Cong m (Gf2.cm c a) (Gf2.cm c b) := by
  unfold Cong at *
  rw [← cm_xor_right]; exact Dvd.cm h c
theorem Cong.cm_left {m a b : Nat} (h : Cong m a b) (c : Nat) : Cong m (Gf2.cm a c) (Gf2.cm b c) := by
  rw [cm_comm a, cm_comm b]; exact h.cm c
theorem cong_rem (a m : Nat) : Cong m (rem a m) a := by
  unfold Cong
  rw [rem_xor, Nat.xor_comm a, xor_cancel']
  exact dvd_mul_right _ _
theorem cong_zero {m a : Nat} : Cong m a 0 ↔ Dvd m a := by unfold Cong; rw [Nat.xor_zero]
/-- what is congruent and small is equal -/
theorem cong_small {m a b : Nat} (ha : len a < len m) (hb : len b < len m) (h : Cong m a b) : a = b := by
  by_cases e : a ^^^ b = 0
  · exact xor_zero_eq e
  · have h1 := Dvd.len_le h e
    have h2 := len_xor_le a b
    omega
theorem dvd_cancel {g m y : Nat} (hg : g ≠ 0) (h : Dvd (cm m g) (cm y g)) : Dvd m y := by
  obtain ⟨q, hq⟩ := h
  refine ⟨q, ?_⟩
  have h1 : cm (cm q m ^^^ y) g = 0 := by rw [cm_xor_left, cm_assoc, hq, Nat.xor_self]
  by_cases e : cm q m ^^^ y = 0
  · exact xor_zero_eq e
  · exact absurd h1 (cm_ne e hg)
theorem quo_mul {a g : Nat} (hg : g ≠ 0) (h : Dvd g a) : cm (quo a g) g = a := by
  have := quo_rem a g
  rwa [h.rem_zero hg, Nat.xor_zero] at this

/-- an inverse of x modulo m, reduced -/
def InvR (x m u : Nat) : Prop := len u < len m ∧ Cong m (cm u x) 1
theorem InvR.unique {x m u u' : Nat} (h : InvR x m u) (h' : InvR x m u') : u = u' := by
  apply cong_small h.1 h'.1
  -- u = u (u' x) = u' (u x) = u'
  have h1 : Cong m (cm u (cm u' x)) u := by have := h'.2.cm u; rwa [cm_one_right] at this
  have h2 : Cong m (cm u' (cm u x)) u' := by have := h.2.cm u'; rwa [cm_one_right] at this
  have e : cm u (cm u' x) = cm u' (cm u x) := by rw [← cm_assoc, ← cm_assoc, cm_comm u u']
  rw [e] at h1
  exact h1.symm.trans h2

/-- the round of Euclid's way: what p and q are -/
def EucR (x m g r s p q : Nat) : Prop := len p < len m ∧ len q < len m ∧ Cong m (cm p x) r ∧ Cong m (cm q x) s ∧ gcd r s = g
theorem EucR.step {x m g r s p q : Nat} (h : EucR x m g r s p q) (hm : m ≠ 0) (hs : s ≠ 0) : EucR x m g s (rem r s) q (p ^^^ rem (cm (quo r s) q) m) := by
  obtain ⟨h1, h2, h3, h4, h5⟩ := h
  refine ⟨h2, ?_, h4, ?_, by rw [← h5, gcd_step r hs]⟩
  · have := len_xor_le p (rem (cm (quo r s) q) m)
    have := len_rem (cm (quo r s) q) hm
    omega
  · rw [cm_xor_left]
    have e : rem r s = r ^^^ cm (quo r s) s := rem_xor r s
    rw [e]
    refine h3.xor ?_
    refine ((cong_rem (cm (quo r s) q) m).cm_left x).trans ?_
    rw [cm_assoc]
    exact h4.cm _
theorem EucR.done {x m r p q : Nat} (h : EucR x m 1 r 0 p q) : InvR x m p := by
  obtain ⟨h1, _, h3, _, h5⟩ := h
  rw [gcd_zero] at h5
  rw [h5] at h3
  exact ⟨h1, h3⟩
theorem rem_one (a : Nat) : rem a 1 = 0 := by
  have := len_rem a (b := 1) (by omega)
  have e : len 1 = 1 := len_eq (n := 0) (by simp) (by simp)
  exact len_eq_zero.1 (by omega)
theorem gcd_comm (a b : Nat) : gcd a b = gcd b a := by
  obtain ⟨h1, h2⟩ := gcd_dvd a b
  obtain ⟨h3, h4⟩ := gcd_dvd b a
  exact Dvd.antisymm (dvd_gcd h2 h1) (dvd_gcd h4 h3)
theorem EucR.start {x m : Nat} (hm : m ≠ 0) (hg : gcd x m = 1) : EucR x m 1 m (rem x m) 0 (rem 1 m) := by
  refine ⟨by rw [len_zero]; have := len_pos hm; omega, len_rem 1 hm, ?_, ?_, ?_⟩
  · rw [cm_zero]; unfold Cong; rw [Nat.zero_xor]; exact Dvd.refl m
  · refine ((cong_rem 1 m).cm_left x).trans ?_
    rw [cm_one_left]
    exact (cong_rem x m).symm
  · rw [← gcd_step x hm]; exact hg

/-- what Bezout answers: u reduced, and v with u a + v b = g -/
def BezR (a b u v : Nat) : Prop := InvR (quo a (gcd a b)) (quo b (gcd a b)) u ∧ cm v b = cm u a ^^^ gcd a b
section
variable {a b u v : Nat}
theorem gcd_ne {a b : Nat} (hb : b ≠ 0) : gcd a b ≠ 0 := fun e => hb (gcd_eq_zero.1 e).2
theorem quo_ne {a b : Nat} (hb : b ≠ 0) : quo b (gcd a b) ≠ 0 := by
  intro e
  have := quo_mul (gcd_ne (a := a) hb) (gcd_dvd a b).2
  rw [e, cm_zero] at this
  exact hb this.symm
/-- by their divisor they are prime to one another -/
theorem gcd_quo (hb : b ≠ 0) : gcd (quo a (gcd a b)) (quo b (gcd a b)) = 1 := by
  have hg := gcd_ne (a := a) hb
  have ha := quo_mul hg (gcd_dvd a b).1
  have hb2 := quo_mul hg (gcd_dvd a b).2
  obtain ⟨⟨p, hp⟩, ⟨q, hq⟩⟩ := gcd_dvd (quo a (gcd a b)) (quo b (gcd a b))
  -- e g divides a and b, so it divides g
  have h1 : Dvd (cm (gcd (quo a (gcd a b)) (quo b (gcd a b))) (gcd a b)) (gcd a b) := by
    apply dvd_gcd
    · exact ⟨p, by rw [← cm_assoc, hp, ha]⟩
    · exact ⟨q, by rw [← cm_assoc, hq, hb2]⟩
  have h2 : Dvd (gcd (quo a (gcd a b)) (quo b (gcd a b))) 1 := dvd_cancel hg (by rw [cm_one_left]; exact h1)
  exact Dvd.antisymm h2 ⟨_, cm_one_right _⟩
theorem bez_dvd (hb : b ≠ 0) (h : InvR (quo a (gcd a b)) (quo b (gcd a b)) u) : Dvd b (cm u a ^^^ gcd a b) := by
  have hg := gcd_ne (a := a) hb
  have ha := quo_mul hg (gcd_dvd a b).1
  have hb2 := quo_mul hg (gcd_dvd a b).2
  obtain ⟨q, hq⟩ := h.2
  refine ⟨q, ?_⟩
  have e : cm u a ^^^ gcd a b = cm (cm u (quo a (gcd a b)) ^^^ 1) (gcd a b) := by
    rw [cm_xor_left, cm_assoc, ha, cm_one_left]
  rw [e, ← hq, cm_assoc, hb2]
theorem BezR.mk (hb : b ≠ 0) (h : InvR (quo a (gcd a b)) (quo b (gcd a b)) u) : BezR a b u (quo (cm u a ^^^ gcd a b) b) := ⟨h, quo_mul hb (bez_dvd hb h)⟩
theorem BezR.unique {u' v' : Nat} (hb : b ≠ 0) (h : BezR a b u v) (h' : BezR a b u' v') : u = u' ∧ v = v' := by
  have e := h.1.unique h'.1
  subst e
  refine ⟨rfl, ?_⟩
  have h1 : cm (v ^^^ v') b = 0 := by rw [cm_xor_left, h.2, h'.2, Nat.xor_self]
  by_cases e : v ^^^ v' = 0
  · exact xor_zero_eq e
  · exact absurd h1 (cm_ne e hb)
theorem BezR.sum (h : BezR a b u v) : cm u a ^^^ cm v b = gcd a b := by rw [h.2, xor_cancel]
theorem len_cm_le (x y : Nat) : len (cm x y) ≤ len x + len y := by
  by_cases hx : x = 0
  · rw [hx, cm_zero, len_zero]; omega
  · by_cases hy : y = 0
    · rw [hy, cm_zero_right, len_zero]; omega
    · have := len_cm hx hy; omega
theorem quo_len {g : Nat} (h : Dvd g b) (hb : b ≠ 0) : len (quo b g) ≤ len b := by
  have hg : g ≠ 0 := by
    rintro rfl
    obtain ⟨q, hq⟩ := h
    rw [cm_zero_right] at hq
    exact hb hq.symm
  have e := quo_mul hg h
  have hq : quo b g ≠ 0 := by intro e2; rw [e2, cm_zero] at e; exact hb e.symm
  have h1 := len_cm hq hg
  have h2 := len_pos hg
  rw [e] at h1
  omega
theorem BezR.len_u (hb : b ≠ 0) (h : BezR a b u v) : len u < len b := Nat.lt_of_lt_of_le h.1.1 (quo_len (gcd_dvd a b).2 hb)
theorem BezR.len_v (hb : b ≠ 0) (h : BezR a b u v) : len v ≤ max (len a) 1 := by
  by_cases hv : v = 0
  · rw [hv, len_zero]; omega
  · have h1 := len_cm hv hb
    rw [h.2] at h1
    have h2 := len_xor_le (cm u a) (gcd a b)
    have h3 := (gcd_dvd a b).2.len_le hb
    have h4 := h.len_u hb
    by_cases hu : cm u a = 0
    · rw [hu, Nat.zero_xor] at h1
      omega
    · have h5 : u ≠ 0 := by rintro rfl; exact hu (cm_zero a)
      have h6 : a ≠ 0 := by rintro rfl; exact hu (cm_zero_right u)
      have h7 := len_cm h5 h6
      have h8 := len_pos h6
      have h9 := len_pos hb
      omega
end
end Gf2
