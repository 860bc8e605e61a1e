/- What the reference's walk to the lowest multiplier keeps. Nothing of Go stands here. -/
import Derived.Test.YtfjaohadjmigoaaDoorGf2
import Derived.Test.YtfjaohadjmigoaaDoorBez
namespace Gf2

theorem Cong.lift {b m a u v : Nat} (hd : Dvd b (Gf2.cm m a)) (h : Cong m u v) : Cong b (Gf2.cm u a) (Gf2.cm v a) := by
  obtain ⟨t, ht⟩ := h
  unfold Cong
  rw [← cm_xor_left, ← ht, cm_assoc]
  exact hd.cm t
/-- x is p a and y is q a, but for multiples of b -/
def LowR (a b g x y p q : Nat) : Prop := Cong b (cm p a) x ∧ Cong b (cm q a) y ∧ gcd x y = g
theorem LowR.start (a b : Nat) : LowR a b (gcd a b) a b 1 0 := by
  refine ⟨?_, ?_, rfl⟩
  · rw [cm_one_left]; exact Cong.refl _ _
  · rw [cm_zero]; exact (cong_zero.2 (Dvd.refl b)).symm
theorem LowR.step {a b g m x y p q : Nat} (hd : Dvd b (cm m a)) (hy : y ≠ 0) (h : LowR a b g x y p q) : LowR a b g y (rem x y) q (rem (p ^^^ rem (cm (quo x y) q) m) m) := by
  obtain ⟨h1, h2, h3⟩ := h
  refine ⟨h2, ?_, by rw [← gcd_step x hy]; exact h3⟩
  have e1 : Cong m (rem (p ^^^ rem (cm (quo x y) q) m) m) (p ^^^ cm (quo x y) q) := (cong_rem _ m).trans ((Cong.refl m p).xor (cong_rem _ m))
  have e2 := Cong.lift hd e1
  have e3 : Cong b (cm (p ^^^ cm (quo x y) q) a) (x ^^^ cm (quo x y) y) := by
    rw [cm_xor_left, cm_assoc]
    exact h1.xor (h2.cm _)
  rw [rem_xor x y]
  exact e2.trans e3
theorem LowR.done {a b g m A y p q : Nat} (hm : m ≠ 0) (hg : g ≠ 0) (hmg : cm m g = b) (hA : cm A g = a) (h : LowR a b g g y p q) : InvR A m (rem p m) := by
  refine ⟨len_rem p hm, ?_⟩
  have hd : Dvd b (cm m a) := ⟨A, by rw [← hA, ← hmg, ← cm_assoc, ← cm_assoc, cm_comm A m]⟩
  have e := (Cong.lift hd (cong_rem p m)).trans h.1
  unfold Cong at e ⊢
  have e2 : cm (rem p m) a ^^^ g = cm (cm (rem p m) A ^^^ 1) g := by rw [cm_xor_left, cm_assoc, hA, cm_one_left]
  rw [e2, ← hmg] at e
  exact dvd_cancel hg e
theorem LowR.more {a b g x y p q : Nat} (h : LowR a b g x y p q) (hx : x ≠ g) : y ≠ 0 := fun e => hx (by rw [← h.2.2, e, gcd_zero])
end Gf2
