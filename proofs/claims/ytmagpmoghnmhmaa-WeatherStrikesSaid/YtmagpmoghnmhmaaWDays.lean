/- What days and strikes must be, of numbers alone. Nothing of Go stands here. -/
import Derived.Test.YtmagpmoghnmhmaaWth
namespace Gf2
variable {p : Wp}
theorem hit_none (s : Nat × Bool) (hC : p.C = 0) (hM : p.M = 0) : whit p s = false := by
  unfold whit wlim
  rw [hC, hM]
  simp
theorem hit_every (s : Nat × Bool) (hC : p.C = 256) (hM : p.M = 256) : whit p s = true := by
  unfold whit wlim
  rw [hC, hM]
  have := drw_lt p.D p.T 8 (stpN p.D p.T 8 s.1)
  simp
  omega
theorem day_never (S : Nat) (hW : p.W = 0) (k : Nat) : (wat p k (S, false)).2 = false := by
  induction k with
  | zero => rfl
  | succ k ih =>
    show wday p (wat p k (S, false)) = false
    unfold wday
    rw [ih, hW]
    simp
theorem day_turns (S : Nat) (hW : p.W = 256) (hB : p.B = 256) (k : Nat) : (wat p k (S, false)).2 = decide (k % 2 = 1) := by
  induction k with
  | zero => rfl
  | succ k ih =>
    show wday p (wat p k (S, false)) = _
    have := drw_lt p.D p.T 8 (wat p k (S, false)).1
    unfold wday
    rw [ih, hW, hB]
    rcases Nat.mod_two_eq_zero_or_one k with h | h
    · rw [h, show (k + 1) % 2 = 1 by omega]
      simp; omega
    · rw [h, show (k + 1) % 2 = 0 by omega]
      simp; omega
theorem day_always (S : Nat) (hW : p.W = 256) (hB : p.B = 0) (k : Nat) : (wat p (k + 1) (S, false)).2 = true := by
  induction k with
  | zero =>
    show wday p (S, false) = true
    have := drw_lt p.D p.T 8 S
    unfold wday
    rw [hW]
    simp; omega
  | succ k ih =>
    show wday p (wat p (k + 1) (S, false)) = true
    unfold wday
    rw [ih, hB]
    simp
end Gf2
