/- The shortest register: bounds for words. Nothing of Go stands here. -/
import Derived.Test.YtknkkoemghceeaaDoorBMW
namespace Gf2
namespace BM

theorem run_b (S : Nat) : ∀ n, (run S n).b % 2 = 1
  | 0 => rfl
  | n + 1 => by
    have ih := run_b S n
    obtain ⟨lb, h⟩ := run_inv S n
    show (step S n (run S n)).b % 2 = 1
    unfold step
    split
    · exact ih
    · split
      · exact h.odd
      · exact ih
theorem run_c64 {S n : Nat} (hn : n ≤ 63) : (run S n).c < 2 ^ 64 := by
  obtain ⟨lb, h⟩ := run_inv S n
  have := run_le S n
  exact Nat.lt_of_lt_of_le h.deg (Nat.pow_le_pow_right (by omega) (by omega))
theorem run_b64 {S n : Nat} (hn : n ≤ 63) : (run S n).b < 2 ^ 64 := by
  obtain ⟨lb, h⟩ := run_inv S n
  have h1 := h.sum
  have h2 := h.pos
  exact Nat.lt_of_lt_of_le h.bdeg (Nat.pow_le_pow_right (by omega) (by omega))
theorem run_shift {S n : Nat} (hn : n ≤ 62) : (run S n).b * 2 ^ (run S n).m < 2 ^ 64 := by
  obtain ⟨lb, h⟩ := run_inv S n
  have h1 := h.sum
  have h3 : (run S n).b * 2 ^ (run S n).m < 2 ^ (lb + 1) * 2 ^ (run S n).m := Nat.mul_lt_mul_of_pos_right h.bdeg (Nat.two_pow_pos _)
  rw [← Nat.pow_add] at h3
  exact Nat.lt_of_lt_of_le h3 (Nat.pow_le_pow_right (by omega) (by omega))
theorem run_m {S n : Nat} : 1 ≤ (run S n).m ∧ (run S n).m ≤ n + 1 := by
  obtain ⟨lb, h⟩ := run_inv S n
  have h1 := h.sum
  exact ⟨h.pos, by omega⟩
/-- least's answer -/
def fin (S n : Nat) : Nat := if 2 * (run S n).L ≤ n then (run S n).c else lst (run S n).b (len (run S n).b - 1) (2 * (run S n).L - n) ((run S n).m + 2 * (run S n).L - n - 1) (run S n).c
theorem fin_inv (S n : Nat) : ∃ lb, Inv S n { run S n with c := fin S n } lb := by
  obtain ⟨lb, h⟩ := run_inv S n
  refine ⟨lb, ?_⟩
  unfold fin
  split
  · exact h
  · have h1 := h.sum
    have h2 := h.pos
    exact lst_inv _ _ _ h (fun j hj => by omega) (by omega) (fun _ => by omega)
/-- least's loop, one round -/
theorem lst_next (b db k sh c : Nat) : lst b db (k + 1) sh c = lst b db k (sh - 1) (if c / 2 ^ (sh + db) % 2 = 1 then c ^^^ b * 2 ^ sh else c) := rfl
end BM
end Gf2
