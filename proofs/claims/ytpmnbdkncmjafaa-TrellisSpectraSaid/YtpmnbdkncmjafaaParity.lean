/- outpostref07.parity, walked. -/
import Derived.Test.YtpmnbdkncmjafaaRows
import Derived.Test.YtpmnbdkncmjafaaStep
namespace Go.Proofs.Ytpmnbdkncmjafaa
open Go.RowKit

theorem par_bit (x k : Nat) : bits .xor .u8 ((Gf2.popF k x % 2 : Nat) : Int) ((x / 2 ^ k % 2 : Nat) : Int) = ((Gf2.popF (k + 1) x % 2 : Nat) : Int) := by
  have h := Gf2.popF_add k 1 x
  rw [show Gf2.popF 1 (x / 2 ^ k) = x / 2 ^ k % 2 from by simp [Gf2.popF]] at h
  have h1 : Gf2.popF k x % 2 = 0 ∨ Gf2.popF k x % 2 = 1 := by omega
  have h2 : x / 2 ^ k % 2 = 0 ∨ x / 2 ^ k % 2 = 1 := by omega
  have e : Gf2.popF (k + 1) x % 2 = (Gf2.popF k x % 2 + x / 2 ^ k % 2) % 2 := by omega
  rw [e]
  rcases h1 with h1 | h1 <;> rcases h2 with h2 | h2 <;> rw [h1, h2] <;> rfl
theorem par_end {x k : Nat} (h : x / 2 ^ k = 0) (hk : k ≤ 32) : Gf2.popF k x % 2 = Gf2.par x := by
  unfold Gf2.par
  have e := Gf2.popF_add k (32 - k) x
  rw [h, Gf2.popF_zero, show k + (32 - k) = 32 by omega] at e
  omega
theorem par_more {x k : Nat} (hx : x ≤ 4294967295) (h : x / 2 ^ k ≠ 0) : k < 32 := by
  refine Decidable.byContradiction fun hk => h (Nat.div_eq_of_lt ?_)
  have := Nat.pow_le_pow_right (n := 2) (by omega) (show 32 ≤ k by omega)
  omega

theorem parity_any (x : Nat) (hx : x ≤ 4294967295) (w : World) :
    Calls Try.prog 58 #[.int .u32 x] w fun e w' => e = .returned (.int .u8 (Gf2.par x)) ∧ w = w' := by
  go_enter Try.func58, Try.ntmps58
  go_wp2_with fail
  go_loop [0, 3] (fun v p => ∃ k : Nat, k ≤ 32 ∧ v = .int .u32 (x / 2 ^ k : Nat) ∧ p = .int .u8 (Gf2.popF k x % 2 : Nat)) (fun v _ => (intOf v).toNat)
  case atStart => exact ⟨0, by omega, by simp, by simp [Gf2.popF]⟩
  case round =>
    obtain ⟨k, hk, rfl, rfl⟩ := hrel
    by_cases hz : x / 2 ^ k = 0
    · have he := par_end hz hk
      rw [hz, he]
      clear hz he
      go_wp2_with fail
      go_ret
      exact ⟨rfl, rfl⟩
    · have hk2 := par_more hx hz
      have hb := hide (par_bit x k)
      have hq : x / 2 ^ k ≤ 4294967295 := Nat.le_trans (Nat.div_le_self _ _) hx
      have hn := hide (show x / 2 ^ (k + 1) = x / 2 ^ k / 2 by rw [Nat.pow_succ, Nat.div_div_eq_div_mul])
      have hbe := zNe hz
      generalize x / 2 ^ k = q at *
      go_wp2_with fail
      go_round
      case rel => exact ⟨k + 1, by omega, by rw [hn.out]; simp, by rw [← hb.out]; simp⟩
      case measure => simp [intOf]; omega
end Go.Proofs.Ytpmnbdkncmjafaa
