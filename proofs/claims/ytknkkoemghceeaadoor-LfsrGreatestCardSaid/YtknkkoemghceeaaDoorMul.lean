/- poly.Mul. -/
import Derived.Test.YtknkkoemghceeaaDoorPoly
namespace Go.Proofs.YtknkkoemghceeaaDoor
open Go.RowKit

set_option maxHeartbeats 400000 in
theorem mul_any (a b : Nat) (ha : a ≤ 18446744073709551615) (hb : b ≤ 18446744073709551615) (w : World) :
    Calls Tryd.prog 85 #[.int .u64 a, .int .u64 b] w fun e w' => e = .returned (.tuple #[.int .u64 (mulH a b), .int .u64 (mulL a b)]) ∧ w = w' := by
  go_enter Tryd.func85, Tryd.ntmps85
  go_wp2
  go_loop [4, 5, 7] (fun h l i => ∃ k : Nat, k ≤ 64 ∧ h = .int .u64 (mulH (a % 2 ^ k) b) ∧ l = .int .u64 (mulL (a % 2 ^ k) b) ∧ i = .int .i64 k) (fun _ _ i => 64 - (intOf i).toNat)
  case atStart => exact ⟨0, by omega, by rw [mulH_zero]; rfl, by rw [mulL_zero]; rfl, rfl⟩
  case round =>
    obtain ⟨k, hk, rfl, rfl, rfl⟩ := hrel
    by_cases hlt : k < 64
    · by_cases hbit : a / 2 ^ k % 2 = 1
      · have hb1 := bit64_ne k ha hbit
        have hn := hide (mul_next a b k ha hb hlt hbit)
        clear hbit
        go_wp2
        go_round
        case rel => exact ⟨k + 1, by omega, by rw [hn.out.1], by rw [hn.out.2], by go_num⟩
        case measure => simp [intOf]; omega
      · have hb1 := bit64_ne' k ha (by omega)
        have hn := hide (mul_stay a b k (by omega))
        clear hbit
        go_wp2
        go_round
        case rel => exact ⟨k + 1, by omega, by rw [hn.out.1], by rw [hn.out.2], by go_num⟩
        case measure => simp [intOf]; omega
    · go_wp2
      go_ret2
      obtain rfl : k = 64 := by omega
      have e : a % 2 ^ 64 = a := Nat.mod_eq_of_lt (by omega)
      exact ⟨by rw [e]; rfl, rfl⟩
end Go.Proofs.YtknkkoemghceeaaDoor
