/- outpostref02.Mul. -/
import Derived.Test.YtfjaohadjmigoaaDoorRows
import Derived.Test.YtfjaohadjmigoaaDoorRef2W
import Derived.Test.YtfjaohadjmigoaaDoorMul
namespace Go.Proofs.YtfjaohadjmigoaaDoor
open Go.RowKit

theorem mulH_first (a b : Nat) (hb : b ≤ 18446744073709551615) : mulH (a % 2 ^ (0 + 1)) b = mulH (a % 2 ^ 0) b := by
  unfold mulH
  rw [Gf2.cm_step, Nat.pow_zero, Nat.mod_one, Gf2.cm_zero, Nat.zero_xor, Nat.mul_one, Nat.zero_div]
  split
  · exact Nat.div_eq_of_lt (by omega)
  · rfl
set_option maxHeartbeats 400000 in
theorem rmul_any (a b : Nat) (ha : a ≤ 18446744073709551615) (hb : b ≤ 18446744073709551615) (w : World) :
    Calls Tryd.prog 43 #[.int .u64 a, .int .u64 b] w fun e w' => e = .returned (.tuple #[.int .u64 (mulH a b), .int .u64 (mulL a b)]) ∧ w = w' := by
  go_enter Tryd.func43, Tryd.ntmps43
  go_wp2_with fail
  go_loop [6, 7, 8] (fun h l i => ∃ k : Nat, k ≤ 64 ∧ h = .int .u64 (mulH (a % 2 ^ k) b) ∧ l = .int .u64 (mulL (a % 2 ^ k) b) ∧ i = .int .i64 k) (fun _ _ i => 64 - (intOf i).toNat)
  case atStart => exact ⟨0, by omega, by rw [mulH_zero]; rfl, by rw [mulL_zero]; rfl, rfl⟩
  case round =>
    obtain ⟨k, hk, rfl, rfl, rfl⟩ := hrel
    by_cases hlt : k < 64
    · by_cases hbit : a / 2 ^ k % 2 = 1
      · have hn := hide (mul_next a b k ha hb hlt hbit)
        have HC := hide (rbit_any a k k ha rfl (by omega))
        rw [hbit] at HC
        clear hbit
        by_cases h0 : k = 0
        · have hng : ¬ (0 : Int) < k := by omega
          have H0 := hide (show mulH (a % 2 ^ (k + 1)) b = mulH (a % 2 ^ k) b by rw [h0]; exact mulH_first a b hb)
          clear h0
          go_wp2_with fail
          refine (HC.out _).mono ?_
          rintro e w' ⟨rfl, rfl⟩
          go_wp2_with fail
          go_round
          case rel => exact ⟨k + 1, by omega, by rw [H0.out], by rw [hn.out.2], by go_num⟩
          case measure => simp [intOf]; omega
        · have hgt : (0 : Int) < k := by omega
          clear h0
          go_wp2_with fail
          refine (HC.out _).mono ?_
          rintro e w' ⟨rfl, rfl⟩
          go_wp2_with fail
          go_round
          case rel => exact ⟨k + 1, by omega, by rw [hn.out.1], by rw [hn.out.2], by go_num⟩
          case measure => simp [intOf]; omega
      · have hbit0 : a / 2 ^ k % 2 = 0 := by omega
        have hn := hide (mul_stay a b k hbit0)
        have HC := hide (rbit_any a k k ha rfl (by omega))
        rw [hbit0] at HC
        clear hbit hbit0
        go_wp2_with fail
        refine (HC.out _).mono ?_
        rintro e w' ⟨rfl, rfl⟩
        go_wp2_with fail
        go_round
        case rel => exact ⟨k + 1, by omega, by rw [hn.out.1], by rw [hn.out.2], by go_num⟩
        case measure => simp [intOf]; omega
    · go_wp2_with fail
      go_ret2
      obtain rfl : k = 64 := by omega
      have e : a % 2 ^ 64 = a := Nat.mod_eq_of_lt (by omega)
      exact ⟨by rw [e]; rfl, rfl⟩
end Go.Proofs.YtfjaohadjmigoaaDoor
