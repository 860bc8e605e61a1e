/- outpostref02.Reverse, walked. -/
import Derived.Test.YtknkkoemghceeaaDoorRows
import Derived.Test.YtknkkoemghceeaaDoorRevM
import Derived.Test.YtknkkoemghceeaaDoorRef2W
namespace Go.Proofs.YtknkkoemghceeaaDoor
open Go.RowKit

theorem revK_le {n a k : Nat} (hn : n ≤ 63) (hk : k ≤ n + 1) : Rev.revK n a k ≤ 18446744073709551615 := by
  have : Rev.revK n a k < 2 ^ (n + 1) := by
    refine Nat.lt_pow_two_of_testBit _ fun i hi => ?_
    rw [Rev.revK_bit n a k hk]
    simp [show ¬ i ≤ n by omega]
  have h2 : 2 ^ (n + 1) ≤ 2 ^ 64 := Nat.pow_le_pow_right (by omega) (by omega)
  omega
theorem shl_small {x s : Nat} (hx : x ≤ 1) (hs : s ≤ 63) : x * 2 ^ s % 2 ^ 64 = x * 2 ^ s := by
  refine Nat.mod_eq_of_lt ?_
  have h1 : x * 2 ^ s ≤ 1 * 2 ^ s := Nat.mul_le_mul_right _ hx
  have h2 : 2 ^ s ≤ 2 ^ 63 := Nat.pow_le_pow_right (by omega) hs
  have h3 : (2 : Nat) ^ 63 < 2 ^ 64 := by decide
  omega
set_option maxHeartbeats 1000000 in
theorem rrev2_ok (a n : Nat) (hn : n ≤ 63) (hl : Gf2.len a ≤ n + 1) (ha : a ≤ 18446744073709551615) (w : World) :
    Calls Tryd.prog 51 #[.int .u64 a, .int .i64 n] w fun e w' => e = .returned (.tuple #[.int .u64 (Rev.revP n a : Nat), .int .i64 0]) ∧ w = w' := by
  have HD := hide (rdegree_any a ha)
  have hgt : ¬ (n : Int) < (Gf2.len a : Int) - 1 := by omega
  have hng : ¬ (n : Int) < 0 := by omega
  have h63 : ¬ (63 : Int) < n := by omega
  generalize Gf2.len a = la at *
  clear hl
  go_enter Tryd.func51, Tryd.ntmps51
  go_wp2_with fail
  refine (HD.out _).mono ?_
  rintro e w' ⟨rfl, rfl⟩
  go_wp2_with fail
  go_loop [6, 7] (fun r i => ∃ k : Nat, k ≤ n + 1 ∧ r = .int .u64 (Rev.revK n a k : Nat) ∧ i = .int .i64 k) (fun _ i => n + 1 - (intOf i).toNat)
  case atStart => exact ⟨0, by omega, rfl, rfl⟩
  case round =>
    obtain ⟨k, hk, rfl, rfl⟩ := hrel
    by_cases hkn : k = n + 1
    · have hlt : ¬ (k : Int) ≤ n := by omega
      have HK := hide hkn
      clear hkn
      go_wp2_with fail
      go_ret2
      exact ⟨by rw [HK.out]; rfl, rfl⟩
    · have hlt : (k : Int) ≤ n := by omega
      have HB := hide (rbit_any a k k ha rfl (by omega))
      have hbl : a / 2 ^ k % 2 ≤ 1 := by omega
      have hws : IntKind.i64.wrap ((n : Int) - k) = ((n - k : Nat) : Int) := by rw [IntWalk.i64_in _ ⟨by omega, by omega⟩]; omega
      have hwv : IntKind.u64.wrap ((n - k : Nat) : Int) = ((n - k : Nat) : Int) := IntWalk.u64_in _ ⟨by omega, by omega⟩
      have hsh := shlI64 (a / 2 ^ k % 2) (n - k)
      rw [shl_small hbl (by omega)] at hsh
      have hsl : (a / 2 ^ k % 2) * 2 ^ (n - k) ≤ 18446744073709551615 := by
        have := shl_small hbl (s := n - k) (by omega)
        have h2 := shl64_le (a / 2 ^ k % 2) (n - k)
        omega
      have hor := or64 (revK_le (a := a) hn (k := k) (by omega)) hsl
      have HN := hide (show Rev.revK n a (k + 1) = Rev.revK n a k ||| (a / 2 ^ k % 2) * 2 ^ (n - k) from rfl)
      have hmin : min (n - k) 64 = n - k := by omega
      generalize a / 2 ^ k % 2 = x at *
      generalize Rev.revK n a k = rk at *
      have h64 : n - k < 64 := by omega
      generalize n - k = v at *
      clear hkn
      go_wp2_with fail
      refine (HB.out _).mono ?_
      rintro e w' ⟨rfl, rfl⟩
      go_wp2_with fail
      go_round
      case rel => exact ⟨k + 1, by omega, by rw [HN.out, ← hor, Int.natCast_mul, Int.natCast_pow]; rfl, by go_num⟩
      case measure => simp [intOf]; omega
end Go.Proofs.YtknkkoemghceeaaDoor
