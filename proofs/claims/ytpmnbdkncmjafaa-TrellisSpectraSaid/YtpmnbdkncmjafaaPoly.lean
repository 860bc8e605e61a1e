/- What the functions of package poly compute: products, degrees, long division, the greatest common divisor: by the plain words of Gf2. -/
import Derived.Test.YtpmnbdkncmjafaaRows
import Derived.Test.YtpmnbdkncmjafaaLong
import Derived.Test.YtpmnbdkncmjafaaShelf
namespace Go.Proofs.Ytpmnbdkncmjafaa
open Go.RowKit

theorem mulH_zero (a b : Nat) : mulH (a % 2 ^ 0) b = 0 := by unfold mulH; rw [Nat.pow_zero, Nat.mod_one, Gf2.cm_zero]
theorem mulL_zero (a b : Nat) : mulL (a % 2 ^ 0) b = 0 := by unfold mulL; rw [Nat.pow_zero, Nat.mod_one, Gf2.cm_zero]
theorem mul_lt {a b : Nat} (ha : a < 2 ^ 64) (hb : b < 2 ^ 64) : Gf2.cm a b < 2 ^ 64 * 2 ^ 64 := by
  have h2 := Gf2.len_le ha
  have h3 := Gf2.len_le hb
  rw [← Nat.pow_add]
  by_cases e : a = 0
  · rw [e, Gf2.cm_zero]; decide
  · by_cases e2 : b = 0
    · rw [e2, Gf2.cm_zero_right]; decide
    · have h4 := Gf2.len_cm e e2
      exact Gf2.lt_of_len (by omega)
theorem mulH_le {a b : Nat} (ha : a ≤ 18446744073709551615) (hb : b ≤ 18446744073709551615) : mulH a b ≤ 18446744073709551615 := by
  have := Nat.div_lt_of_lt_mul (mul_lt (a := a) (b := b) (by omega) (by omega))
  unfold mulH
  omega
theorem mulL_le (a b : Nat) : mulL a b ≤ 18446744073709551615 := by
  have := Nat.mod_lt (Gf2.cm a b) (show 0 < 2 ^ 64 by decide)
  unfold mulL
  omega
theorem mul_next (a b k : Nat) (ha : a ≤ 18446744073709551615) (hb : b ≤ 18446744073709551615) (hk : k < 64) (h : a / 2 ^ k % 2 = 1) :
    bits .xor .u64 (mulH (a % 2 ^ k) b : Int) ((b : Int) / 2 ^ (64 - k)) = (mulH (a % 2 ^ (k + 1)) b : Int) ∧
    bits .xor .u64 (mulL (a % 2 ^ k) b : Int) (IntKind.u64.wrap ((b : Int) * 2 ^ k)) = (mulL (a % 2 ^ (k + 1)) b : Int) := by
  rw [shrI, shlI64, xor64 (mulH_le (Nat.le_trans (Nat.mod_le _ _) ha) hb) (shr_le hb), xor64 (mulL_le _ _) (shl64_le _ _)]
  unfold mulH mulL
  rw [Gf2.cm_step, if_pos h, Gf2.xor_high, Gf2.xor_low, Gf2.shift_high (by omega)]
  exact ⟨rfl, rfl⟩
theorem mul_stay (a b k : Nat) (h : a / 2 ^ k % 2 = 0) : mulH (a % 2 ^ (k + 1)) b = mulH (a % 2 ^ k) b ∧ mulL (a % 2 ^ (k + 1)) b = mulL (a % 2 ^ k) b := by
  unfold mulH mulL
  rw [Gf2.cm_step, if_neg (by omega), Nat.xor_zero]
  exact ⟨rfl, rfl⟩

set_option maxHeartbeats 400000 in
theorem degree_any (a : Nat) (ha : a ≤ 18446744073709551615) (w : World) :
    Calls Try.prog 56 #[.int .u64 a] w fun e w' => e = .returned (.int .i64 ((Gf2.len a : Int) - 1)) ∧ w = w' := by
  have hl := len_le64 ha
  have hL := hide (bitLen_len ha)
  go_enter Try.func56, Try.ntmps56
  go_wp2_with fail
  refine (Try.bits_Len64 _ _ (by omega) (by omega)).mono ?_
  rw [Int.toNat_natCast, hL.out]
  rintro e w' ⟨rfl, rfl⟩
  go_wp2
  go_ret
  exact ⟨rfl, rfl⟩
/-- a's degree, where a is not 0 -/
theorem degree_nz (a d : Nat) (hd : Gf2.len a = d + 1) (ha : a ≤ 18446744073709551615) (w : World) :
    Calls Try.prog 56 #[.int .u64 a] w fun e w' => e = .returned (.int .i64 d) ∧ w = w' :=
  (degree_any a ha w).mono fun _ _ ⟨h1, h2⟩ => ⟨by rw [h1, hd]; congr 2; omega, h2⟩

/-- the low half of a quotient -/
def quoL (a b : Nat) : Nat := Gf2.quo a b % 2 ^ 64
def pair64 (hi lo : Nat) : Nat := hi * 2 ^ 64 + lo

set_option maxHeartbeats 400000 in
theorem long_any (hi lo b : Nat) (hhi : hi ≤ 18446744073709551615) (hlo : lo ≤ 18446744073709551615) (hb : b ≤ 18446744073709551615) (hb0 : b ≠ 0) (w : World) :
    Calls Try.prog 64 #[.int .u64 hi, .int .u64 lo, .int .u64 b] w fun e w' => e = .returned (.tuple #[.int .u64 (quoL (pair64 hi lo) b), .int .u64 (Gf2.rem (pair64 hi lo) b)]) ∧ w = w' := by
  obtain ⟨d, hd⟩ : ∃ d, Gf2.len b = d + 1 := ⟨_, Gf2.len_pos hb0⟩
  have hd64 : d < 64 := by have := len_le64 hb; omega
  have hD := hide hd
  have hB := hide hb0
  have hS := hide (LongA.start hhi hlo b)
  clear hd hb0
  go_enter Try.func64, Try.ntmps64
  go_wp2_with fail
  refine (degree_nz b d hD.out hb _).mono ?_
  rintro e w' ⟨rfl, rfl⟩
  go_wp2_with fail
  refine (degree_any hi hhi _).mono ?_
  rintro e w' ⟨rfl, rfl⟩
  go_wp2_with fail
  go_loop [0, 1, 6, 9] (fun h l q i => ∃ (H L q' m : Nat), LongA (pair64 hi lo) b m H L q' ∧ h = .int .u64 H ∧ l = .int .u64 L ∧ q = .int .u64 q' ∧ i = .int .i64 ((m : Int) - 1)) (fun _ _ _ i => (1 + intOf i).toNat)
  case atStart => exact ⟨hi, lo, 0, _, hS.out, rfl, rfl, rfl, rfl⟩
  case round =>
    obtain ⟨H, L, q, m, hrel, rfl, rfl, rfl, rfl⟩ := hrel
    have hm := hrel.m_le
    have hH := hrel.hi_le
    have hL := hrel.lo_le
    have hq := hrel.q_le
    have hR := hide hrel
    clear hrel hS
    rcases m with _ | n
    · go_wp2_with fail
      refine (degree_any L hL _).mono ?_
      rintro e w' ⟨rfl, rfl⟩
      go_wp2_with fail
      go_loop [1, 6, 11] (fun l q i => ∃ (L q' m : Nat), LongB (pair64 hi lo) b m L q' ∧ l = .int .u64 L ∧ q = .int .u64 q' ∧ i = .int .i64 ((m : Int) - 1)) (fun _ _ i => (1 + intOf i).toNat)
      case atStart => exact ⟨L, q, _, LongB.of hR.out, rfl, rfl, rfl⟩
      case round =>
        clear hR hL hq hH hm
        obtain ⟨L, q, m, hrel, rfl, rfl, rfl⟩ := hrel
        have hm := hrel.m_le
        have hL := hrel.lo_le
        have hq := hrel.q_le
        have hR := hide hrel
        clear hrel
        by_cases hdm : m ≤ d
        · go_wp2
          go_ret2
          obtain ⟨e1, e2⟩ := hR.out.done (by rw [hD.out]; omega)
          exact ⟨by unfold quoL; rw [← e1, ← e2]; rfl, rfl⟩
        · obtain ⟨n, hn⟩ : ∃ n, m = n + 1 := ⟨m - 1, by omega⟩
          subst hn
          rw [show (((n + 1 : Nat) : Int) - 1) = (n : Int) by omega]
          have hdn : d ≤ n := by omega
          clear hdm
          by_cases hbit : L / 2 ^ n % 2 = 1
          · have hb1 := bit64_ne n hL hbit
            have hN := hide (hR.out.next hB.out hD.out hbit hdn)
            clear hbit
            go_wp2
            obtain ⟨l', q', g1, g2, g3⟩ := hN.out
            go_round
            case rel => exact ⟨l', q', n, g1, by rw [g2], by rw [g3], rfl⟩
            case measure => simp [intOf]; omega
          · have hb1 := bit64_ne' n hL (by omega)
            have hN := hide (hR.out.stay (by omega))
            clear hbit
            go_wp2
            go_round
            case rel => exact ⟨L, q, n, hN.out, rfl, rfl, rfl⟩
            case measure => simp [intOf]; omega
    · rw [show (((n + 1 : Nat) : Int) - 1) = (n : Int) by omega]
      by_cases hbit : H / 2 ^ n % 2 = 1
      · have hb1 := bit64_eq' n hH hbit
        by_cases hdn : d ≤ n
        · have hN := hide (hR.out.big hB.out hD.out hbit hdn)
          clear hbit
          go_wp2
          obtain ⟨h', g1, g2⟩ := hN.out
          go_round
          case rel => exact ⟨h', L, q, n, g1, by rw [g2], rfl, rfl, rfl⟩
          case measure => simp [intOf]; omega
        · have hN := hide (hR.out.small hB.out hD.out hb hd64 hbit hdn)
          clear hbit
          go_wp2
          obtain ⟨h', l', q', g1, g2, g3, g4⟩ := hN.out
          go_round
          case rel => exact ⟨h', l', q', n, g1, by rw [g2], by rw [g3], by rw [g4], rfl⟩
          case measure => simp [intOf]; omega
      · have hb1 := bit64_eq n hH (by omega)
        have hN := hide (hR.out.stay (by omega))
        clear hbit
        go_wp2
        go_round
        case rel => exact ⟨H, L, q, n, hN.out, rfl, rfl, rfl, rfl⟩
        case measure => simp [intOf]; omega
theorem quoL_le (a b : Nat) : quoL a b ≤ 18446744073709551615 := mod64_le _
theorem rem_le {a b : Nat} (hb : b ≤ 18446744073709551615) (hb0 : b ≠ 0) : Gf2.rem a b ≤ 18446744073709551615 :=
  le_of_lt64 (Nat.lt_of_lt_of_le (Gf2.lt_len _) (Nat.pow_le_pow_right (by omega) (Nat.le_of_lt (Gf2.len_rem a hb0)))) (len_le64 hb)
theorem pair64_zero (a : Nat) : pair64 0 a = a := by unfold pair64; omega

set_option maxHeartbeats 400000 in
theorem rest_any (a b : Nat) (ha : a ≤ 18446744073709551615) (hb : b ≤ 18446744073709551615) (hb0 : b ≠ 0) (w : World) :
    Calls Try.prog 59 #[.int .u64 a, .int .u64 b] w fun e w' => e = .returned (.int .u64 (Gf2.rem a b)) ∧ w = w' := by
  have hL := hide (long_any 0 a b (by omega) ha hb hb0 w)
  clear hb0
  rw [pair64_zero] at hL
  go_enter Try.func59, Try.ntmps59
  go_wp2_with fail
  refine hL.out.mono ?_
  rintro e w' ⟨rfl, rfl⟩
  go_wp2
  go_ret
  exact ⟨rfl, rfl⟩

set_option maxHeartbeats 400000 in
theorem gcd_any (a b : Nat) (ha : a ≤ 18446744073709551615) (hb : b ≤ 18446744073709551615) (w : World) :
    Calls Try.prog 54 #[.int .u64 a, .int .u64 b] w fun e w' => e = .returned (.int .u64 (Gf2.gcd a b)) ∧ w = w' := by
  go_enter Try.func54, Try.ntmps54
  go_wp2_with fail
  go_loop [0, 1] (fun x y => ∃ a' b' : Nat, a' ≤ 18446744073709551615 ∧ b' ≤ 18446744073709551615 ∧ Gf2.gcd a' b' = Gf2.gcd a b ∧ x = .int .u64 a' ∧ y = .int .u64 b') (fun _ y => Gf2.len (intOf y).toNat)
  case atStart => exact ⟨a, b, ha, hb, rfl, rfl, rfl⟩
  case round =>
    clear ha hb
    obtain ⟨a', b', ha, hb, hg, rfl, rfl⟩ := hrel
    have hG := hide hg
    clear hg
    by_cases hb0 : b' = 0
    · subst hb0
      go_wp2
      go_ret
      exact ⟨by rw [← hG.out, Gf2.gcd_zero]; rfl, rfl⟩
    · have hne : ((b' : Int) != 0) = true := by rw [bne_iff_ne]; omega
      have hN := hide hb0
      have hr := rem_le (a := a') hb hb0
      clear hb0
      go_wp2_with fail
      refine (rest_any a' b' ha hb hN.out _).mono ?_
      rintro e w' ⟨rfl, rfl⟩
      go_wp2
      go_round
      case rel => exact ⟨b', _, hb, hr, by rw [← hG.out, Gf2.gcd_step a' hN.out], rfl, rfl⟩
      case measure => have := Gf2.len_rem a' hN.out; simpa [intOf] using this

end Go.Proofs.Ytpmnbdkncmjafaa
