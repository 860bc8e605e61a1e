/- outpostref02: Mul, MulMod, PowMod with x: by the plain words of Gf2. -/
import Derived.Test.YtknkkoemghceeaaDoorRows
import Derived.Test.YtknkkoemghceeaaDoorRef2W
import Derived.Test.YtknkkoemghceeaaDoorAct
namespace Go.Proofs.YtknkkoemghceeaaDoor
open Go.RowKit

theorem mulH_first (a b : Nat) (hb : b ≤ 18446744073709551615) : mulH (a % 2 ^ (0 + 1)) b = mulH (a % 2 ^ 0) b := by
  unfold mulH
  rw [Gf2.cm_step, Nat.pow_zero, Nat.mod_one, Gf2.cm_zero, Nat.zero_xor, Nat.mul_one, Nat.zero_div]
  split
  · exact Nat.div_eq_of_lt (by omega)
  · rfl
set_option maxHeartbeats 400000 in
theorem rmul_any (a b : Nat) (ha : a ≤ 18446744073709551615) (hb : b ≤ 18446744073709551615) (w : World) :
    Calls Tryd.prog 84 #[.int .u64 a, .int .u64 b] w fun e w' => e = .returned (.tuple #[.int .u64 (mulH a b), .int .u64 (mulL a b)]) ∧ w = w' := by
  go_enter Tryd.func84, Tryd.ntmps84
  go_wp2_with fail
  go_loop [6, 7, 8] (fun h l i => ∃ k : Nat, k ≤ 64 ∧ h = .int .u64 (mulH (a % 2 ^ k) b) ∧ l = .int .u64 (mulL (a % 2 ^ k) b) ∧ i = .int .i64 k) (fun _ _ i => 64 - (intOf i).toNat)
  case atStart => exact ⟨0, by omega, by rw [mulH_zero]; rfl, by rw [mulL_zero]; rfl, rfl⟩
  case round =>
    obtain ⟨k, hk, rfl, rfl, rfl⟩ := hrel
    by_cases hlt : k < 64
    · by_cases hbit : a / 2 ^ k % 2 = 1
      · have hn := hide (mul_next a b k ha hb hlt hbit)
        have HC := hide (rbit_any a k k ha rfl (by omega))
        rw [hbit] at HC
        clear hbit
        by_cases h0 : k = 0
        · have hng : ¬ (0 : Int) < k := by omega
          have H0 := hide (show mulH (a % 2 ^ (k + 1)) b = mulH (a % 2 ^ k) b by rw [h0]; exact mulH_first a b hb)
          clear h0
          go_wp2_with fail
          refine (HC.out _).mono ?_
          rintro e w' ⟨rfl, rfl⟩
          go_wp2_with fail
          go_round
          case rel => exact ⟨k + 1, by omega, by rw [H0.out], by rw [hn.out.2], by go_num⟩
          case measure => simp [intOf]; omega
        · have hgt : (0 : Int) < k := by omega
          clear h0
          go_wp2_with fail
          refine (HC.out _).mono ?_
          rintro e w' ⟨rfl, rfl⟩
          go_wp2_with fail
          go_round
          case rel => exact ⟨k + 1, by omega, by rw [hn.out.1], by rw [hn.out.2], by go_num⟩
          case measure => simp [intOf]; omega
      · have hbit0 : a / 2 ^ k % 2 = 0 := by omega
        have hn := hide (mul_stay a b k hbit0)
        have HC := hide (rbit_any a k k ha rfl (by omega))
        rw [hbit0] at HC
        clear hbit hbit0
        go_wp2_with fail
        refine (HC.out _).mono ?_
        rintro e w' ⟨rfl, rfl⟩
        go_wp2_with fail
        go_round
        case rel => exact ⟨k + 1, by omega, by rw [hn.out.1], by rw [hn.out.2], by go_num⟩
        case measure => simp [intOf]; omega
    · go_wp2_with fail
      go_ret2
      obtain rfl : k = 64 := by omega
      have e : a % 2 ^ 64 = a := Nat.mod_eq_of_lt (by omega)
      exact ⟨by rw [e]; rfl, rfl⟩
theorem pair_mul (a b : Nat) : pair64 (mulH a b) (mulL a b) = Gf2.cm a b := by
  unfold pair64 mulH mulL
  exact Gf2.join_of _ _
set_option maxHeartbeats 400000 in
theorem rmulmod_any (a b m : Nat) (ha : a ≤ 18446744073709551615) (hb : b ≤ 18446744073709551615) (hm : m ≤ 18446744073709551615) (h0 : m ≠ 0) (w : World) :
    Calls Tryd.prog 78 #[.int .u64 a, .int .u64 b, .int .u64 m] w fun e w' => e = .returned (.tuple #[.int .u64 (Gf2.rem (Gf2.cm a b) m : Nat), .int .i64 0]) ∧ w = w' := by
  have HM := hide (rmul_any a b ha hb)
  have HW := hide (whole_any (mulH a b) (mulL a b) m (mulH_le ha hb) (mulL_le a b) hm h0)
  rw [pair_mul] at HW
  generalize mulH a b = h at *
  generalize mulL a b = l at *
  generalize Gf2.rem (Gf2.cm a b) m = r at *
  generalize quoL (Gf2.cm a b) m = q at *
  have hmb : ((m : Int) == 0) = false := by rw [beq_eq_false_iff_ne]; omega
  have hmn : ¬ (m : Int) = 0 := by omega
  clear ha hb hm h0
  go_enter Tryd.func78, Tryd.ntmps78
  go_wp2_with fail
  refine (HM.out _).mono ?_
  rintro e w' ⟨rfl, rfl⟩
  go_wp2_with fail
  refine (HW.out _).mono ?_
  rintro e w' ⟨rfl, rfl⟩
  go_wp2_with fail
  go_ret2
  exact ⟨rfl, rfl⟩
theorem twice_bit (k n : Nat) : k / 2 ^ n = 2 * (k / 2 ^ (n + 1)) + k / 2 ^ n % 2 := by
  rw [Nat.pow_succ, ← Nat.div_div_eq_div_mul]; omega
set_option maxHeartbeats 400000 in
/-- x to the k, modulo a register's polynomial, acts as k steps do -/
theorem rpowmod_any (D T k : Nat) (hD : 1 ≤ D) (hD30 : D ≤ 30) (hT : T < 2 ^ D) (hk : k ≤ 18446744073709551615) (w : World) :
    Calls Tryd.prog 60 #[.int .u64 2, .int .u64 k, .int .u64 ((2 ^ D + T : Nat) : Int)] w fun e w' => (∃ q : Nat, Gf2.Goes D T q k ∧ q < 2 ^ D ∧ e = .returned (.tuple #[.int .u64 q, .int .i64 0])) ∧ w = w' := by
  have hm : 2 ^ D + T ≤ 2147483647 := by
    have : 2 ^ D ≤ 2 ^ 30 := Nat.pow_le_pow_right (by omega) hD30
    omega
  have hm0 : 2 ^ D + T ≠ 0 := by omega
  have H1 := hide (whole_any 0 1 (2 ^ D + T) (by omega) (by omega) (by omega) hm0)
  rw [pair64_zero] at H1
  have HMM := hide (fun (a b : Nat) (ha : a ≤ 18446744073709551615) (hb : b ≤ 18446744073709551615) => rmulmod_any a b (2 ^ D + T) ha hb (by omega) hm0)
  have HG0 := hide (Gf2.Goes.one hD hD30 hT)
  have HG2 := hide (fun q k (h : Gf2.Goes D T q k) => h.twice hD hD30 hT)
  have HG3 := hide (fun q k (h : Gf2.Goes D T q k) => h.next hD hD30 hT)
  have HL := hide (fun q => Gf2.rem_pol hT q)
  have h2D : 2 ^ D ≤ 2147483647 := by omega
  generalize 2 ^ D + T = m at *
  generalize 2 ^ D = P at *
  have hmb : ((m : Int) == 0) = false := by rw [beq_eq_false_iff_ne]; omega
  have hmn : ¬ (m : Int) = 0 := by omega
  generalize quoL 1 m = q0 at *
  clear hD hD30 hT hm hm0
  go_enter Tryd.func60, Tryd.ntmps60
  go_wp2_with fail
  refine (H1.out _).mono ?_
  rintro e w' ⟨rfl, rfl⟩
  have h00 := hide (show Gf2.Goes D T (Gf2.rem 1 m) (k / 2 ^ 64) by rw [Nat.div_eq_of_lt (by omega)]; exact HG0.out)
  have hl0 := HL.out 1
  generalize Gf2.rem 1 m = x0 at *
  go_wp2_with fail
  go_loop [9, 10] (fun x i => ∃ (n q : Nat), n ≤ 64 ∧ Hid (Gf2.Goes D T q (k / 2 ^ n)) ∧ q < P ∧ x = .int .u64 q ∧ i = .int .i64 ((n : Int) - 1)) (fun _ i => (1 + intOf i).toNat)
  case atStart => exact ⟨64, x0, by omega, h00, hl0, rfl, rfl⟩
  case round =>
    obtain ⟨n, q, hn, hg, hq, rfl, rfl⟩ := hrel
    rcases n with _ | n
    · go_wp2_with fail
      go_ret2
      have := hg.out
      rw [Nat.pow_zero, Nat.div_one] at this
      exact ⟨⟨q, this, hq, rfl⟩, rfl⟩
    · rw [show (((n + 1 : Nat) : Int) - 1) = (n : Int) by omega]
      have HQ := hide (HMM.out q q (by omega) (by omega))
      have hg2 := hide (HG2.out _ _ hg.out)
      have hl2 := HL.out (Gf2.cm q q)
      generalize Gf2.rem (Gf2.cm q q) m = q2 at *
      have HQ3 := hide (HMM.out q2 2 (by omega) (by omega))
      have hg3 := hide (HG3.out _ _ hg2.out)
      have hl3 := HL.out (Gf2.cm q2 2)
      generalize Gf2.rem (Gf2.cm q2 2) m = q3 at *
      have HB := hide (rbit_any k n n hk rfl (by omega))
      have ht := twice_bit k n
      by_cases hb : k / 2 ^ n % 2 = 1
      · rw [hb] at HB
        have HE := hide (show Gf2.Goes D T q3 (k / 2 ^ n) by rw [ht, hb]; exact hg3.out)
        clear hb ht
        go_wp2_with fail
        refine (HQ.out _).mono ?_
        rintro e w' ⟨rfl, rfl⟩
        go_wp2_with fail
        refine (HB.out _).mono ?_
        rintro e w' ⟨rfl, rfl⟩
        go_wp2_with fail
        refine (HQ3.out _).mono ?_
        rintro e w' ⟨rfl, rfl⟩
        go_wp2_with fail
        go_round
        case rel => exact ⟨n, q3, by omega, HE, hl3, rfl, rfl⟩
        case measure => simp [intOf]; omega
      · have hb0 : k / 2 ^ n % 2 = 0 := by omega
        rw [hb0] at HB
        have HE := hide (show Gf2.Goes D T q2 (k / 2 ^ n) by rw [ht, hb0]; exact hg2.out)
        clear hb hb0 ht
        go_wp2_with fail
        refine (HQ.out _).mono ?_
        rintro e w' ⟨rfl, rfl⟩
        go_wp2_with fail
        refine (HB.out _).mono ?_
        rintro e w' ⟨rfl, rfl⟩
        go_wp2_with fail
        go_round
        case rel => exact ⟨n, q2, by omega, HE, hl2, rfl, rfl⟩
        case measure => simp [intOf]; omega
end Go.Proofs.YtknkkoemghceeaaDoor
