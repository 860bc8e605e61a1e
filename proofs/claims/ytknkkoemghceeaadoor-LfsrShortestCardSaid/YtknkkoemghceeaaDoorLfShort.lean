/- lfsr.Shortest of a row of bits, walked. -/
import Derived.Test.YtknkkoemghceeaaDoorRows
import Derived.Test.YtknkkoemghceeaaDoorLfLeast
import Derived.Test.YtknkkoemghceeaaDoorBytes
namespace Go.Proofs.YtknkkoemghceeaaDoor
open Go.RowKit
open Gf2.BM

theorem xorB {a b : Nat} (ha : a ≤ 1) (hb : b ≤ 1) : bits .xor .u8 (a : Int) (b : Int) = ((a ^^^ b : Nat) : Int) := by
  have h1 : a = 0 ∨ a = 1 := by omega
  have h2 : b = 0 ∨ b = 1 := by omega
  rcases h1 with rfl | rfl <;> rcases h2 with rfl | rfl <;> decide +kernel
theorem step_no {S n : Nat} (h : dsc S (run S n).c n = false) : (run S (n + 1)).c = (run S n).c ∧ (run S (n + 1)).b = (run S n).b ∧ (run S (n + 1)).L = (run S n).L ∧ (run S (n + 1)).m = (run S n).m + 1 := by
  show (Gf2.BM.step S n (run S n)).c = _ ∧ (Gf2.BM.step S n (run S n)).b = _ ∧ (Gf2.BM.step S n (run S n)).L = _ ∧ (Gf2.BM.step S n (run S n)).m = _
  unfold Gf2.BM.step
  rw [if_pos h]
  exact ⟨rfl, rfl, rfl, rfl⟩
theorem step_up {S n : Nat} (h : dsc S (run S n).c n = true) (h2 : 2 * (run S n).L ≤ n) : (run S (n + 1)).c = (run S n).c ^^^ (run S n).b * 2 ^ (run S n).m ∧ (run S (n + 1)).b = (run S n).c ∧ (run S (n + 1)).L = n + 1 - (run S n).L ∧ (run S (n + 1)).m = 1 := by
  show (Gf2.BM.step S n (run S n)).c = _ ∧ (Gf2.BM.step S n (run S n)).b = _ ∧ (Gf2.BM.step S n (run S n)).L = _ ∧ (Gf2.BM.step S n (run S n)).m = _
  unfold Gf2.BM.step
  rw [if_neg (by simp [h]), if_pos h2]
  exact ⟨rfl, rfl, rfl, rfl⟩
theorem step_on {S n : Nat} (h : dsc S (run S n).c n = true) (h2 : ¬ 2 * (run S n).L ≤ n) : (run S (n + 1)).c = (run S n).c ^^^ (run S n).b * 2 ^ (run S n).m ∧ (run S (n + 1)).b = (run S n).b ∧ (run S (n + 1)).L = (run S n).L ∧ (run S (n + 1)).m = (run S n).m + 1 := by
  show (Gf2.BM.step S n (run S n)).c = _ ∧ (Gf2.BM.step S n (run S n)).b = _ ∧ (Gf2.BM.step S n (run S n)).L = _ ∧ (Gf2.BM.step S n (run S n)).m = _
  unfold Gf2.BM.step
  rw [if_neg (by simp [h]), if_neg h2]
  exact ⟨rfl, rfl, rfl, rfl⟩
theorem run_deg (S n : Nat) : (run S n).c < 2 ^ ((run S n).L + 1) := by
  obtain ⟨lb, h⟩ := run_inv S n
  exact h.deg
theorem run_shifts {S n : Nat} (hn : n ≤ 63) : ∀ sh, sh + n + 1 ≤ (run S n).m + 2 * (run S n).L → (run S n).b * 2 ^ sh < 2 ^ 64 := by
  intro sh hs
  obtain ⟨lb, h⟩ := run_inv S n
  have h1 := h.sum
  have h4 := run_le S n
  have h3 : (run S n).b * 2 ^ sh < 2 ^ (lb + 1) * 2 ^ sh := Nat.mul_lt_mul_of_pos_right h.bdeg (Nat.two_pow_pos _)
  rw [← Nat.pow_add] at h3
  exact Nat.lt_of_lt_of_le h3 (Nat.pow_le_pow_right (by omega) (by omega))
theorem least_fin (S n : Nat) (hn : n ≤ 63) (w : World) :
    Calls Tryd.prog 67 #[.int .u64 (run S n).c, .int .u64 (run S n).b, .int .i64 (run S n).m, .int .i64 (run S n).L, .int .i64 n] w fun e w' => e = .returned (.int .u64 (fin S n)) ∧ w = w' := by
  have h1 := run_c64 (S := S) hn
  have h2 := run_b64 (S := S) hn
  have h3 := run_le S n
  have h4 := run_m (S := S) (n := n)
  have h5 := run_b S n
  exact least_any (run S n).c (run S n).b (run S n).m (run S n).L n (by omega) (by omega) (fun e => by omega) ⟨h4.1, by omega⟩ (by omega) hn (run_shifts hn) w
set_option maxHeartbeats 4000000 in
theorem shortest_ok (ad : Option Addr) (cp : Nat) (xs : List Nat) (hl : xs.length ≤ 63) (hx : ∀ i, xs.getD i 0 ≤ 1) (w : World) (hr : RowA w ad xs) :
    Calls Tryd.prog 47 #[.slice ad xs.length cp] w fun e w' => e = .returned (.tuple #[.int .i64 ((run (rowN xs) xs.length).L : Nat), .int .u64 (fin (rowN xs) xs.length : Nat), .int .i64 0]) ∧ w = w' := by
  have HO := hide hx
  have HR := hide hr
  have HB := hide fun i => rowN_at hx i
  have hlx : xs.length ≤ 63 := hl
  clear hx hr
  generalize hS : rowN xs = S at *
  go_enter Tryd.func47, Tryd.ntmps47
  go_wp2_with fail
  go_loop [20] (fun i => ∃ k : Nat, k ≤ xs.length ∧ i = .int .i64 k) (fun i => xs.length - (intOf i).toNat)
  case atStart => exact ⟨0, by omega, rfl⟩
  case round =>
    obtain ⟨k, hk, rfl⟩ := hrel
    by_cases hlt : k < xs.length
    · obtain ⟨b, off, rfl, _, hc⟩ := HR.out.at_ hlt
      have h1 := HO.out k
      generalize xs.getD k 0 = y at *
      go_wp2_with fail
      go_round
      case rel => exact ⟨k + 1, by omega, by simp⟩
      case measure => simp [intOf]; omega
    · obtain rfl : k = xs.length := by omega
      clear hk hlt
      go_wp2_with fail
      go_loop [7, 8, 9, 10, 29] (fun c b l m i => ∃ k : Nat, k ≤ xs.length ∧ i = .int .i64 k ∧ c = .int .u64 (run S k).c ∧ b = .int .u64 (run S k).b ∧ l = .int .i64 (run S k).L ∧ m = .int .i64 (run S k).m) (fun _ _ _ _ i => xs.length - (intOf i).toNat)
      case atStart => exact ⟨0, by omega, rfl, rfl, rfl, rfl, rfl⟩
      case round =>
        obtain ⟨k, hk, rfl, rfl, rfl, rfl, rfl⟩ := hrel
        have hc64 := run_c64 (S := S) (n := k) (by omega)
        have hb64 := run_b64 (S := S) (n := k) (by omega)
        have hLk := run_le S k
        have hmk := run_m (S := S) (n := k)
        by_cases hlt : k < xs.length
        · have hdeg := hide (run_deg S k)
          have hpd := hide (fun n => Gf2.BM.part_done (S := S) (n := n) (run_deg S k))
          have hsh := run_shift (S := S) (n := k) (by omega)
          have HNO := hide (step_no (S := S) (n := k))
          have HUP := hide (step_up (S := S) (n := k))
          have HON := hide (step_on (S := S) (n := k))
          have HC := hide (show (run S k).c ≤ 18446744073709551615 by omega)
          generalize (run S k).c = c at *
          generalize (run S k).b = b at *
          generalize (run S k).L = L at *
          generalize (run S k).m = m at *
          go_wp2_with fail
          go_loop [12, 13] (fun d i => ∃ j : Nat, j ≤ L + 1 ∧ d = .int .u8 (Gf2.BM.part S c k j : Nat) ∧ i = .int .i64 j) (fun _ i => L + 1 - (intOf i).toNat)
          case atStart => exact ⟨0, by omega, by rw [Gf2.BM.part_zero]; rfl, rfl⟩
          case round =>
            obtain ⟨j, hj, rfl, rfl⟩ := hrel
            by_cases hjL : j ≤ L
            · have hmin : min j 64 = j := by omega
              have hp1 := Gf2.BM.part_le S c k j
              by_cases hbit : c / 2 ^ j % 2 = 1
              · have hbt := bit64_ne j HC.out hbit
                by_cases hjk : j ≤ k
                · have HP := hide (Gf2.BM.part_yes (S := S) hbit hjk)
                  rw [HB.out] at HP
                  obtain ⟨bb, off, rfl, _, hcell⟩ := HR.out.at_ (i := k - j) (by omega)
                  have h1 := HO.out (k - j)
                  have hki : IntKind.i64.wrap ((k : Int) - j) = ((k - j : Nat) : Int) := by rw [IntWalk.i64_in _ ⟨by omega, by omega⟩]; omega
                  have hki2 : (k : Int) - j = ((k - j : Nat) : Int) := by omega
                  have hlkj : k - j < xs.length := by omega
                  generalize xs.getD (k - j) 0 = y at *
                  have hxo := xorB hp1 h1
                  rw [← HP.out] at hxo
                  generalize k - j = kj at *
                  generalize Gf2.BM.part S c k j = p at *
                  clear hbit
                  go_wp2_with fail
                  go_round
                  case rel => exact ⟨j + 1, by omega, by first | rfl | rw [hxo], by simp⟩
                  case measure => simp [intOf]; omega
                · have HP := hide (Gf2.BM.part_no (S := S) (n := k) (c := c) (i := j) (.inr (by omega)))
                  generalize Gf2.BM.part S c k j = p at *
                  clear hbit
                  go_wp2_with fail
                  go_round
                  case rel => exact ⟨j + 1, by omega, by first | rfl | rw [HP.out], by simp⟩
                  case measure => simp [intOf]; omega
              · have hbit0 : c / 2 ^ j % 2 = 0 := by omega
                have hbt := bit64_ne' j HC.out hbit0
                have HP := hide (Gf2.BM.part_no (S := S) (n := k) (c := c) (i := j) (.inl hbit0))
                generalize Gf2.BM.part S c k j = p at *
                clear hbit hbit0
                go_wp2_with fail
                go_round
                case rel => exact ⟨j + 1, by omega, by first | rfl | rw [HP.out], by simp⟩
                case measure => simp [intOf]; omega
            · obtain rfl : j = L + 1 := by omega
              rw [hpd.out k]
              have hsl := shlI64 b m
              rw [Nat.mod_eq_of_lt hsh] at hsl
              have hmin : min m 64 = m ∨ 64 < m := by omega
              have HX := hide (xor64 HC.out (show b * 2 ^ m ≤ 18446744073709551615 by omega))
              cases hd : dsc S c k with
              | false =>
                obtain ⟨q1, q2, q3, q4⟩ := HNO.out hd
                clear hd HNO HUP HON hpd
                go_wp2_with fail
                go_round
                case rel => exact ⟨k + 1, by omega, by simp, by rw [q1], by rw [q2], by rw [q3], by rw [q4]; simp⟩
                case measure => simp [intOf]; omega
              | true =>
                by_cases h2L : 2 * L ≤ k
                · have hle : (2 : Int) * L ≤ k := by omega
                  obtain ⟨q1, q2, q3, q4⟩ := HUP.out hd h2L
                  clear hd HNO HUP HON hpd h2L
                  go_wp2_with fail
                  go_round
                  case rel => exact ⟨k + 1, by omega, by simp, by rw [q1, ← HX.out, Int.natCast_mul, Int.natCast_pow]; rfl, by rw [q2], by rw [q3]; congr 1; omega, by rw [q4]; rfl⟩
                  case measure => simp [intOf]; omega
                · have hle : ¬ (2 : Int) * L ≤ k := by omega
                  obtain ⟨q1, q2, q3, q4⟩ := HON.out hd h2L
                  clear hd HNO HUP HON hpd h2L
                  go_wp2_with fail
                  go_round
                  case rel => exact ⟨k + 1, by omega, by simp, by rw [q1, ← HX.out, Int.natCast_mul, Int.natCast_pow]; rfl, by rw [q2], by rw [q3], by rw [q4]; simp⟩
                  case measure => simp [intOf]; omega
        · obtain rfl : k = xs.length := by omega
          have HL := hide (least_fin S xs.length hlx)
          go_wp2_with fail
          refine (HL.out _).mono ?_
          rintro e w' ⟨rfl, rfl⟩
          go_wp2_with fail
          go_ret3
          exact ⟨rfl, rfl⟩
end Go.Proofs.YtknkkoemghceeaaDoor
