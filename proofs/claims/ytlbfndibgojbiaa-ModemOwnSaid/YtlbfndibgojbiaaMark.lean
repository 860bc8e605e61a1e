/- marker.Check, Row, outpostref22.Check, Row, walked. -/
import Derived.Test.YtlbfndibgojbiaaRows
import Derived.Test.YtlbfndibgojbiaaSpan
import Derived.Test.YtlbfndibgojbiaaMB
namespace Go.Proofs.Ytlbfndibgojbiaa
open Go.RowKit

/-- the error of a marker -/
def markF (B : Nat) (L : Int) : Int := if L < 1 ∨ 64 < L then 220 else if L < 64 ∧ B / 2 ^ L.toNat ≠ 0 then 220 else 0
theorem markF_zero {B : Nat} {L : Int} (h : markF B L = 0) : ∃ n : Nat, L = n ∧ 1 ≤ n ∧ n ≤ 64 ∧ (n < 64 → B / 2 ^ n = 0) := by
  unfold markF at h
  split at h
  · exact absurd h (by decide)
  · split at h
    · exact absurd h (by decide)
    · rename_i h1 h2
      refine ⟨L.toNat, by omega, by omega, by omega, fun h3 => ?_⟩
      rcases Nat.eq_zero_or_pos (B / 2 ^ L.toNat) with h4 | h4
      · exact h4
      · exact absurd ⟨by omega, by omega⟩ h2
set_option maxHeartbeats 1000000 in
theorem mcheck_any (B : Nat) (L : Int) (w : World) :
    Calls Try.prog 41 #[.agg #[.int .u64 B, .int .i64 L]] w fun e w' => e = .returned (.int .i64 (markF B L)) ∧ Below w.heap.size w w' := by
  by_cases h1 : L < 1 ∨ 64 < L
  · rw [show markF B L = 220 from if_pos h1]
    rcases h1 with h1 | h1
    · go_enter Try.func41, Try.ntmps41
      go_wp2
      go_ret
      exact ⟨rfl, (Below.refl _ _).alloc (Nat.le_refl _) _⟩
    · have h2 : ¬ L < 1 := by omega
      go_enter Try.func41, Try.ntmps41
      go_wp2
      go_ret
      exact ⟨rfl, (Below.refl _ _).alloc (Nat.le_refl _) _⟩
  · obtain ⟨n, rfl⟩ : ∃ n : Nat, L = n := ⟨L.toNat, by omega⟩
    have n1 : decide ((n : Int) < 1) = false := decide_eq_false (by omega)
    have n2 : decide ((64 : Int) < n) = false := decide_eq_false (by omega)
    by_cases h3 : n < 64
    · have n3 : decide ((n : Int) < 64) = true := decide_eq_true (by omega)
      by_cases h4 : B / 2 ^ n = 0
      · rw [show markF B n = 0 by unfold markF; rw [if_neg h1, if_neg (by rw [Int.toNat_natCast]; exact fun e => e.2 h4)]]
        have hb := shrBeq h4
        clear h1 h4
        go_enter Try.func41, Try.ntmps41
        go_wp2
        go_ret
        exact ⟨rfl, (Below.refl _ _).alloc (Nat.le_refl _) _⟩
      · rw [show markF B n = 220 by unfold markF; rw [if_neg h1, if_pos ⟨by omega, by rw [Int.toNat_natCast]; exact h4⟩]]
        have hb := shrBne h4
        clear h1 h4
        go_enter Try.func41, Try.ntmps41
        go_wp2
        go_ret
        exact ⟨rfl, (Below.refl _ _).alloc (Nat.le_refl _) _⟩
    · obtain rfl : n = 64 := by omega
      rw [show markF B ((64 : Nat) : Int) = 0 by unfold markF; rw [if_neg h1, if_neg (fun e => absurd e.1 (by omega))]]
      clear h1 h3 n1 n2
      go_enter Try.func41, Try.ntmps41
      go_wp2
      go_ret
      exact ⟨rfl, (Below.refl _ _).alloc (Nat.le_refl _) _⟩
set_option maxHeartbeats 1000000 in
theorem r22check_any (B : Nat) (L : Int) (w : World) :
    Calls Try.prog 44 #[.agg #[.int .u64 B, .int .i64 L]] w fun e w' => e = .returned (.int .i64 (markF B L)) ∧ Below w.heap.size w w' := by
  by_cases h1 : L < 1 ∨ 64 < L
  · rw [show markF B L = 220 from if_pos h1]
    rcases h1 with h1 | h1
    · go_enter Try.func44, Try.ntmps44
      go_wp2
      go_ret
      exact ⟨rfl, (Below.refl _ _).alloc (Nat.le_refl _) _⟩
    · have h2 : ¬ L < 1 := by omega
      go_enter Try.func44, Try.ntmps44
      go_wp2
      go_ret
      exact ⟨rfl, (Below.refl _ _).alloc (Nat.le_refl _) _⟩
  · obtain ⟨n, rfl⟩ : ∃ n : Nat, L = n := ⟨L.toNat, by omega⟩
    have n1 : decide ((n : Int) < 1) = false := decide_eq_false (by omega)
    have n2 : decide ((64 : Int) < n) = false := decide_eq_false (by omega)
    by_cases h3 : n < 64
    · have n3 : decide ((n : Int) < 64) = true := decide_eq_true (by omega)
      by_cases h4 : B / 2 ^ n = 0
      · rw [show markF B n = 0 by unfold markF; rw [if_neg h1, if_neg (by rw [Int.toNat_natCast]; exact fun e => e.2 h4)]]
        have hb := shrBeq h4
        clear h1 h4
        go_enter Try.func44, Try.ntmps44
        go_wp2
        go_ret
        exact ⟨rfl, (Below.refl _ _).alloc (Nat.le_refl _) _⟩
      · rw [show markF B n = 220 by unfold markF; rw [if_neg h1, if_pos ⟨by omega, by rw [Int.toNat_natCast]; exact h4⟩]]
        have hb := shrBne h4
        clear h1 h4
        go_enter Try.func44, Try.ntmps44
        go_wp2
        go_ret
        exact ⟨rfl, (Below.refl _ _).alloc (Nat.le_refl _) _⟩
    · obtain rfl : n = 64 := by omega
      rw [show markF B ((64 : Nat) : Int) = 0 by unfold markF; rw [if_neg h1, if_neg (fun e => absurd e.1 (by omega))]]
      clear h1 h3 n1 n2
      go_enter Try.func44, Try.ntmps44
      go_wp2
      go_ret
      exact ⟨rfl, (Below.refl _ _).alloc (Nat.le_refl _) _⟩
/-- bit i of a marker -/
def markB (B n i : Nat) : Nat := B / 2 ^ (n - 1 - i) % 2
def markL (B n : Nat) : List Nat := (List.range n).map (markB B n)
theorem shr_pow (B k : Nat) : (B : Int) / 2 ^ k = ((B / 2 ^ k : Nat) : Int) := by simp
set_option maxHeartbeats 1000000 in
theorem mbit_any (B n i : Nat) (hB : B ≤ 18446744073709551615) (hn : n ≤ 64) (hi : i < n) (w : World) :
    Calls Try.prog 62 #[.agg #[.int .u64 B, .int .i64 n], .int .i64 i] w fun e w' => e = .returned (.int .u8 (markB B n i : Nat)) ∧ Below w.heap.size w w' := by
  obtain ⟨k, hk⟩ : ∃ k, n - 1 - i = k := ⟨_, rfl⟩
  have hsub : ((n : Int) - 1 - i) = ((k : Nat) : Int) := by omega
  have hle : B / 2 ^ k ≤ 18446744073709551615 := Nat.le_trans (Nat.div_le_self _ _) hB
  have hs := shr_pow B k
  have ha := and1_64 hle
  have hm : B / 2 ^ k % 2 ≤ 1 := by omega
  unfold markB
  rw [hk]
  clear hk
  generalize B / 2 ^ k = q at *
  generalize hr : q % 2 = r at *
  clear hr
  go_enter Try.func62, Try.ntmps62
  go_wp2_with (first | rw [hsub] | rw [hs] | rw [ha] | go_in)
  go_ret
  exact ⟨rfl, (Below.refl _ _).alloc (Nat.le_refl _) _⟩
set_option maxHeartbeats 1000000 in
theorem r22bit_any (B n i : Nat) (hB : B ≤ 18446744073709551615) (hn : n ≤ 64) (hi : i < n) (w : World) :
    Calls Try.prog 90 #[.agg #[.int .u64 B, .int .i64 n], .int .i64 i] w fun e w' => e = .returned (.int .u8 (markB B n i : Nat)) ∧ Below w.heap.size w w' := by
  obtain ⟨k, hk⟩ : ∃ k, n - 1 - i = k := ⟨_, rfl⟩
  have hsub : ((n : Int) - 1 - i) = ((k : Nat) : Int) := by omega
  have hle : B / 2 ^ k ≤ 18446744073709551615 := Nat.le_trans (Nat.div_le_self _ _) hB
  have hs := shr_pow B k
  have ha := and1_64 hle
  have hm : B / 2 ^ k % 2 ≤ 1 := by omega
  unfold markB
  rw [hk]
  clear hk
  generalize B / 2 ^ k = q at *
  generalize hr : q % 2 = r at *
  clear hr
  go_enter Try.func90, Try.ntmps90
  go_wp2_with (first | rw [hsub] | rw [hs] | rw [ha] | go_in)
  go_ret
  exact ⟨rfl, (Below.refl _ _).alloc (Nat.le_refl _) _⟩
end Go.Proofs.Ytlbfndibgojbiaa
