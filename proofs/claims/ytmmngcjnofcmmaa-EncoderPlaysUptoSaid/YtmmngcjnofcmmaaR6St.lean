/- outpostref06.Encoder: State, walked. -/
import Derived.Test.YtmmngcjnofcmmaaRows
import Derived.Test.YtmmngcjnofcmmaaR6Sym
import Derived.Test.YtmmngcjnofcmmaaEnc
import Derived.IntWalk
namespace Go.Proofs.Ytmmngcjnofcmmaa
open Go.RowKit

/-- the state, bit by bit -/
def rsK (xs : List Nat) : Nat → Nat
  | 0 => 0
  | j + 1 => if j < xs.length ∧ xs.getD (xs.length - 1 - j) 0 = 1 then rsK xs j ||| 2 ^ j else rsK xs j
theorem rsK_bit (xs : List Nat) : ∀ m i, (rsK xs m).testBit i = decide (i < m ∧ i < xs.length ∧ xs.getD (xs.length - 1 - i) 0 = 1)
  | 0, i => by simp [rsK]
  | m + 1, i => by
    unfold rsK
    have ih := rsK_bit xs m i
    by_cases h : m < xs.length ∧ xs.getD (xs.length - 1 - m) 0 = 1
    · rw [if_pos h, Nat.testBit_or, ih, Nat.testBit_two_pow]
      rw [Bool.eq_iff_iff]
      simp only [Bool.or_eq_true, decide_eq_true_eq]
      constructor
      · rintro (⟨a, b, c⟩ | rfl)
        · exact ⟨by omega, b, c⟩
        · exact ⟨by omega, h.1, h.2⟩
      · rintro ⟨a, b, c⟩
        by_cases e : m = i
        · exact .inr e
        · exact .inl ⟨by omega, b, c⟩
    · rw [if_neg h, ih, decide_eq_decide]
      constructor
      · rintro ⟨a, b, c⟩; exact ⟨by omega, b, c⟩
      · rintro ⟨a, b, c⟩
        refine ⟨?_, b, c⟩
        rcases Nat.lt_or_ge i m with e | e
        · exact e
        · obtain rfl : i = m := by omega
          exact absurd ⟨b, c⟩ h
theorem rsK_lt (xs : List Nat) (m : Nat) : rsK xs m < 2 ^ m := Nat.lt_pow_two_of_testBit _ fun i hi => by rw [rsK_bit]; simp; omega
theorem rsK_state {n : Nat} {xs : List Nat} (hx : ∀ i, xs.getD i 0 ≤ 1) : rsK xs n = stAt n 0 xs xs.length := by
  refine Nat.eq_of_testBit_eq fun i => ?_
  rw [rsK_bit]
  by_cases hi : i < n
  · by_cases h0 : xs.length = 0
    · rw [h0]
      show _ = Nat.testBit 0 i
      simp
    · obtain ⟨t, ht⟩ : ∃ t, xs.length = t + 1 := ⟨xs.length - 1, by omega⟩
      rw [ht]
      have e : stAt n 0 xs (t + 1) = (2 * stAt n 0 xs t + xs.getD t 0) % 2 ^ n := rfl
      rw [e, Nat.testBit_mod_two_pow, Nat.testBit_eq_decide_div_mod_eq, window hx t i (by omega)]
      unfold backAt
      by_cases hit : i ≤ t
      · rw [if_pos hit]; simp [hi, show i < t + 1 by omega]
      · rw [if_neg hit]; simp [show ¬ i < t + 1 by omega]
  · rw [Nat.testBit_lt_two_pow (Nat.lt_of_lt_of_le (stAt_lt (n := n) (s := 0) (xs := xs) (Nat.two_pow_pos n) _) (Nat.pow_le_pow_right (by omega) (by omega)))]
    simp [hi]
/-- an encoder of the reference, from cell o of block g on -/
structure EncAt (w : World) (g o : Nat) (K R : Int) (a b c : Nat) (v : Value) : Prop where
  c0 : w.cell? ⟨g, o, none⟩ = some (.int .i64 K)
  c1 : w.cell? ⟨g, o + 1, none⟩ = some (.int .i64 R)
  c2 : w.cell? ⟨g, o + 2, none⟩ = some (.int .u32 a)
  c3 : w.cell? ⟨g, o + 3, none⟩ = some (.int .u32 b)
  c4 : w.cell? ⟨g, o + 4, none⟩ = some (.int .u32 c)
  c5 : w.cell? ⟨g, o + 5, none⟩ = some v
set_option maxHeartbeats 1000000 in
theorem rstate6_any (n a b c g o : Nat) (R : Int) (hn : n ≤ 31) (ad : Option Addr) (cap : Nat) (xs : List Nat) (hl : xs.length ≤ 140737488351232) (hx : ∀ i, xs.getD i 0 ≤ 1) (w : World) (hr : RowA w ad xs) (he : EncAt w g o (n + 1) R a b c (.slice ad xs.length cap)) :
    Calls Try.prog 31 #[.pointer (some ⟨g, o, none⟩)] w fun e w' => e = .returned (.int .u32 (stAt n 0 xs xs.length : Nat)) ∧ w = w' := by
  obtain ⟨c0, c1, c2, c3, c4, c5⟩ := he
  have HS := hide (rsK_state (n := n) hx)
  have HX := hide hr
  have HO := hide hx
  have HLT := hide (rsK_lt xs)
  obtain ⟨m, hm⟩ : ∃ m, xs.length = m := ⟨_, rfl⟩
  rw [hm] at c5 hl HS ⊢
  have HM := hide hm
  have HST := hide (fun j => show rsK xs (j + 1) = if j < m ∧ xs.getD (m - 1 - j) 0 = 1 then rsK xs j ||| 2 ^ j else rsK xs j by rw [← hm]; rfl)
  clear hx hr hm
  go_enter Try.func31, Try.ntmps31
  go_wp2_with fail
  go_loop [3, 4] (fun s jj => ∃ j : Nat, j ≤ n ∧ s = .int .u32 (rsK xs j : Nat) ∧ jj = .int .i64 j) (fun _ jj => n - (intOf jj).toNat)
  case atStart => exact ⟨0, by omega, rfl, rfl⟩
  case round =>
    obtain ⟨j, hj, rfl, rfl⟩ := hrel
    by_cases hjn : j < n
    · have hjI : (j : Int) < n := by omega
      have hlt := HLT.out j
      have hp : 2 ^ j ≤ 2 ^ 30 := Nat.pow_le_pow_right (by omega) (by omega)
      by_cases hjm : j < m
      · obtain ⟨bb, off, rfl, _, hcell⟩ := HX.out.at_ (i := m - 1 - j) (by rw [HM.out]; omega)
        have hxk := HO.out (m - 1 - j)
        have HS1 := hide (HST.out j)
        have hat : (m : Int) - 1 - j = ((m - 1 - j : Nat) : Int) := by omega
        have hkm : m - 1 - j < m := by omega
        generalize xs.getD (m - 1 - j) 0 = y at *
        generalize m - 1 - j = q at *
        have hq0 : (0 : Int) ≤ q := by omega
        by_cases hy : y = 1
        · subst hy
          have hs2 : rsK xs (j + 1) = rsK xs j ||| 2 ^ j := by rw [HS1.out, if_pos ⟨hjm, rfl⟩]
          have HS2 := hide hs2
          have hmin : min j 32 = j := by omega
          have hpe : ((2 : Int) ^ j) = ((2 ^ j : Nat) : Int) := by simp
          have hsh : IntKind.u32.wrap ((2 : Int) ^ j) = ((2 ^ j : Nat) : Int) := by rw [hpe]; exact IntWalk.u32_in _ ⟨by omega, by omega⟩
          have hor : bits .or .u32 (rsK xs j : Int) ((2 ^ j : Nat) : Int) = ((rsK xs j ||| 2 ^ j : Nat) : Int) := or32 (by omega) (by omega)
          generalize rsK xs j = r at *
          generalize 2 ^ j = P at *
          clear hs2 hpe
          go_wp2_with fail
          go_round
          case rel => exact ⟨j + 1, by omega, by rw [HS2.out], by simp⟩
          case measure => simp [intOf]; omega
        · have hyb : ((y : Int) == 1) = false := by rw [beq_eq_false_iff_ne]; omega
          have HS2 := hide (show rsK xs (j + 1) = rsK xs j by rw [HS1.out, if_neg (fun h => hy h.2)])
          generalize rsK xs j = r at *
          clear hy
          go_wp2_with fail
          go_round
          case rel => exact ⟨j + 1, by omega, by rw [HS2.out], by simp⟩
          case measure => simp [intOf]; omega
      · have HS2 := hide (show rsK xs (j + 1) = rsK xs j by rw [HST.out j, if_neg (fun h => hjm h.1)])
        have hat : ¬ (0 : Int) ≤ (m : Int) - 1 - j := by omega
        have hat2 : (m : Int) - 1 - j < 0 := by omega
        generalize rsK xs j = r at *
        go_wp2_with fail
        go_round
        case rel => exact ⟨j + 1, by omega, by rw [HS2.out], by simp⟩
        case measure => simp [intOf]; omega
    · obtain rfl : j = n := by omega
      rw [HS.out]
      go_wp2_with fail
      go_ret
      exact ⟨rfl, rfl⟩
end Go.Proofs.Ytmmngcjnofcmmaa
