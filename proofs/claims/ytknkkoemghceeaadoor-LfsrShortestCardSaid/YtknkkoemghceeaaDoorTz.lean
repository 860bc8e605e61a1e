/- math/bits.TrailingZeros64, walked, where its table lies as the program's text lays it. -/
import Derived.Test.YtknkkoemghceeaaDoorRows
import Derived.Test.YtknkkoemghceeaaDoorBase
import Derived.Test.YtknkkoemghceeaaDoorReg
import Derived.IntWalk
namespace Go.Proofs.YtknkkoemghceeaaDoor
open Go.RowKit

theorem and_rest {r k : Nat} (h : r < 2 ^ k) : r &&& (2 ^ k - (r + 1)) = 0 := by
  apply Nat.eq_of_testBit_eq
  intro j
  rw [Nat.testBit_and, Nat.testBit_two_pow_sub_succ h, Nat.zero_testBit]
  cases r.testBit j <;> simp
theorem odd_and (a b : Nat) : (2 * a + 1) &&& (2 * b + 1) = 2 * (a &&& b) + 1 := by
  apply Nat.eq_of_testBit_eq
  intro j
  cases j with
  | zero => simp [Nat.testBit_zero]
  | succ j =>
    rw [Nat.testBit_and]
    simp only [Nat.testBit_succ]
    rw [show (2 * a + 1) / 2 = a by omega, show (2 * b + 1) / 2 = b by omega, show (2 * (a &&& b) + 1) / 2 = a &&& b by omega, Nat.testBit_and]
/-- the lowest one alone -/
theorem and_neg {x i r : Nat} (hx : x = (2 * r + 1) * 2 ^ i) (hlt : x < 2 ^ 64) : x &&& (2 ^ 64 - x) = 2 ^ i ∧ i < 64 := by
  have hi : i < 64 := by
    rcases Nat.lt_or_ge i 64 with h | h
    · exact h
    · have h1 : 2 ^ 64 ≤ 2 ^ i := Nat.pow_le_pow_right (by omega) h
      have h2 : 1 * 2 ^ i ≤ (2 * r + 1) * 2 ^ i := Nat.mul_le_mul_right _ (by omega)
      omega
  refine ⟨?_, hi⟩
  have e64 : (2 : Nat) ^ 64 = 2 * 2 ^ (63 - i) * 2 ^ i := by
    rw [show (2 : Nat) * 2 ^ (63 - i) * 2 ^ i = 2 ^ (63 - i) * 2 ^ i * 2 by rw [Nat.mul_comm 2, Nat.mul_right_comm], ← Nat.pow_add, ← Nat.pow_succ]
    congr 1; omega
  have hp : 0 < 2 ^ i := Nat.two_pow_pos i
  have hr : r < 2 ^ (63 - i) := by
    rw [hx, e64] at hlt
    have := Nat.lt_of_mul_lt_mul_right hlt
    omega
  have e2 : 2 ^ 64 - x = (2 * (2 ^ (63 - i) - (r + 1)) + 1) * 2 ^ i := by
    rw [hx, e64, ← Nat.sub_mul]
    congr 1; omega
  rw [e2, hx, ← Nat.shiftLeft_eq, ← Nat.shiftLeft_eq, ← Nat.shiftLeft_and_distrib, odd_and, and_rest hr, Nat.shiftLeft_eq]
  omega
/-- where the table tells of i -/
def tzIdx (i : Nat) : Nat := 2 ^ i * 285870213051353865 % 18446744073709551616 / 288230376151711744
theorem tz_lt (i : Nat) : tzIdx i < 64 := by
  unfold tzIdx
  have : 2 ^ i * 285870213051353865 % 18446744073709551616 < 18446744073709551616 := Nat.mod_lt _ (by omega)
  omega
/-- the table lies there -/
def TabW (w : World) : Prop := ∀ i, i < 64 → w.cell? ⟨0, tzIdx i, none⟩ = some (.int .u8 (i : Nat))
theorem TabW.size {w : World} (h : TabW w) : 0 < w.heap.size := by
  have := h 0 (by omega)
  exact World.block_lt_of_cell? w _ this
theorem TabW.keep {w w' : World} (h : TabW w) (hk : w'.heap[0]? = w.heap[0]?) : TabW w' := fun i hi => (World.cell?_of_block (a := ⟨0, tzIdx i, none⟩) hk).trans (h i hi)
theorem TabW.below {w w' : World} (h : TabW w) (hb : Below w.heap.size w w') : TabW w' := h.keep (hb.block 0 h.size)
theorem TabW.grown {w w' : World} {row : Option Nat} (h : TabW w) (hb : w.grownBy w' row) (hne : row ≠ some 0) : TabW w' := h.keep (hb.block 0 h.size (fun e => hne e.symm))
theorem TabW.drewN {w : World} (h : TabW w) (n : Nat) : TabW (w.drewN n) := h
theorem neg_word {x : Nat} (h0 : x ≠ 0) (h : x ≤ 1048576) : IntKind.u64.wrap (-(x : Int)) = ((18446744073709551616 - x : Nat) : Int) := by
  rw [IntKind.wrap_u64]; omega
theorem and_neg20 {x i r : Nat} (hx : x = (2 * r + 1) * 2 ^ i) (hlt : x ≤ 1048576) : bits .and .u64 (x : Int) ((18446744073709551616 - x : Nat) : Int) = ((2 ^ i : Nat) : Int) ∧ i < 64 ∧ x ≠ 0 := by
  obtain ⟨ha, hi⟩ := and_neg hx (Nat.lt_of_le_of_lt hlt (by decide))
  have hp : 0 < 2 ^ i := Nat.two_pow_pos i
  have hx0 : x ≠ 0 := by
    have h2 : 1 * 2 ^ i ≤ (2 * r + 1) * 2 ^ i := Nat.mul_le_mul_right _ (by omega)
    omega
  refine ⟨?_, hi, hx0⟩
  have := u64_and_nat x (18446744073709551616 - x) (by omega) (by omega)
  rw [this]
  rw [show (18446744073709551616 : Nat) = 2 ^ 64 from rfl, ha]
theorem tz_key {x i r : Nat} (hx : x = (2 * r + 1) * 2 ^ i) (hlt : x ≤ 1048576) : IntKind.u64.wrap (bits .and .u64 (x : Int) (IntKind.u64.wrap (-(x : Int))) * 285870213051353865) / 288230376151711744 = (tzIdx i : Int) := by
  obtain ⟨hand, _, hx0⟩ := and_neg20 hx hlt
  rw [neg_word hx0 hlt, hand, IntKind.wrap_u64]
  unfold tzIdx
  generalize 2 ^ i = z
  omega
set_option maxHeartbeats 1000000 in
theorem tz_core (x k idx : Nat) (w : World) (hx0 : ((x : Int) == 0) = false)
    (key : IntKind.u64.wrap (bits .and .u64 (x : Int) (IntKind.u64.wrap (-(x : Int))) * 285870213051353865) / 288230376151711744 = (idx : Int))
    (hi : idx < 64) (hk : k < 64) (hcell : w.cell? ⟨0, idx, none⟩ = some (.int .u8 k)) :
    Calls Tryd.prog 76 #[.int .u64 x] w fun e w' => e = .returned (.int .i64 k) ∧ w = w' := by
  go_enter Tryd.func76, Tryd.ntmps76
  go_wp2_with (simp only [key])
  go_ret
  exact ⟨rfl, rfl⟩
theorem tz_any (x i r : Nat) (hx : x = (2 * r + 1) * 2 ^ i) (hlt : x ≤ 1048576) (w : World) (ht : TabW w) :
    Calls Tryd.prog 76 #[.int .u64 x] w fun e w' => e = .returned (.int .i64 (i : Nat)) ∧ w = w' := by
  obtain ⟨_, hi, hx0⟩ := and_neg20 hx hlt
  exact tz_core x i (tzIdx i) w (zNe hx0) (tz_key hx hlt) (tz_lt i) hi (ht i hi)
end Go.Proofs.YtknkkoemghceeaaDoor
