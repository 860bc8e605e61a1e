/- lfsr.Check, walked. -/
import Derived.Test.YtknkkoemghceeaaDoorRows
import Derived.Test.YtknkkoemghceeaaDoorBase
namespace Go.Proofs.YtknkkoemghceeaaDoor
open Go.RowKit

/-- the error of a register -/
def lchk (D : Int) (T S : Nat) : Int :=
  if D < 2 ∨ 20 < D then 21
  else if T % 2 = 0 ∨ T / 2 ^ D.toNat ≠ 0 then 40
  else if S = 0 ∨ S / 2 ^ D.toNat ≠ 0 then 41
  else 0
section
variable {D : Int} {T S : Nat}
theorem lchk_deg (h : D < 2 ∨ 20 < D) : lchk D T S = 21 := if_pos h
theorem lchk_taps (h : ¬ (D < 2 ∨ 20 < D)) (h2 : T % 2 = 0 ∨ T / 2 ^ D.toNat ≠ 0) : lchk D T S = 40 := by unfold lchk; rw [if_neg h, if_pos h2]
theorem lchk_seed (h : ¬ (D < 2 ∨ 20 < D)) (h2 : ¬ (T % 2 = 0 ∨ T / 2 ^ D.toNat ≠ 0)) (h3 : S = 0 ∨ S / 2 ^ D.toNat ≠ 0) : lchk D T S = 41 := by unfold lchk; rw [if_neg h, if_neg h2, if_pos h3]
theorem lchk_ok (h : ¬ (D < 2 ∨ 20 < D)) (h2 : ¬ (T % 2 = 0 ∨ T / 2 ^ D.toNat ≠ 0)) (h3 : ¬ (S = 0 ∨ S / 2 ^ D.toNat ≠ 0)) : lchk D T S = 0 := by unfold lchk; rw [if_neg h, if_neg h2, if_neg h3]
/-- a register that may be -/
structure GoodL (n T S : Nat) : Prop where
  lo : 2 ≤ n
  hi : n ≤ 20
  odd : T % 2 = 1
  tap : T < 2 ^ n
  ne : S ≠ 0
  seed : S < 2 ^ n
theorem pow20 {n : Nat} (h : n ≤ 20) : 2 ^ n ≤ 1048576 := by
  have := Nat.pow_le_pow_right (n := 2) (by omega) h
  simpa using this
theorem div_zero_lt {a n : Nat} (h : ¬ a / 2 ^ n ≠ 0) : a < 2 ^ n := by
  have h0 : a / 2 ^ n = 0 := Classical.byContradiction h
  rcases Nat.lt_or_ge a (2 ^ n) with h1 | h1
  · exact h1
  · have := Nat.div_pos h1 (Nat.two_pow_pos n); omega
theorem lchk_zero (h : lchk D T S = 0) : ∃ n : Nat, D = n ∧ GoodL n T S := by
  by_cases h1 : D < 2 ∨ 20 < D
  · rw [lchk_deg h1] at h; exact absurd h (by decide)
  · by_cases h2 : T % 2 = 0 ∨ T / 2 ^ D.toNat ≠ 0
    · rw [lchk_taps h1 h2] at h; exact absurd h (by decide)
    · by_cases h3 : S = 0 ∨ S / 2 ^ D.toNat ≠ 0
      · rw [lchk_seed h1 h2 h3] at h; exact absurd h (by decide)
      · refine ⟨D.toNat, by omega, by omega, by omega, ?_, ?_, ?_, ?_⟩
        · have : ¬ T % 2 = 0 := fun e => h2 (.inl e)
          omega
        · exact div_zero_lt fun e => h2 (.inr e)
        · exact fun e => h3 (.inl e)
        · exact div_zero_lt fun e => h3 (.inr e)
theorem lchk_good {n : Nat} (h : GoodL n T S) : lchk n T S = 0 := by
  have h1 := h.lo; have h2 := h.hi; have h3 := h.odd; have h4 := h.ne
  refine lchk_ok (by omega) (fun e => ?_) (fun e => ?_)
  · rcases e with e | e
    · omega
    · exact e (by rw [Int.toNat_natCast]; exact Nat.div_eq_of_lt h.tap)
  · rcases e with e | e
    · omega
    · exact e (by rw [Int.toNat_natCast]; exact Nat.div_eq_of_lt h.seed)
end
theorem and1_64 {a : Nat} (ha : a ≤ 18446744073709551615) : bits .and .u64 (a : Int) 1 = ((a % 2 : Nat) : Int) := by
  have := u64_and_nat a 1 (by omega) (by omega)
  rw [Nat.and_one_is_mod] at this
  simpa using this
set_option maxHeartbeats 1000000 in
theorem lcheck_any (D : Int) (T S : Nat) (hT : T ≤ 18446744073709551615) (hS : S ≤ 18446744073709551615) (w : World) :
    Calls Tryd.prog 31 #[.agg #[.int .i64 D, .int .u64 T, .int .u64 S]] w fun e w' => e = .returned (.int .i64 (lchk D T S)) ∧ Below w.heap.size w w' := by
  by_cases h1 : D < 2 ∨ 20 < D
  · rw [lchk_deg h1]
    rcases h1 with h1 | h1
    · go_enter Tryd.func31, Tryd.ntmps31
      go_wp2
      go_ret
      exact ⟨rfl, (Below.refl _ _).alloc (Nat.le_refl _) _⟩
    · have h2 : ¬ D < 2 := by omega
      go_enter Tryd.func31, Tryd.ntmps31
      go_wp2
      go_ret
      exact ⟨rfl, (Below.refl _ _).alloc (Nat.le_refl _) _⟩
  · obtain ⟨n, rfl⟩ : ∃ n : Nat, D = n := ⟨D.toNat, by omega⟩
    have l1 : (2 : Int) ≤ n := by omega
    have l2 : (n : Int) ≤ 20 := by omega
    have n2 : decide ((n : Int) < 2) = false := by simp; omega
    have n20 : decide ((20 : Int) < n) = false := by simp; omega
    have et := and1_64 hT
    have es := hS
    by_cases h2 : T % 2 = 0 ∨ T / 2 ^ n ≠ 0
    · rw [lchk_taps h1 (by simpa using h2)]
      by_cases h3 : T % 2 = 0
      · rw [h3] at et
        clear h1 h2 h3
        go_enter Tryd.func31, Tryd.ntmps31
        go_wp2
        go_ret
        exact ⟨rfl, (Below.refl _ _).alloc (Nat.le_refl _) _⟩
      · rw [show T % 2 = 1 by omega] at et
        have hb := shrBne (h2.resolve_left h3)
        clear h1 h2 h3
        go_enter Tryd.func31, Tryd.ntmps31
        go_wp2
        go_ret
        exact ⟨rfl, (Below.refl _ _).alloc (Nat.le_refl _) _⟩
    · rw [show T % 2 = 1 by have : ¬ T % 2 = 0 := fun e => h2 (.inl e); omega] at et
      have hb := shrBeq (x := T) (k := n) (Classical.byContradiction fun e => h2 (.inr e))
      by_cases h3 : S = 0 ∨ S / 2 ^ n ≠ 0
      · rw [lchk_seed h1 (by simpa using h2) (by simpa using h3)]
        by_cases h4 : S = 0
        · subst h4
          clear h1 h2 h3
          go_enter Tryd.func31, Tryd.ntmps31
          go_wp2
          go_ret
          exact ⟨rfl, (Below.refl _ _).alloc (Nat.le_refl _) _⟩
        · have hz := zNe h4
          have hb2 := shrBne (h3.resolve_left h4)
          clear h1 h2 h3 h4
          go_enter Tryd.func31, Tryd.ntmps31
          go_wp2
          go_ret
          exact ⟨rfl, (Below.refl _ _).alloc (Nat.le_refl _) _⟩
      · rw [lchk_ok h1 (by simpa using h2) (by simpa using h3)]
        have hz := zNe (x := S) (fun e => h3 (.inl e))
        have hb2 := shrBeq (x := S) (k := n) (Classical.byContradiction fun e => h3 (.inr e))
        clear h1 h2 h3
        go_enter Tryd.func31, Tryd.ntmps31
        go_wp2
        go_ret
        exact ⟨rfl, (Below.refl _ _).alloc (Nat.le_refl _) _⟩
end Go.Proofs.YtknkkoemghceeaaDoor
