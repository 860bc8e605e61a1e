/- outpostref04.Check, walked. -/
import Derived.Test.YtknkkoemghceeaaDoorRows
import Derived.Test.YtknkkoemghceeaaDoorLfCheck
namespace Go.Proofs.YtknkkoemghceeaaDoor
open Go.RowKit

theorem shl_one {n : Nat} (h : n ≤ 20) : IntKind.u64.wrap ((2 : Int) ^ n) = ((2 ^ n : Nat) : Int) := by
  have h2 := pow20 h
  have e : (2 : Int) ^ n = ((2 ^ n : Nat) : Int) := by simp
  rw [e]
  generalize 2 ^ n = q at *
  exact IntWalk.u64_in (q : Int) (by omega)
theorem ge_pow {x n : Nat} (h : x / 2 ^ n ≠ 0) : decide (2 ^ n ≤ x) = true := by
  have : ¬ x < 2 ^ n := fun e => h (Nat.div_eq_of_lt e)
  simp only [decide_eq_true_eq]; omega
theorem not_ge_pow {x n : Nat} (h : x < 2 ^ n) : decide (2 ^ n ≤ x) = false := by
  simp only [decide_eq_false_iff_not]; omega
set_option maxHeartbeats 1000000 in
theorem r4check_any (D : Int) (T S : Nat) (hT : T ≤ 18446744073709551615) (hS : S ≤ 18446744073709551615) (w : World) :
    Calls Tryd.prog 25 #[.agg #[.int .i64 D, .int .u64 T, .int .u64 S]] w fun e w' => e = .returned (.int .i64 (lchk D T S)) ∧ Below w.heap.size w w' := by
  by_cases h1 : D < 2 ∨ 20 < D
  · rw [lchk_deg h1]
    rcases h1 with h1 | h1
    · go_enter Tryd.func25, Tryd.ntmps25
      go_wp2
      go_ret
      exact ⟨rfl, (Below.refl _ _).alloc (Nat.le_refl _) _⟩
    · have h2 : ¬ D < 2 := by omega
      go_enter Tryd.func25, Tryd.ntmps25
      go_wp2
      go_ret
      exact ⟨rfl, (Below.refl _ _).alloc (Nat.le_refl _) _⟩
  · obtain ⟨n, rfl⟩ : ∃ n : Nat, D = n := ⟨D.toNat, by omega⟩
    have l1 : (2 : Int) ≤ n := by omega
    have l2 : (n : Int) ≤ 20 := by omega
    have n2 : decide ((n : Int) < 2) = false := by simp; omega
    have n20 : decide ((20 : Int) < n) = false := by simp; omega
    have p20 := pow20 (n := n) (by omega)
    have e2 : ((2 : Int) ^ n) = ((2 ^ n : Nat) : Int) := by simp
    have sh := shl_one (n := n) (by omega)
    by_cases h2 : T % 2 = 0 ∨ T / 2 ^ n ≠ 0
    · rw [lchk_taps h1 (by simpa using h2)]
      by_cases h3 : T % 2 = 0
      · have hb : (((T : Int) % 2) == 0) = true := by rw [beq_iff_eq]; omega
        have hr : (T : Int) % 2 = 0 := by omega
        clear h1 h2 h3 e2
        go_enter Tryd.func25, Tryd.ntmps25
        go_wp2
        go_ret
        exact ⟨rfl, (Below.refl _ _).alloc (Nat.le_refl _) _⟩
      · have hr : (T : Int) % 2 = 1 := by omega
        have hb := ge_pow (h2.resolve_left h3)
        clear h1 h2 h3 e2
        generalize hq : 2 ^ n = q at *
        clear hq
        go_enter Tryd.func25, Tryd.ntmps25
        go_wp2
        go_ret
        exact ⟨rfl, (Below.refl _ _).alloc (Nat.le_refl _) _⟩
    · have hr : (T : Int) % 2 = 1 := by have : ¬ T % 2 = 0 := fun e => h2 (.inl e); omega
      have hb := not_ge_pow (div_zero_lt fun e => h2 (.inr e))
      by_cases h3 : S = 0 ∨ S / 2 ^ n ≠ 0
      · rw [lchk_seed h1 (by simpa using h2) (by simpa using h3)]
        by_cases h4 : S = 0
        · subst h4
          clear h1 h2 h3 e2
          generalize hq : 2 ^ n = q at *
          clear hq
          go_enter Tryd.func25, Tryd.ntmps25
          go_wp2
          go_ret
          exact ⟨rfl, (Below.refl _ _).alloc (Nat.le_refl _) _⟩
        · have hz := zNe h4
          have hb2 := ge_pow (h3.resolve_left h4)
          clear h1 h2 h3 h4 e2
          generalize hq : 2 ^ n = q at *
          clear hq
          go_enter Tryd.func25, Tryd.ntmps25
          go_wp2
          go_ret
          exact ⟨rfl, (Below.refl _ _).alloc (Nat.le_refl _) _⟩
      · rw [lchk_ok h1 (by simpa using h2) (by simpa using h3)]
        have hz := zNe (x := S) (fun e => h3 (.inl e))
        have hb2 := not_ge_pow (div_zero_lt fun e => h3 (.inr e))
        clear h1 h2 h3 e2
        generalize hq : 2 ^ n = q at *
        clear hq
        go_enter Tryd.func25, Tryd.ntmps25
        go_wp2
        go_ret
        exact ⟨rfl, (Below.refl _ _).alloc (Nat.le_refl _) _⟩
end Go.Proofs.YtknkkoemghceeaaDoor
