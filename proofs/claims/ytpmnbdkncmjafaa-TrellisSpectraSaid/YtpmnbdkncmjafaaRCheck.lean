/- What the reference outpostref05 computes of a code: whether it may be. -/
import Derived.Test.YtpmnbdkncmjafaaRows
import Derived.Test.YtpmnbdkncmjafaaCode
namespace Go.Proofs.Ytpmnbdkncmjafaa
open Go.RowKit

set_option maxHeartbeats 400000 in
theorem rcheck_head (K R : Int) (a b c : Nat) (h : headBad K R c) (w : World) :
    Calls Try.prog 44 #[.agg #[.int .i64 K, .int .i64 R, .int .u32 a, .int .u32 b, .int .u32 c]] w fun e w' => e = .returned (.int .i64 50) ∧ Below w.heap.size w w' := by
  by_cases h1 : K < 3
  · clear h
    go_enter Try.func44, Try.ntmps44
    go_wp2_with fail
    go_ret
    exact ⟨rfl, by repeat (first | exact Below.refl _ _ | refine Below.alloc ?_ (by simp) _)⟩
  · by_cases h2 : 32 < K
    · clear h
      go_enter Try.func44, Try.ntmps44
      go_wp2_with fail
      go_ret
      exact ⟨rfl, by repeat (first | exact Below.refl _ _ | refine Below.alloc ?_ (by simp) _)⟩
    · have h3 : K ≤ 32 := by omega
      have h4 : 3 ≤ K := by omega
      by_cases h5 : R = 2
      · have h6 : ((c : Int) != 0) = true := by
          rcases h with h | h | h | h
          · omega
          · omega
          · omega
          · rw [bne_iff_ne]; omega
        subst h5
        clear h h1 h2
        go_enter Try.func44, Try.ntmps44
        go_wp2_with fail
        go_ret
        exact ⟨rfl, by repeat (first | exact Below.refl _ _ | refine Below.alloc ?_ (by simp) _)⟩
      · have h6 : R ≠ 3 := by
          rcases h with h | h | h | h <;> omega
        have h7 : (R != 2) = true := by rw [bne_iff_ne]; exact h5
        have h8 : (R != 3) = true := by rw [bne_iff_ne]; exact h6
        clear h h1 h2 h5 h6
        go_enter Try.func44, Try.ntmps44
        go_wp2_with fail
        go_ret
        exact ⟨rfl, by repeat (first | exact Below.refl _ _ | refine Below.alloc ?_ (by simp) _)⟩

set_option maxHeartbeats 4000000 in
theorem rcheck_body (K : Nat) (R : Int) (a b c : Nat) (hA : a ≤ 4294967295) (hB : b ≤ 4294967295) (hC : c ≤ 4294967295) (hh : ¬ headBad K R c) (w : World) :
    Calls Try.prog 44 #[.agg #[.int .i64 K, .int .i64 R, .int .u32 a, .int .u32 b, .int .u32 c]] w fun e w' => e = .returned (.int .i64 (checkF K R a b c)) ∧ Below w.heap.size w w' := by
  have hK3 : 3 ≤ K := Nat.le_of_not_lt fun h => hh (.inl (by omega))
  have hK32 : K ≤ 32 := Nat.le_of_not_lt fun h => hh (.inr (.inl (by omega)))
  have hcase : ((R != 2) = false ∧ (R == 2) = true ∧ ((c : Int) != 0) = false) ∨ ((R != 2) = true ∧ (R != 3) = false ∧ (R == 2) = false) := by
    by_cases h2 : R = 2
    · subst h2
      exact .inl ⟨rfl, rfl, zBeq (Decidable.byContradiction fun e => hh (.inr (.inr (.inr ⟨rfl, e⟩))))⟩
    · have h3 : R = 3 := Decidable.byContradiction fun e => hh (.inr (.inr (.inl ⟨h2, e⟩)))
      subst h3
      exact .inr ⟨rfl, rfl, rfl⟩
  have hRn : R ≤ countF R ∧ (countF R : Int) ≤ R := by
    by_cases h2 : R = 2
    · subst h2; decide
    · have h3 : R = 3 := Decidable.byContradiction fun e => hh (.inr (.inr (.inl ⟨h2, e⟩)))
      subst h3; decide
  have hlow := hide fun hg h => checkF_low (K := K) (R := R) (a := a) (b := b) (c := c) hh hg h
  have hcata := hide fun hg h1 h2 h => checkF_cata (K := K) (R := R) (a := a) (b := b) (c := c) hh hg h1 h2 h
  have hok := hide fun hg h1 h2 h => checkF_ok (K := K) (R := R) (a := a) (b := b) (c := c) hh hg h1 h2 h
  have hbad := fun h => checkF_gens (K := K) (R := R) (a := a) (b := b) (c := c) hh h
  have hCm := hide (rcommon_any K R a b c hA hB hC)
  obtain ⟨hn2, hn3⟩ := countF_or R
  have hHB := hide hbad
  clear hh
  generalize countF R = n at *
  generalize checkF K R a b c = res at *
  unfold gensGood at *
  obtain ⟨hRn1, hRn2⟩ := hRn
  rcases hcase with ⟨t1, t2, t3⟩ | ⟨t1, t2, t3⟩
  all_goals
    clear hbad
    go_enter Try.func44, Try.ntmps44
    go_wp2_with fail
    go_loop [3, 4, 5] (fun l h i => ∃ (k : Nat) (lo hi : Bool), k ≤ n ∧ l = .bool lo ∧ h = .bool hi ∧ i = .int .i64 k ∧ lo = lowB (orK a b c k) ∧ hi = highB K (orK a b c k) ∧ (0 < k → goodG K a) ∧ (1 < k → goodG K b) ∧ (2 < k → goodG K c)) (fun _ _ i => n - (intOf i).toNat)
    case atStart => exact ⟨0, false, false, by omega, rfl, rfl, rfl, (lowB_zero).symm, (highB_zero K).symm, fun h => absurd h (by omega), fun h => absurd h (by omega), fun h => absurd h (by omega)⟩
    case round =>
    obtain ⟨k, lo, hi, hk, rfl, rfl, rfl, g0, g1, g2, g3, g4⟩ := hrel
    have hlo := hide g0
    have hhi := hide g1
    have hr0 := hide g2
    have hr1 := hide g3
    have hr2 := hide g4
    clear g0 g1 g2 g3 g4
    by_cases hkn : k = n
    · subst hkn
      have hgg := hide (show goodG K a ∧ goodG K b ∧ (k = 3 → goodG K c) from ⟨hr0.out (by omega), hr1.out (by omega), fun h => hr2.out (by omega)⟩)
      cases lo
      · have hfin := hide (hlow.out hgg.out (.inl (lowB_false hlo.out.symm)))
        go_wp2_with fail
        go_ret
        exact ⟨by rw [hfin.out]; rfl, by repeat (first | exact Below.refl _ _ | refine Below.alloc ?_ (by simp) _)⟩
      · cases hi
        · have hfin := hide (hlow.out hgg.out (.inr (highB_false hhi.out.symm)))
          go_wp2_with fail
          go_ret
          exact ⟨by rw [hfin.out]; rfl, by repeat (first | exact Below.refl _ _ | refine Below.alloc ?_ (by simp) _)⟩
        · have E1 := hide (lowB_true hlo.out.symm)
          have E2 := hide (highB_true hhi.out.symm)
          by_cases e3 : gcdK a b c k = 1
          · have hfin := hide (hok.out hgg.out E1.out E2.out e3)
            have q3 := oneBeq e3
            clear e3
            go_wp2_with fail
            refine (hCm.out _).mono ?_
            rintro e w' ⟨rfl, hbw⟩
            go_wp2_with fail
            go_ret
            exact ⟨by rw [hfin.out]; rfl, below_one hbw⟩
          · have hfin := hide (hcata.out hgg.out E1.out E2.out e3)
            have q3 := oneBne e3
            clear e3
            go_wp2_with fail
            refine (hCm.out _).mono ?_
            rintro e w' ⟨rfl, hbw⟩
            go_wp2_with fail
            go_ret
            exact ⟨by rw [hfin.out]; rfl, below_one hbw⟩
    · have hk3 : k = 0 ∨ k = 1 ∨ k = 2 := by omega
      have hlt : (k : Int) < R := by omega
      have hbad := hHB.out
      clear hkn
      rcases hk3 with rfl | rfl | rfl
      · -- round 0
        by_cases hgood : goodG K a
        · have q1 := zNe hgood.1
          have q2 := shrLe (shr_zero_iff.2 hgood.2)
          have hl := hide (or_low (orK a b c 0) a)
          have hh := hide (or_high hgood.2 (orK a b c 0) (by omega))
          have HG := hide hgood
          clear hgood
          cases lo <;> cases hi
          all_goals
            go_wp2_with fail
            all_goals
              go_round
              case rel => exact ⟨1, _, _, by omega, rfl, rfl, rfl, Eq.trans (by rw [← hlo.out]; rfl) hl.out, Eq.trans (by rw [← hhi.out]; rfl) hh.out, fun _ => HG.out, fun h => absurd h (by omega), fun h => absurd h (by omega)⟩
              case measure => simp [intOf]; omega
        · have hfin := hide (hbad (fun h => hgood h.1))
          by_cases hz : a = 0
          · have q1 := zEq hz
            clear hgood hz
            go_wp2_with fail
            go_ret
            exact ⟨by rw [hfin.out]; rfl, by repeat (first | exact Below.refl _ _ | refine Below.alloc ?_ (by simp) _)⟩
          · have q1 := zNe hz
            have q2 := shrGt (fun e => hgood ⟨hz, shr_zero_iff.1 e⟩)
            clear hgood hz
            go_wp2_with fail
            go_ret
            exact ⟨by rw [hfin.out]; rfl, by repeat (first | exact Below.refl _ _ | refine Below.alloc ?_ (by simp) _)⟩
      · -- round 1
        by_cases hgood : goodG K b
        · have q1 := zNe hgood.1
          have q2 := shrLe (shr_zero_iff.2 hgood.2)
          have hl := hide (or_low (orK a b c 1) b)
          have hh := hide (or_high hgood.2 (orK a b c 1) (by omega))
          have HG := hide hgood
          clear hgood
          cases lo <;> cases hi
          all_goals
            go_wp2_with fail
            all_goals
              go_round
              case rel => exact ⟨2, _, _, by omega, rfl, rfl, rfl, Eq.trans (by rw [← hlo.out]; rfl) hl.out, Eq.trans (by rw [← hhi.out]; rfl) hh.out, fun _ => hr0.out (by omega), fun _ => HG.out, fun h => absurd h (by omega)⟩
              case measure => simp [intOf]; omega
        · have hfin := hide (hbad (fun h => hgood h.2.1))
          by_cases hz : b = 0
          · have q1 := zEq hz
            clear hgood hz
            go_wp2_with fail
            go_ret
            exact ⟨by rw [hfin.out]; rfl, by repeat (first | exact Below.refl _ _ | refine Below.alloc ?_ (by simp) _)⟩
          · have q1 := zNe hz
            have q2 := shrGt (fun e => hgood ⟨hz, shr_zero_iff.1 e⟩)
            clear hgood hz
            go_wp2_with fail
            go_ret
            exact ⟨by rw [hfin.out]; rfl, by repeat (first | exact Below.refl _ _ | refine Below.alloc ?_ (by simp) _)⟩
      · -- round 2
        by_cases hgood : goodG K c
        · have q1 := zNe hgood.1
          have q2 := shrLe (shr_zero_iff.2 hgood.2)
          have hl := hide (or_low (orK a b c 2) c)
          have hh := hide (or_high hgood.2 (orK a b c 2) (by omega))
          have HG := hide hgood
          clear hgood
          cases lo <;> cases hi
          all_goals
            go_wp2_with fail
            all_goals
              go_round
              case rel => exact ⟨3, _, _, by omega, rfl, rfl, rfl, Eq.trans (by rw [← hlo.out]; rfl) hl.out, Eq.trans (by rw [← hhi.out]; rfl) hh.out, fun _ => hr0.out (by omega), fun _ => hr1.out (by omega), fun _ => HG.out⟩
              case measure => simp [intOf]; omega
        · have hfin := hide (hbad (fun h => hgood (h.2.2 (by omega))))
          by_cases hz : c = 0
          · have q1 := zEq hz
            clear hgood hz
            go_wp2_with fail
            go_ret
            exact ⟨by rw [hfin.out]; rfl, by repeat (first | exact Below.refl _ _ | refine Below.alloc ?_ (by simp) _)⟩
          · have q1 := zNe hz
            have q2 := shrGt (fun e => hgood ⟨hz, shr_zero_iff.1 e⟩)
            clear hgood hz
            go_wp2_with fail
            go_ret
            exact ⟨by rw [hfin.out]; rfl, by repeat (first | exact Below.refl _ _ | refine Below.alloc ?_ (by simp) _)⟩

theorem head_nat {K R : Int} {c : Nat} (h : ¬ headBad K R c) : ∃ k : Nat, K = k := ⟨K.toNat, by have : ¬ K < 3 := fun e => h (.inl e); omega⟩
/-- what Check answers, of any numbers -/
theorem check_any (K R : Int) (a b c : Nat) (hA : a ≤ 4294967295) (hB : b ≤ 4294967295) (hC : c ≤ 4294967295) (w : World) :
    Calls Try.prog 18 #[.agg #[.int .i64 K, .int .i64 R, .int .u32 a, .int .u32 b, .int .u32 c]] w fun e w' => e = .returned (.int .i64 (checkF K R a b c)) ∧ Below w.heap.size w w' := by
  by_cases h : headBad K R c
  · rw [checkF_head h]; exact check_head K R a b c h w
  · obtain ⟨k, rfl⟩ := head_nat h
    exact check_body k R a b c hA hB hC h w
theorem rcheck_any (K R : Int) (a b c : Nat) (hA : a ≤ 4294967295) (hB : b ≤ 4294967295) (hC : c ≤ 4294967295) (w : World) :
    Calls Try.prog 44 #[.agg #[.int .i64 K, .int .i64 R, .int .u32 a, .int .u32 b, .int .u32 c]] w fun e w' => e = .returned (.int .i64 (checkF K R a b c)) ∧ Below w.heap.size w w' := by
  by_cases h : headBad K R c
  · rw [checkF_head h]; exact rcheck_head K R a b c h w
  · obtain ⟨k, rfl⟩ := head_nat h
    exact rcheck_body k R a b c hA hB hC h w
end Go.Proofs.Ytpmnbdkncmjafaa
