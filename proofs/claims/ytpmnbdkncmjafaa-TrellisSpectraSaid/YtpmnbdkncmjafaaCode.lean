/- What package code and its reference outpostref05 compute of a code: its generators' divisor; whether it may be. -/
import Derived.Test.YtpmnbdkncmjafaaRows
import Derived.Test.YtpmnbdkncmjafaaRef2
import Derived.Test.YtpmnbdkncmjafaaEval
namespace Go.Proofs.Ytpmnbdkncmjafaa
open Go.RowKit

set_option maxHeartbeats 400000 in
theorem used_two (K : Int) (a b c : Nat) (w : World) :
    Calls Try.prog 40 #[.agg #[.int .i64 K, .int .i64 2, .int .u32 a, .int .u32 b, .int .u32 c]] w fun e w' => e = .returned (.slice (some ⟨w.heap.size, 2, none⟩) 2 3) ∧ w.alloc (.cells #[.int .i64 K, .int .i64 2, .int .u32 a, .int .u32 b, .int .u32 c] 25) = w' := by
  go_enter Try.func40, Try.ntmps40
  go_wp2
  go_ret
  exact ⟨rfl, rfl⟩
set_option maxHeartbeats 400000 in
theorem used_three (K R : Int) (hR : R ≠ 2) (a b c : Nat) (w : World) :
    Calls Try.prog 40 #[.agg #[.int .i64 K, .int .i64 R, .int .u32 a, .int .u32 b, .int .u32 c]] w fun e w' => e = .returned (.slice (some ⟨w.heap.size, 2, none⟩) 3 3) ∧ w.alloc (.cells #[.int .i64 K, .int .i64 R, .int .u32 a, .int .u32 b, .int .u32 c] 25) = w' := by
  have hb : (R == 2) = false := by simpa using hR
  clear hR
  go_enter Try.func40, Try.ntmps40
  go_wp2
  go_ret
  exact ⟨rfl, rfl⟩

theorem gcdK_le {a b c : Nat} (ha : a ≤ 4294967295) (hb : b ≤ 4294967295) (hc : c ≤ 4294967295) (k : Nat) : gcdK a b c k ≤ 18446744073709551615 := by
  have h1 : Gf2.gcd 0 a ≤ 18446744073709551615 := gcd_le (by omega) (by omega)
  have h2 : Gf2.gcd (Gf2.gcd 0 a) b ≤ 18446744073709551615 := gcd_le h1 (by omega)
  unfold gcdK
  split
  · omega
  · exact h1
  · exact h2
  · exact gcd_le h2 (by omega)
theorem used_any (K R : Int) (a b c : Nat) (w : World) :
    Calls Try.prog 40 #[.agg #[.int .i64 K, .int .i64 R, .int .u32 a, .int .u32 b, .int .u32 c]] w fun e w' => e = .returned (.slice (some ⟨w.heap.size, 2, none⟩) (countF R) 3) ∧ w.alloc (.cells #[.int .i64 K, .int .i64 R, .int .u32 a, .int .u32 b, .int .u32 c] 25) = w' := by
  by_cases h : R = 2
  · subst h; exact used_two K a b c w
  · rw [show countF R = 3 from if_neg h]; exact used_three K R h a b c w

set_option maxHeartbeats 400000 in
theorem common_any (K R : Int) (a b c : Nat) (ha : a ≤ 4294967295) (hb : b ≤ 4294967295) (hc : c ≤ 4294967295) (w : World) :
    Calls Try.prog 41 #[.agg #[.int .i64 K, .int .i64 R, .int .u32 a, .int .u32 b, .int .u32 c]] w fun e w' => e = .returned (.int .u64 (gcdK a b c (countF R))) ∧ Below w.heap.size w w' := by
  have hg := gcdK_le ha hb hc
  have hG := hide hg
  have hU := hide (used_any K R a b c)
  obtain ⟨hn2, hn3⟩ := countF_or R
  clear hg
  generalize countF R = n at *
  go_enter Try.func41, Try.ntmps41
  go_wp2_with fail
  refine (hU.out _).mono ?_
  rintro e w' ⟨rfl, rfl⟩
  clear hU
  go_wp2_with fail
  go_loop [3, 9] (fun g i => ∃ k : Nat, k ≤ n ∧ g = .int .u64 (gcdK a b c k) ∧ i = .int .i64 k) (fun _ i => n - (intOf i).toNat)
  case atStart => exact ⟨0, by omega, rfl, rfl⟩
  case round =>
    obtain ⟨k, hk, rfl, rfl⟩ := hrel
    by_cases hkn : k = n
    · subst hkn
      go_wp2_with fail
      go_ret
      exact ⟨rfl, by repeat (first | exact Below.refl _ _ | refine Below.alloc ?_ (by simp) _)⟩
    · have hk3 : k = 0 ∨ k = 1 ∨ k = 2 := by omega
      have hlt : (k : Int) < n := by omega
      clear hkn
      rcases hk3 with rfl | rfl | rfl
      · go_wp2_with fail
        refine (gcd_any _ a (hG.out 0) (by omega) _).mono ?_
        rintro e w' ⟨rfl, rfl⟩
        go_wp2_with fail
        go_round
        case rel => exact ⟨1, by omega, rfl, rfl⟩
        case measure => simp [intOf]; omega
      · go_wp2_with fail
        refine (gcd_any _ b (hG.out 1) (by omega) _).mono ?_
        rintro e w' ⟨rfl, rfl⟩
        go_wp2_with fail
        go_round
        case rel => exact ⟨2, by omega, rfl, rfl⟩
        case measure => simp [intOf]; omega
      · go_wp2_with fail
        refine (gcd_any _ c (hG.out 2) (by omega) _).mono ?_
        rintro e w' ⟨rfl, rfl⟩
        go_wp2_with fail
        go_round
        case rel => exact ⟨3, by omega, rfl, rfl⟩
        case measure => simp [intOf]; omega

set_option maxHeartbeats 400000 in
theorem rcount_any (K R : Int) (a b c : Nat) (w : World) :
    Calls Try.prog 60 #[.agg #[.int .i64 K, .int .i64 R, .int .u32 a, .int .u32 b, .int .u32 c]] w fun e w' => e = .returned (.int .i64 (countF R)) ∧ w.alloc (.cells #[.int .i64 K, .int .i64 R, .int .u32 a, .int .u32 b, .int .u32 c] 25) = w' := by
  by_cases h : R = 2
  · subst h
    go_enter Try.func60, Try.ntmps60
    go_wp2
    go_ret
    exact ⟨rfl, rfl⟩
  · have e := hide (show countF R = 3 from if_neg h)
    have hb : (R == 2) = false := by simpa using h
    clear h
    go_enter Try.func60, Try.ntmps60
    go_wp2
    go_ret
    exact ⟨by rw [e.out]; rfl, rfl⟩

theorem bcell {W w1 : World} {B : Nat} (hb : Below B W w1) {b o : Nat} {v : Value} (h : b < B) (hc : W.cell? ⟨b, o, none⟩ = some v) : w1.cell? ⟨b, o, none⟩ = some v := (hb.cell (p := ⟨b, o, none⟩) h).trans hc
theorem below_box {w wr : World} {o : Obj} (h : Below (w.heap.size + 1) (w.alloc o) wr) : Below w.heap.size w wr := ((Below.refl _ _).alloc (Nat.le_refl _) _).trans (h.mono (by omega))
theorem below_one {w w' : World} {o1 : Obj} (h : Below (w.alloc o1).heap.size (w.alloc o1) w') : Below w.heap.size w w' := ((Below.refl _ _).alloc (Nat.le_refl _) _).trans (h.mono (by simp))
theorem below_two {w w' : World} {o1 o2 : Obj} (h : Below ((w.alloc o1).alloc o2).heap.size ((w.alloc o1).alloc o2) w') : Below w.heap.size w w' := below_one (below_one h)
theorem bsize {W w1 : World} {B : Nat} (hb : Below B W w1) {n : Nat} (h : n ≤ W.heap.size) : n ≤ w1.heap.size := Nat.le_trans h hb.size

set_option maxHeartbeats 400000 in
theorem rcommon_any (K R : Int) (a b c : Nat) (ha : a ≤ 4294967295) (hb : b ≤ 4294967295) (hc : c ≤ 4294967295) (w : World) :
    Calls Try.prog 55 #[.agg #[.int .i64 K, .int .i64 R, .int .u32 a, .int .u32 b, .int .u32 c]] w fun e w' => e = .returned (.int .u64 (gcdK a b c (countF R))) ∧ Below w.heap.size w w' := by
  have hg := gcdK_le ha hb hc
  have hG := hide hg
  have hU := hide (rcount_any K R a b c)
  obtain ⟨hn2, hn3⟩ := countF_or R
  clear hg
  generalize countF R = n at *
  go_enter Try.func55, Try.ntmps55
  go_wp2_with fail
  go_loopw [3, 4] (fun g i wr => ∃ k : Nat, k ≤ n ∧ g = .int .u64 (gcdK a b c k) ∧ i = .int .i64 k ∧ Below (w.heap.size + 1) (w.alloc (.cells #[.int .i64 K, .int .i64 R, .int .u32 a, .int .u32 b, .int .u32 c] 25)) wr) (fun _ i _ => n - (intOf i).toNat)
  case atStart => exact ⟨0, by omega, rfl, rfl, Below.refl _ _⟩
  case round =>
    obtain ⟨k, hk, rfl, rfl, hbw⟩ := hrel
    have hz : w.heap.size < wr.heap.size := by have := bsize hbw (n := w.heap.size + 1) (by simp); omega
    have c2 := bcell hbw (b := w.heap.size) (o := 2) (v := .int .u32 a) (by omega) (by simp [go_sem])
    have c3 := bcell hbw (b := w.heap.size) (o := 3) (v := .int .u32 b) (by omega) (by simp [go_sem])
    have c4 := bcell hbw (b := w.heap.size) (o := 4) (v := .int .u32 c) (by omega) (by simp [go_sem])
    have c0 := bcell hbw (b := w.heap.size) (o := 0) (v := .int .i64 K) (by omega) (by simp [go_sem])
    have c1 := bcell hbw (b := w.heap.size) (o := 1) (v := .int .i64 R) (by omega) (by simp [go_sem])
    have ld := hide hbw
    clear hbw
    by_cases hkn : k = n
    · subst hkn
      go_wp2_with fail
      refine (hU.out _).mono ?_
      rintro e w' ⟨rfl, rfl⟩
      go_wp2_with fail
      go_ret
      exact ⟨rfl, (below_box ld.out).alloc (by omega) _⟩
    · have hk3 : k = 0 ∨ k = 1 ∨ k = 2 := by omega
      have hlt : (k : Int) < n := by omega
      clear hkn
      rcases hk3 with rfl | rfl | rfl
      · go_wp2_with fail
        refine (hU.out _).mono ?_
        rintro e w' ⟨rfl, rfl⟩
        go_wp2_with fail
        refine (rgcd_any _ a (hG.out 0) (by omega) _).mono ?_
        rintro e w' ⟨rfl, rfl⟩
        go_wp2_with fail
        go_roundw
        case rel => exact ⟨1, by omega, rfl, rfl, ld.out.alloc (by omega) _⟩
        case measure => simp [intOf]; omega
      · go_wp2_with fail
        refine (hU.out _).mono ?_
        rintro e w' ⟨rfl, rfl⟩
        go_wp2_with fail
        refine (rgcd_any _ b (hG.out 1) (by omega) _).mono ?_
        rintro e w' ⟨rfl, rfl⟩
        go_wp2_with fail
        go_roundw
        case rel => exact ⟨2, by omega, rfl, rfl, ld.out.alloc (by omega) _⟩
        case measure => simp [intOf]; omega
      · go_wp2_with fail
        refine (hU.out _).mono ?_
        rintro e w' ⟨rfl, rfl⟩
        go_wp2_with fail
        refine (rgcd_any _ c (hG.out 2) (by omega) _).mono ?_
        rintro e w' ⟨rfl, rfl⟩
        go_wp2_with fail
        go_roundw
        case rel => exact ⟨3, by omega, rfl, rfl, ld.out.alloc (by omega) _⟩
        case measure => simp [intOf]; omega

set_option maxHeartbeats 400000 in
theorem check_head (K R : Int) (a b c : Nat) (h : headBad K R c) (w : World) :
    Calls Try.prog 18 #[.agg #[.int .i64 K, .int .i64 R, .int .u32 a, .int .u32 b, .int .u32 c]] w fun e w' => e = .returned (.int .i64 50) ∧ Below w.heap.size w w' := by
  by_cases h1 : K < 3
  · clear h
    go_enter Try.func18, Try.ntmps18
    go_wp2_with fail
    go_ret
    exact ⟨rfl, by repeat (first | exact Below.refl _ _ | refine Below.alloc ?_ (by simp) _)⟩
  · by_cases h2 : 32 < K
    · clear h
      go_enter Try.func18, Try.ntmps18
      go_wp2_with fail
      go_ret
      exact ⟨rfl, by repeat (first | exact Below.refl _ _ | refine Below.alloc ?_ (by simp) _)⟩
    · have h3 : K ≤ 32 := by omega
      have h4 : 3 ≤ K := by omega
      by_cases h5 : R = 2
      · have h6 : ((c : Int) != 0) = true := by
          rcases h with h | h | h | h
          · omega
          · omega
          · omega
          · rw [bne_iff_ne]; omega
        subst h5
        clear h h1 h2
        go_enter Try.func18, Try.ntmps18
        go_wp2_with fail
        go_ret
        exact ⟨rfl, by repeat (first | exact Below.refl _ _ | refine Below.alloc ?_ (by simp) _)⟩
      · have h6 : R ≠ 3 := by
          rcases h with h | h | h | h <;> omega
        have h7 : (R != 2) = true := by rw [bne_iff_ne]; exact h5
        have h8 : (R != 3) = true := by rw [bne_iff_ne]; exact h6
        clear h h1 h2 h5 h6
        go_enter Try.func18, Try.ntmps18
        go_wp2_with fail
        go_ret
        exact ⟨rfl, by repeat (first | exact Below.refl _ _ | refine Below.alloc ?_ (by simp) _)⟩

set_option maxHeartbeats 4000000 in
theorem check_body (K : Nat) (R : Int) (a b c : Nat) (hA : a ≤ 4294967295) (hB : b ≤ 4294967295) (hC : c ≤ 4294967295) (hh : ¬ headBad K R c) (w : World) :
    Calls Try.prog 18 #[.agg #[.int .i64 K, .int .i64 R, .int .u32 a, .int .u32 b, .int .u32 c]] w fun e w' => e = .returned (.int .i64 (checkF K R a b c)) ∧ Below w.heap.size w w' := by
  have hK3 : 3 ≤ K := Nat.le_of_not_lt fun h => hh (.inl (by omega))
  have hK32 : K ≤ 32 := Nat.le_of_not_lt fun h => hh (.inr (.inl (by omega)))
  have hcase : ((R != 2) = false ∧ (R == 2) = true ∧ ((c : Int) != 0) = false) ∨ ((R != 2) = true ∧ (R != 3) = false ∧ (R == 2) = false) := by
    by_cases h2 : R = 2
    · subst h2
      exact .inl ⟨rfl, rfl, zBeq (Decidable.byContradiction fun e => hh (.inr (.inr (.inr ⟨rfl, e⟩))))⟩
    · have h3 : R = 3 := Decidable.byContradiction fun e => hh (.inr (.inr (.inl ⟨h2, e⟩)))
      subst h3
      exact .inr ⟨rfl, rfl, rfl⟩
  have hlow := hide fun hg h => checkF_low (K := K) (R := R) (a := a) (b := b) (c := c) hh hg h
  have hcata := hide fun hg h1 h2 h => checkF_cata (K := K) (R := R) (a := a) (b := b) (c := c) hh hg h1 h2 h
  have hok := hide fun hg h1 h2 h => checkF_ok (K := K) (R := R) (a := a) (b := b) (c := c) hh hg h1 h2 h
  have hbad := fun h => checkF_gens (K := K) (R := R) (a := a) (b := b) (c := c) hh h
  have hU := hide (used_any K R a b c)
  have hCm := hide (common_any K R a b c hA hB hC)
  obtain ⟨hn2, hn3⟩ := countF_or R
  have hHB := hide hbad
  clear hh
  generalize countF R = n at *
  generalize checkF K R a b c = res at *
  unfold gensGood at *
  rcases hcase with ⟨t1, t2, t3⟩ | ⟨t1, t2, t3⟩
  all_goals
    clear hbad
    go_enter Try.func18, Try.ntmps18
    go_wp2_with fail
    refine (hU.out _).mono ?_
    rintro e w' ⟨rfl, rfl⟩
    clear hU
    go_wp2_with fail
    go_loop [3, 38] (fun g i => ∃ k : Nat, k ≤ n ∧ g = .int .u32 (orK a b c k) ∧ i = .int .i64 k ∧ (0 < k → goodG K a) ∧ (1 < k → goodG K b) ∧ (2 < k → goodG K c)) (fun _ i => n - (intOf i).toNat)
    case atStart => exact ⟨0, by omega, rfl, rfl, fun h => absurd h (by omega), fun h => absurd h (by omega), fun h => absurd h (by omega)⟩
    case round =>
    obtain ⟨k, hk, rfl, rfl, g0, g1, g2⟩ := hrel
    have hr0 := hide g0
    have hr1 := hide g1
    have hr2 := hide g2
    clear g0 g1 g2
    by_cases hkn : k = n
    · subst hkn
      have hgg := hide (show goodG K a ∧ goodG K b ∧ (k = 3 → goodG K c) from ⟨hr0.out (by omega), hr1.out (by omega), fun h => hr2.out (by omega)⟩)
      have hol := orK_le hA hB hC k
      by_cases e1 : orK a b c k % 2 = 0
      · have hfin := hide (hlow.out hgg.out (.inl e1))
        have q1 := lowEq hol e1
        clear e1
        go_wp2_with fail
        go_ret
        exact ⟨by rw [hfin.out]; rfl, by repeat (first | exact Below.refl _ _ | refine Below.alloc ?_ (by simp) _)⟩
      · have q1 := lowNe hol e1
        have E1 := hide e1
        clear e1
        by_cases e2 : orK a b c k / 2 ^ (K - 1) = 0
        · have hfin := hide (hlow.out hgg.out (.inr e2))
          have q2 := shrEq e2
          clear e2
          go_wp2_with fail
          go_ret
          exact ⟨by rw [hfin.out]; rfl, by repeat (first | exact Below.refl _ _ | refine Below.alloc ?_ (by simp) _)⟩
        · have q2 := shrNe e2
          have E2 := hide e2
          clear e2
          by_cases e3 : gcdK a b c k = 1
          · have hfin := hide (hok.out hgg.out E1.out E2.out e3)
            have q3 := oneBeq e3
            clear e3
            go_wp2_with fail
            refine (hCm.out _).mono ?_
            rintro e w' ⟨rfl, hbw⟩
            go_wp2_with fail
            go_ret
            exact ⟨by rw [hfin.out]; rfl, below_two hbw⟩
          · have hfin := hide (hcata.out hgg.out E1.out E2.out e3)
            have q3 := oneBne e3
            clear e3
            go_wp2_with fail
            refine (hCm.out _).mono ?_
            rintro e w' ⟨rfl, hbw⟩
            go_wp2_with fail
            go_ret
            exact ⟨by rw [hfin.out]; rfl, below_two hbw⟩
    · have hk3 : k = 0 ∨ k = 1 ∨ k = 2 := by omega
      have hlt : (k : Int) < n := by omega
      have hbad := hHB.out
      clear hkn
      rcases hk3 with rfl | rfl | rfl
      · -- round 0
        by_cases hgood : goodG K a
        · have q1 := zNe hgood.1
          have q2 := shrBeq (shr_zero_iff.2 hgood.2)
          have ho := hide (or32 (orK_le hA hB hC 0) hA)
          have HG := hide hgood
          clear hgood
          go_wp2_with fail
          go_round
          case rel => exact ⟨1, by omega, by rw [ho.out]; rfl, rfl, fun _ => HG.out, fun h => absurd h (by omega), fun h => absurd h (by omega)⟩
          case measure => simp [intOf]; omega
        · have hfin := hide (hbad (fun h => hgood h.1))
          by_cases hz : a = 0
          · have q1 := zEq hz
            clear hgood hz
            go_wp2_with fail
            go_ret
            exact ⟨by rw [hfin.out]; rfl, by repeat (first | exact Below.refl _ _ | refine Below.alloc ?_ (by simp) _)⟩
          · have q1 := zNe hz
            have q2 := shrBne (fun e => hgood ⟨hz, shr_zero_iff.1 e⟩)
            clear hgood hz
            go_wp2_with fail
            go_ret
            exact ⟨by rw [hfin.out]; rfl, by repeat (first | exact Below.refl _ _ | refine Below.alloc ?_ (by simp) _)⟩
      · -- round 1
        by_cases hgood : goodG K b
        · have q1 := zNe hgood.1
          have q2 := shrBeq (shr_zero_iff.2 hgood.2)
          have ho := hide (or32 (orK_le hA hB hC 1) hB)
          have HG := hide hgood
          clear hgood
          go_wp2_with fail
          go_round
          case rel => exact ⟨2, by omega, by rw [ho.out]; rfl, rfl, fun _ => hr0.out (by omega), fun _ => HG.out, fun h => absurd h (by omega)⟩
          case measure => simp [intOf]; omega
        · have hfin := hide (hbad (fun h => hgood h.2.1))
          by_cases hz : b = 0
          · have q1 := zEq hz
            clear hgood hz
            go_wp2_with fail
            go_ret
            exact ⟨by rw [hfin.out]; rfl, by repeat (first | exact Below.refl _ _ | refine Below.alloc ?_ (by simp) _)⟩
          · have q1 := zNe hz
            have q2 := shrBne (fun e => hgood ⟨hz, shr_zero_iff.1 e⟩)
            clear hgood hz
            go_wp2_with fail
            go_ret
            exact ⟨by rw [hfin.out]; rfl, by repeat (first | exact Below.refl _ _ | refine Below.alloc ?_ (by simp) _)⟩
      · -- round 2
        by_cases hgood : goodG K c
        · have q1 := zNe hgood.1
          have q2 := shrBeq (shr_zero_iff.2 hgood.2)
          have ho := hide (or32 (orK_le hA hB hC 2) hC)
          have HG := hide hgood
          clear hgood
          go_wp2_with fail
          go_round
          case rel => exact ⟨3, by omega, by rw [ho.out]; rfl, rfl, fun _ => hr0.out (by omega), fun _ => hr1.out (by omega), fun _ => HG.out⟩
          case measure => simp [intOf]; omega
        · have hfin := hide (hbad (fun h => hgood (h.2.2 (by omega))))
          by_cases hz : c = 0
          · have q1 := zEq hz
            clear hgood hz
            go_wp2_with fail
            go_ret
            exact ⟨by rw [hfin.out]; rfl, by repeat (first | exact Below.refl _ _ | refine Below.alloc ?_ (by simp) _)⟩
          · have q1 := zNe hz
            have q2 := shrBne (fun e => hgood ⟨hz, shr_zero_iff.1 e⟩)
            clear hgood hz
            go_wp2_with fail
            go_ret
            exact ⟨by rw [hfin.out]; rfl, by repeat (first | exact Below.refl _ _ | refine Below.alloc ?_ (by simp) _)⟩
end Go.Proofs.Ytpmnbdkncmjafaa

