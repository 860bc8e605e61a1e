/- The law TrellisReturns, walked: it returns true. -/
import Derived.Test.YtpmnbdkncmjafaaRows
import Derived.Test.YtpmnbdkncmjafaaReturnsN
namespace Go.Proofs.Ytpmnbdkncmjafaa
open Go.RowKit

theorem right_ok {K R : Int} {a b c s x : Nat} {j : Nat} (hck : checkF K R a b c = 0) (hK : K = j + 2) (hs : s < 2 ^ (j + 1)) (hx : x ≤ 1) : rightF K R a b c s x = 0 := by
  refine rightF_good hck ?_ (by omega)
  rw [hK, show ((j : Int) + 2 - 1).toNat = j + 1 by omega]
  exact Nat.div_eq_of_lt hs

set_option maxHeartbeats 1000000 in
theorem returns_bad (K R : Int) (a b c s x : Nat) (hA : a ≤ 4294967295) (hB : b ≤ 4294967295) (hC : c ≤ 4294967295) (hs : s ≤ 4294967295) (hx : x ≤ 255) (hne : checkF K R a b c ≠ 0) (w : World) :
    Calls Try.prog 4 #[.agg #[.int .i64 K, .int .i64 R, .int .u32 a, .int .u32 b, .int .u32 c], .int .u32 s, .int .u8 x] w fun e w' => e = .returned (.bool true) ∧ Below w.heap.size w w' := by
  have HC := hide (check_any K R a b c hA hB hC)
  have H1 := hide (steps_any K R a b c s x hA hB hC hs hx).1
  rw [rightF_bad hne] at H1
  have hb := nzBne hne
  generalize checkF K R a b c = cf at *
  generalize (stepF K R a b c s x).1 = t at *
  generalize (stepF K R a b c s x).2.1 = y0 at *
  generalize (stepF K R a b c s x).2.2.1 = y1 at *
  generalize (stepF K R a b c s x).2.2.2 = y2 at *
  clear hne
  go_enter Try.func4, Try.ntmps4
  go_wp2_with fail
  refine (HC.out _).mono ?_
  rintro e w1 ⟨rfl, hb1⟩
  have hz1 := size_mid hb1
  have c0 := bcell hb1 (b := w.heap.size) (o := 0) (v := .int .i64 K) (by simp) (by simp [go_sem])
  have c1 := bcell hb1 (b := w.heap.size) (o := 1) (v := .int .i64 R) (by simp) (by simp [go_sem])
  have c2 := bcell hb1 (b := w.heap.size) (o := 2) (v := .int .u32 a) (by simp) (by simp [go_sem])
  have c3 := bcell hb1 (b := w.heap.size) (o := 3) (v := .int .u32 b) (by simp) (by simp [go_sem])
  have c4 := bcell hb1 (b := w.heap.size) (o := 4) (v := .int .u32 c) (by simp) (by simp [go_sem])
  go_wp2_with fail
  refine (num_any _ _).mono ?_
  rintro e w' ⟨rfl, rfl⟩
  go_wp2_with fail
  refine (H1.out _).mono ?_
  rintro e w2 ⟨rfl, hb2⟩
  go_wp2_with fail
  refine (num_any _ _).mono ?_
  rintro e w' ⟨rfl, rfl⟩
  go_wp2_with fail
  refine (knows_any _).mono ?_
  rintro e w3 ⟨rfl, hb3⟩
  go_wp2_with fail
  go_ret
  have h12 := (below_one hb1).trans (hb2.mono (by omega))
  exact ⟨rfl, below_mid h12 hb3⟩

theorem small256 {o : Nat} (h : o ≤ 1) : (o : Int) % 256 = (o : Int) := by omega
set_option maxHeartbeats 1000000 in
theorem returns_good (R : Int) (j a b c s x : Nat) (hj : 1 ≤ j ∧ j ≤ 30) (hR : R = 2 ∨ R = 3) (hA : a ≤ 4294967295) (hB : b ≤ 4294967295) (hC : c ≤ 4294967295) (hs : s ≤ 4294967295) (hx : x ≤ 255) (hck : checkF (j + 2) R a b c = 0) (w : World) :
    Calls Try.prog 4 #[.agg #[.int .i64 (j + 2), .int .i64 R, .int .u32 a, .int .u32 b, .int .u32 c], .int .u32 s, .int .u8 x] w fun e w' => e = .returned (.bool true) ∧ Below w.heap.size w w' := by
  have HC := hide (check_any (j + 2) R a b c hA hB hC)
  rw [hck] at HC
  have hM1 : 2 ^ (j + 1) ≤ 2 ^ 31 := Nat.pow_le_pow_right (by omega) (by omega)
  have hM2 : 1 ≤ 2 ^ (j + 1) := Nat.one_le_two_pow
  have htM : s % 2 ^ (j + 1) < 2 ^ (j + 1) := Nat.mod_lt _ hM2
  have hq1 : x % 2 ≤ 1 := by omega
  have wM : IntKind.u64.wrap ((2 : Int) ^ (j + 1)) = ((2 ^ (j + 1) : Nat) : Int) := by
    rw [show (2 : Int) ^ (j + 1) = ((2 ^ (j + 1) : Nat) : Int) by simp]
    exact IntWalk.u64_in _ (by omega)
  have hst : (s : Int) % ((2 ^ (j + 1) : Nat) : Int) % 4294967296 = ((s % 2 ^ (j + 1) : Nat) : Int) := by omega
  have hbx := low8 x hx
  have hM3 : ¬ ((2 ^ (j + 1) : Nat) : Int) = 0 := by omega
  obtain ⟨o1, S1, n1, n2, n3, n4⟩ := there_back (j := j) htM hq1
  generalize s % 2 ^ (j + 1) = t at *
  generalize x % 2 = q at *
  have hob : (t : Int) / 2 ^ j % 256 = ((t / 2 ^ j : Nat) : Int) := by
    rw [show (t : Int) / 2 ^ j = ((t / 2 ^ j : Nat) : Int) by simp]
    exact small256 o1
  have HU := priorF_le (j := j) (s := t) (x := q) hj htM hq1
  have hUq : ((priorF j t q : Nat) : Int) / 2 ^ j = (q : Int) := by
    rw [show ((priorF j t q : Nat) : Int) / 2 ^ j = ((priorF j t q / 2 ^ j : Nat) : Int) by simp, n4]
  have hSq : (((2 * t + q) % 2 ^ (j + 1) : Nat) : Int) % 2 = (q : Int) := by omega
  have ht2 : (t : Int) % 2 = ((t % 2 : Nat) : Int) := by omega
  have ht3 : ((t % 2 : Nat) : Int) % 256 = ((t % 2 : Nat) : Int) := by omega
  have H1 := hide (tstep_good R j a b c t q hR hj hA hB hC htM hq1 (right_ok hck rfl htM hq1))
  have H2 := hide (tback_good R j a b c ((2 * t + q) % 2 ^ (j + 1)) (t / 2 ^ j) hR hj hA hB hC S1 o1 (right_ok hck rfl S1 o1))
  have H3 := hide (tback_good R j a b c t q hR hj hA hB hC htM hq1 (right_ok hck rfl htM hq1))
  have H4 := hide (tstep_good R j a b c (priorF j t q) (t % 2) hR hj hA hB hC HU.1 (by omega) (right_ok hck rfl HU.1 (by omega)))
  rw [n1, n2] at H2
  rw [n3] at H4
  generalize (2 * t + q) % 2 ^ (j + 1) = S at *
  generalize t / 2 ^ j = o at *
  generalize priorF j t q = U at *
  generalize t % 2 = p at *
  generalize outF (2 * t + q) a = y0 at *
  generalize outF (2 * t + q) b = y1 at *
  generalize third R (outF (2 * t + q) c) = y2 at *
  generalize outF (2 * U + p) a = z0 at *
  generalize outF (2 * U + p) b = z1 at *
  generalize third R (outF (2 * U + p) c) = z2 at *
  have eq1 := eq_sym_same y0 y1 y2
  have eq2 := eq_sym_same z0 z1 z2
  generalize hM : 2 ^ (j + 1) = M at *
  have HHM := hide hM
  clear hM n1 n2 n3 n4 hck hR hx HU htM
  go_enter Try.func4, Try.ntmps4
  go_wp2_with fail
  refine (HC.out _).mono ?_
  rintro e w1 ⟨rfl, hb1⟩
  have hz1 := size_mid hb1
  have c0 := bcell hb1 (b := w.heap.size) (o := 0) (v := .int .i64 (j + 2)) (by simp) (by simp [go_sem])
  have c1 := bcell hb1 (b := w.heap.size) (o := 1) (v := .int .i64 R) (by simp) (by simp [go_sem])
  have c2 := bcell hb1 (b := w.heap.size) (o := 2) (v := .int .u32 a) (by simp) (by simp [go_sem])
  have c3 := bcell hb1 (b := w.heap.size) (o := 3) (v := .int .u32 b) (by simp) (by simp [go_sem])
  have c4 := bcell hb1 (b := w.heap.size) (o := 4) (v := .int .u32 c) (by simp) (by simp [go_sem])
  go_wp2_with fail
  refine (num_any _ _).mono ?_
  rintro e w' ⟨rfl, rfl⟩
  go_wp2_with fail
  refine (knows_any _).mono ?_
  rintro e w2 ⟨rfl, hb2⟩
  have hz2 : w.heap.size < w2.heap.size := Nat.lt_of_lt_of_le hz1 hb2.size
  have c0 := bcell hb2 hz1 c0
  have c1 := bcell hb2 hz1 c1
  have c2 := bcell hb2 hz1 c2
  have c3 := bcell hb2 hz1 c3
  have c4 := bcell hb2 hz1 c4
  go_wp2_with fail
  refine (H1.out _).mono ?_
  rintro e w3 ⟨rfl, hb3⟩
  have hz3 : w.heap.size < w3.heap.size := Nat.lt_of_lt_of_le hz2 hb3.size
  have c0 := bcell hb3 hz2 c0
  have c1 := bcell hb3 hz2 c1
  have c2 := bcell hb3 hz2 c2
  have c3 := bcell hb3 hz2 c3
  have c4 := bcell hb3 hz2 c4
  go_wp2_with fail
  refine (H2.out _).mono ?_
  rintro e w4 ⟨rfl, hb4⟩
  have hz4 := size_mid hb4
  have g4 : w.heap.size < w4.heap.size := by omega
  replace c0 := bcell_mid hb4 (by omega) c0
  replace c1 := bcell_mid hb4 (by omega) c1
  replace c2 := bcell_mid hb4 (by omega) c2
  replace c3 := bcell_mid hb4 (by omega) c3
  replace c4 := bcell_mid hb4 (by omega) c4
  have p0 := bcell hb4 (b := w3.heap.size) (o := 0) (v := .int .u8 y0) (by simp) (by simp [go_sem])
  have p1 := bcell hb4 (b := w3.heap.size) (o := 1) (v := .int .u8 y1) (by simp) (by simp [go_sem])
  have p2 := bcell hb4 (b := w3.heap.size) (o := 2) (v := .int .u8 y2) (by simp) (by simp [go_sem])
  have hfin4 := below_mid ((((below_one hb1).trans (hb2.mono (Nat.le_of_lt hz1))).trans (hb3.mono (Nat.le_of_lt hz2)))) hb4
  go_wp2_with fail
  refine (num_any _ _).mono ?_
  rintro e w' ⟨rfl, rfl⟩
  go_wp2_with fail
  refine (num_any _ _).mono ?_
  rintro e w' ⟨rfl, rfl⟩
  go_wp2_with fail
  refine (H3.out _).mono ?_
  rintro e w5 ⟨rfl, hb5⟩
  have hz5 := size_mid hb5
  have g5 : w.heap.size < w5.heap.size := by omega
  replace c0 := bcell_mid hb5 (by omega) c0
  replace c1 := bcell_mid hb5 (by omega) c1
  replace c2 := bcell_mid hb5 (by omega) c2
  replace c3 := bcell_mid hb5 (by omega) c3
  replace c4 := bcell_mid hb5 (by omega) c4
  have hfin5 := below_mid hfin4 hb5
  go_wp2_with fail
  refine (H4.out _).mono ?_
  rintro e w6 ⟨rfl, hb6⟩
  have hz6 := size_mid hb6
  have g6 : w.heap.size < w6.heap.size := by omega
  replace c0 := bcell_mid hb6 (by omega) c0
  have r0 := bcell hb6 (b := w5.heap.size) (o := 0) (v := .int .u8 z0) (by simp) (by simp [go_sem])
  have r1 := bcell hb6 (b := w5.heap.size) (o := 1) (v := .int .u8 z1) (by simp) (by simp [go_sem])
  have r2 := bcell hb6 (b := w5.heap.size) (o := 2) (v := .int .u8 z2) (by simp) (by simp [go_sem])
  have hfin6 := below_mid hfin5 hb6
  go_wp2_with fail
  refine (num_any _ _).mono ?_
  rintro e w' ⟨rfl, rfl⟩
  go_wp2_with fail
  refine (num_any _ _).mono ?_
  rintro e w' ⟨rfl, rfl⟩
  go_wp2_with fail
  go_ret
  exact ⟨rfl, hfin6.alloc hfin6.size _⟩

theorem law_returns (K R : Int) (a b c s x : Nat) (hA : a ≤ 4294967295) (hB : b ≤ 4294967295) (hC : c ≤ 4294967295) (hs : s ≤ 4294967295) (hx : x ≤ 255) (w : World) :
    Calls Try.prog 4 #[.agg #[.int .i64 K, .int .i64 R, .int .u32 a, .int .u32 b, .int .u32 c], .int .u32 s, .int .u8 x] w fun e w' => e = .returned (.bool true) ∧ Below w.heap.size w w' := by
  by_cases hck : checkF K R a b c = 0
  · obtain ⟨n, rfl, h2, h31, hR⟩ := good_code hck
    obtain ⟨j, rfl⟩ : ∃ j, n = j + 1 := ⟨n - 1, by omega⟩
    have e : (((j + 1 : Nat) : Int) + 1) = j + 2 := by omega
    rw [e] at hck ⊢
    exact returns_good R j a b c s x (by omega) hR hA hB hC hs hx hck w
  · exact returns_bad K R a b c s x hA hB hC hs hx hck w
end Go.Proofs.Ytpmnbdkncmjafaa
