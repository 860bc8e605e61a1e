/- outpostref07.Prior, walked. -/
import Derived.Test.YtpmnbdkncmjafaaRows
import Derived.Test.YtpmnbdkncmjafaaOut
namespace Go.Proofs.Ytpmnbdkncmjafaa
open Go.RowKit

/-- the state ahead -/
def priorF (j s x : Nat) : Nat := s / 2 + x * 2 ^ j
theorem priorF_le {j s x : Nat} (hj : 1 ≤ j ∧ j ≤ 30) (hs : s < 2 ^ (j + 1)) (hx : x ≤ 1) : priorF j s x < 2 ^ (j + 1) ∧ priorF j s x ≤ 2147483647 ∧ 2 * priorF j s x + s % 2 ≤ 4294967295 := by
  have h := Nat.pow_le_pow_right (n := 2) (by omega) (show j + 1 ≤ 31 by omega)
  have e : 2 ^ (j + 1) = 2 * 2 ^ j := by rw [Nat.pow_succ]; omega
  unfold priorF
  have h01 : x = 0 ∨ x = 1 := by omega
  rcases h01 with rfl | rfl <;> omega

theorem prior_int {j s x : Nat} (hj : 1 ≤ j ∧ j ≤ 30) (hs : s < 2 ^ (j + 1)) (hx : x ≤ 1) : ((s : Int) / 2 + (x : Int) * 2 ^ j) % 4294967296 = (priorF j s x : Nat) := by
  obtain ⟨h1, h2, h3⟩ := priorF_le hj hs hx
  have e1 : ((s : Int) / 2 + (x : Int) * 2 ^ j) = (priorF j s x : Nat) := by unfold priorF; push_cast; rfl
  rw [e1]
  omega
set_option linter.unusedVariables false in
set_option maxHeartbeats 1000000 in
theorem prior_any (j a b c s x : Nat) (R : Int) (hR : R = 2 ∨ R = 3) (hj : 1 ≤ j ∧ j ≤ 30) (hA : a ≤ 4294967295) (hB : b ≤ 4294967295) (hC : c ≤ 4294967295) (hs : s < 2 ^ (j + 1)) (hx : x ≤ 1) (w : World) :
    Calls Try.prog 38 #[.agg #[.int .i64 (j + 2), .int .i64 R, .int .u32 a, .int .u32 b, .int .u32 c], .int .u32 s, .int .u8 x] w fun e w' => e = .returned (.tuple #[.int .u32 (priorF j s x), .agg #[.int .u8 (outF (2 * priorF j s x + s % 2) a), .int .u8 (outF (2 * priorF j s x + s % 2) b), .int .u8 (third R (outF (2 * priorF j s x + s % 2) c))]]) ∧ Below w.heap.size w w' := by
  obtain ⟨h1, h2, h3⟩ := priorF_le hj hs hx
  have HO := hide fun w => out_any (j + 1) a b c (2 * priorF j s x + s % 2) R hR (by omega) hA hB hC w
  rw [show ((j : Int) + 1 + 1) = j + 2 by omega] at HO
  have HP := hide (prior_int hj hs hx)
  have HA2 := hide (show (2 * (priorF j s x : Int) % 4294967296 + (s : Int) % 2) = ((2 * priorF j s x + s % 2 : Nat) : Int) by omega)
  go_enter Try.func38, Try.ntmps38
  go_wp2_with fail
  rw [HP.out, HA2.out]
  refine (HO.out _).mono ?_
  rintro e w1 ⟨rfl, hb1⟩
  have r0 := bcell hb1 (b := w.heap.size + 1) (o := 0) (v := .int .u8 0) (by simp) (by simp [go_sem])
  have r1 := bcell hb1 (b := w.heap.size + 1) (o := 1) (v := .int .u8 0) (by simp) (by simp [go_sem])
  have r2 := bcell hb1 (b := w.heap.size + 1) (o := 2) (v := .int .u8 0) (by simp) (by simp [go_sem])
  have f0 := bfrozen hb1 (b := w.heap.size + 1) (o := 0) (by simp) (by simp [go_sem])
  have f1 := bfrozen hb1 (b := w.heap.size + 1) (o := 1) (by simp) (by simp [go_sem])
  have f2 := bfrozen hb1 (b := w.heap.size + 1) (o := 2) (by simp) (by simp [go_sem])
  have hz1 : w.heap.size + 1 < w1.heap.size := by have := hb1.size; simp at this; omega
  go_wp2_with fail
  refine bodyPost_ret (v := .tuple #[.int .u32 (priorF j s x), .agg #[.int .u8 (outF (2 * priorF j s x + s % 2) a), .int .u8 (outF (2 * priorF j s x + s % 2) b), .int .u8 (third R (outF (2 * priorF j s x + s % 2) c))]]) (by simp [results, Try.results38, go_sem, r0, r1, r2, HP.out]) rfl ⟨rfl, ?_⟩
  exact ((((below_two hb1)).setCell (by simp) _).setCell (by simp) _).setCell (by simp) _
end Go.Proofs.Ytpmnbdkncmjafaa
