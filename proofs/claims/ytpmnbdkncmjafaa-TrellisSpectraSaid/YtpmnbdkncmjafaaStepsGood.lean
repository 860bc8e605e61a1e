/- Step and Back, the code's and the document's, of a good code. -/
import Derived.Test.YtpmnbdkncmjafaaRows
import Derived.Test.YtpmnbdkncmjafaaStepsBad
namespace Go.Proofs.Ytpmnbdkncmjafaa
open Go.RowKit

theorem back_or {j s x : Nat} (hj : 1 ≤ j ∧ j ≤ 30) (hs : s < 2 ^ (j + 1)) (hx : x ≤ 1) : bits .or .u32 ((s : Int) / 2) ((x : Int) * 2 ^ j % 4294967296) = (priorF j s x : Nat) := by
  have h := Nat.pow_le_pow_right (n := 2) (by omega) (show j + 1 ≤ 31 by omega)
  have h2 := Nat.pow_le_pow_right (n := 2) (by omega) (show j ≤ 30 by omega)
  have e0 : 2 ^ (j + 1) = 2 * 2 ^ j := by rw [Nat.pow_succ]; omega
  have h01 : x = 0 ∨ x = 1 := by omega
  have hx2 : x * 2 ^ j ≤ 2 ^ 30 := by rcases h01 with rfl | rfl <;> omega
  have e1 : ((x : Int) * 2 ^ j % 4294967296) = ((x * 2 ^ j : Nat) : Int) := by
    rw [show (x : Int) * 2 ^ j = ((x * 2 ^ j : Nat) : Int) by push_cast; rfl]; omega
  have e2 : (s : Int) / 2 = ((s / 2 : Nat) : Int) := by omega
  rw [e1, e2, or32 (by omega) (by omega)]
  have e3 : s / 2 ||| x * 2 ^ j = x * 2 ^ j + s / 2 := by
    have := Nat.two_pow_add_eq_or_of_lt (i := j) (b := s / 2) (by omega) x
    rw [Nat.mul_comm x, this, Nat.or_comm]
  rw [e3]
  unfold priorF
  omega
theorem low_byte {s : Nat} (hs : s ≤ 4294967295) : bits .and .u32 (s : Int) 1 = ((s % 2 : Nat) : Int) := low32 hs


set_option linter.unusedVariables false in
set_option maxHeartbeats 1000000 in
theorem tstep_good (R : Int) (j a b c s x : Nat) (hR : R = 2 ∨ R = 3) (hj : 1 ≤ j ∧ j ≤ 30) (hA : a ≤ 4294967295) (hB : b ≤ 4294967295) (hC : c ≤ 4294967295) (hs : s < 2 ^ (j + 1)) (hx : x ≤ 1) (h0 : rightF (j + 2) R a b c s x = 0) (w : World) :
    Calls Try.prog 12 #[.agg #[.int .i64 (j + 2), .int .i64 R, .int .u32 a, .int .u32 b, .int .u32 c], .int .u32 s, .int .u8 x] w fun e w' => e = .returned (.tuple #[.int .u32 ((2 * s + x) % 2 ^ (j + 1) : Nat), .agg #[.int .u8 (outF (2 * s + x) a), .int .u8 (outF (2 * s + x) b), .int .u8 (third R (outF (2 * s + x) c))], .int .i64 0]) ∧ Below w.heap.size w w' := by
  have hp1 : 2 ^ (j + 1) ≤ 2 ^ 31 := Nat.pow_le_pow_right (by omega) (by omega)
  have hs2 : s ≤ 2147483647 := by omega
  have HC := hide (right_any (j + 2) R a b c s x hA hB hC (by omega) (by omega))
  rw [h0] at HC
  obtain ⟨h1, h2, h3⟩ := priorF_le hj hs hx
  have HS := hide fun w => step_any (j + 1) a b c s x R hR (by omega) hA hB hC hs2 hx w
  rw [show (((j + 1 : Nat) : Int) + 1) = (j : Int) + 2 by omega] at HS
  clear h0 hp1
  generalize outF (2 * s + x) a = y0 at *
  generalize outF (2 * s + x) b = y1 at *
  generalize third R (outF (2 * s + x) c) = y2 at *
  generalize (2 * s + x) % 2 ^ (j + 1) = t at *
  go_enter Try.func12, Try.ntmps12
  go_wp2_with fail
  refine (HC.out _).mono ?_
  rintro e w1 ⟨rfl, hb1⟩
  have hz1 : w.heap.size + 1 < w1.heap.size := by have := hb1.size; simp at this; omega
  have c0 := bcell hb1 (b := w.heap.size) (o := 0) (v := .int .i64 (j + 2)) (by simp; omega) (by simp [go_sem])
  have c1 := bcell hb1 (b := w.heap.size) (o := 1) (v := .int .i64 R) (by simp; omega) (by simp [go_sem])
  have c2 := bcell hb1 (b := w.heap.size) (o := 2) (v := .int .u32 a) (by simp; omega) (by simp [go_sem])
  have c3 := bcell hb1 (b := w.heap.size) (o := 3) (v := .int .u32 b) (by simp; omega) (by simp [go_sem])
  have c4 := bcell hb1 (b := w.heap.size) (o := 4) (v := .int .u32 c) (by simp; omega) (by simp [go_sem])
  have r0 := bcell hb1 (b := w.heap.size + 1) (o := 0) (v := .int .u8 0) (by simp) (by simp [go_sem])
  have r1 := bcell hb1 (b := w.heap.size + 1) (o := 1) (v := .int .u8 0) (by simp) (by simp [go_sem])
  have r2 := bcell hb1 (b := w.heap.size + 1) (o := 2) (v := .int .u8 0) (by simp) (by simp [go_sem])
  have f0 := bfrozen hb1 (b := w.heap.size + 1) (o := 0) (by simp) (by simp [go_sem])
  have f1 := bfrozen hb1 (b := w.heap.size + 1) (o := 1) (by simp) (by simp [go_sem])
  have f2 := bfrozen hb1 (b := w.heap.size + 1) (o := 2) (by simp) (by simp [go_sem])
  go_wp2_with fail
  refine (HS.out _).mono ?_
  rintro e w2 ⟨rfl, hb2⟩
  have r0' := bcell hb2 (b := w.heap.size + 1) (o := 0) (v := .int .u8 0) (by omega) r0
  have r1' := bcell hb2 (b := w.heap.size + 1) (o := 1) (v := .int .u8 0) (by omega) r1
  have r2' := bcell hb2 (b := w.heap.size + 1) (o := 2) (v := .int .u8 0) (by omega) r2
  have f0' := bfrozen hb2 (b := w.heap.size + 1) (o := 0) (by omega) f0
  have f1' := bfrozen hb2 (b := w.heap.size + 1) (o := 1) (by omega) f1
  have f2' := bfrozen hb2 (b := w.heap.size + 1) (o := 2) (by omega) f2
  have hz2 : w.heap.size + 1 < w2.heap.size := Nat.lt_of_lt_of_le hz1 hb2.size
  have hfin := (below_two hb1).trans (hb2.mono (by omega))
  go_wp2_with fail
  go_region_with (fail)
  all_goals
    go_wp2_with fail
    refine bodyPost_ret (v := .tuple #[.int .u32 t, .agg #[.int .u8 y0, .int .u8 y1, .int .u8 y2], .int .i64 0]) (by simp [results, Try.results12, go_sem, r0', r1', r2', hz2]) rfl ⟨rfl, ?_⟩
    exact ((((hfin.setCell (by simp) _).setCell (by simp) _).setCell (by simp) _).alloc (by simp; omega) _).drew


set_option linter.unusedVariables false in
set_option maxHeartbeats 1000000 in
theorem tback_good (R : Int) (j a b c s x : Nat) (hR : R = 2 ∨ R = 3) (hj : 1 ≤ j ∧ j ≤ 30) (hA : a ≤ 4294967295) (hB : b ≤ 4294967295) (hC : c ≤ 4294967295) (hs : s < 2 ^ (j + 1)) (hx : x ≤ 1) (h0 : rightF (j + 2) R a b c s x = 0) (w : World) :
    Calls Try.prog 13 #[.agg #[.int .i64 (j + 2), .int .i64 R, .int .u32 a, .int .u32 b, .int .u32 c], .int .u32 s, .int .u8 x] w fun e w' => e = .returned (.tuple #[.int .u32 (priorF j s x), .agg #[.int .u8 (outF (2 * priorF j s x + s % 2) a), .int .u8 (outF (2 * priorF j s x + s % 2) b), .int .u8 (third R (outF (2 * priorF j s x + s % 2) c))], .int .i64 0]) ∧ Below w.heap.size w w' := by
  have hp1 : 2 ^ (j + 1) ≤ 2 ^ 31 := Nat.pow_le_pow_right (by omega) (by omega)
  have hs2 : s ≤ 2147483647 := by omega
  have HC := hide (right_any (j + 2) R a b c s x hA hB hC (by omega) (by omega))
  rw [h0] at HC
  obtain ⟨h1, h2, h3⟩ := priorF_le hj hs hx
  have HS := hide fun w => step_any (j + 1) a b c (priorF j s x) (s % 2) R hR (by omega) hA hB hC h2 (by omega) w
  rw [show (((j + 1 : Nat) : Int) + 1) = (j : Int) + 2 by omega] at HS
  clear h0 hp1
  generalize outF (2 * priorF j s x + s % 2) a = y0 at *
  generalize outF (2 * priorF j s x + s % 2) b = y1 at *
  generalize third R (outF (2 * priorF j s x + s % 2) c) = y2 at *
  have eo := back_or hj hs hx
  have eb := low_byte (s := s) (by omega)
  have hs3 := priorF_le hj hs hx
  generalize priorF j s x = t at *
  have hq : ((s % 2 : Nat) : Int) % 256 = (s % 2 : Nat) := by omega
  generalize s % 2 = q at *
  go_enter Try.func13, Try.ntmps13
  go_wp2_with fail
  refine (HC.out _).mono ?_
  rintro e w1 ⟨rfl, hb1⟩
  have hz1 : w.heap.size + 1 < w1.heap.size := by have := hb1.size; simp at this; omega
  have c0 := bcell hb1 (b := w.heap.size) (o := 0) (v := .int .i64 (j + 2)) (by simp; omega) (by simp [go_sem])
  have c1 := bcell hb1 (b := w.heap.size) (o := 1) (v := .int .i64 R) (by simp; omega) (by simp [go_sem])
  have c2 := bcell hb1 (b := w.heap.size) (o := 2) (v := .int .u32 a) (by simp; omega) (by simp [go_sem])
  have c3 := bcell hb1 (b := w.heap.size) (o := 3) (v := .int .u32 b) (by simp; omega) (by simp [go_sem])
  have c4 := bcell hb1 (b := w.heap.size) (o := 4) (v := .int .u32 c) (by simp; omega) (by simp [go_sem])
  have r0 := bcell hb1 (b := w.heap.size + 1) (o := 0) (v := .int .u8 0) (by simp) (by simp [go_sem])
  have r1 := bcell hb1 (b := w.heap.size + 1) (o := 1) (v := .int .u8 0) (by simp) (by simp [go_sem])
  have r2 := bcell hb1 (b := w.heap.size + 1) (o := 2) (v := .int .u8 0) (by simp) (by simp [go_sem])
  have f0 := bfrozen hb1 (b := w.heap.size + 1) (o := 0) (by simp) (by simp [go_sem])
  have f1 := bfrozen hb1 (b := w.heap.size + 1) (o := 1) (by simp) (by simp [go_sem])
  have f2 := bfrozen hb1 (b := w.heap.size + 1) (o := 2) (by simp) (by simp [go_sem])
  go_wp2_with fail
  refine (HS.out _).mono ?_
  rintro e w2 ⟨rfl, hb2⟩
  have r0' := bcell hb2 (b := w.heap.size + 1) (o := 0) (v := .int .u8 0) (by omega) r0
  have r1' := bcell hb2 (b := w.heap.size + 1) (o := 1) (v := .int .u8 0) (by omega) r1
  have r2' := bcell hb2 (b := w.heap.size + 1) (o := 2) (v := .int .u8 0) (by omega) r2
  have f0' := bfrozen hb2 (b := w.heap.size + 1) (o := 0) (by omega) f0
  have f1' := bfrozen hb2 (b := w.heap.size + 1) (o := 1) (by omega) f1
  have f2' := bfrozen hb2 (b := w.heap.size + 1) (o := 2) (by omega) f2
  have hz2 : w.heap.size + 1 < w2.heap.size := Nat.lt_of_lt_of_le hz1 hb2.size
  have hfin := (below_two hb1).trans (hb2.mono (by omega))
  go_wp2_with fail
  go_region_with (fail)
  all_goals
    go_wp2_with fail
    refine bodyPost_ret (v := .tuple #[.int .u32 t, .agg #[.int .u8 y0, .int .u8 y1, .int .u8 y2], .int .i64 0]) (by simp [results, Try.results13, go_sem, r0', r1', r2', hz2]) rfl ⟨rfl, ?_⟩
    exact ((((hfin.setCell (by simp) _).setCell (by simp) _).setCell (by simp) _).alloc (by simp; omega) _).drew


set_option linter.unusedVariables false in
set_option maxHeartbeats 1000000 in
theorem rstep_good (R : Int) (j a b c s x : Nat) (hR : R = 2 ∨ R = 3) (hj : 1 ≤ j ∧ j ≤ 30) (hA : a ≤ 4294967295) (hB : b ≤ 4294967295) (hC : c ≤ 4294967295) (hs : s < 2 ^ (j + 1)) (hx : x ≤ 1) (h0 : rightF (j + 2) R a b c s x = 0) (w : World) :
    Calls Try.prog 14 #[.agg #[.int .i64 (j + 2), .int .i64 R, .int .u32 a, .int .u32 b, .int .u32 c], .int .u32 s, .int .u8 x] w fun e w' => e = .returned (.tuple #[.int .u32 ((2 * s + x) % 2 ^ (j + 1) : Nat), .agg #[.int .u8 (outF (2 * s + x) a), .int .u8 (outF (2 * s + x) b), .int .u8 (third R (outF (2 * s + x) c))], .int .i64 0]) ∧ Below w.heap.size w w' := by
  have hp1 : 2 ^ (j + 1) ≤ 2 ^ 31 := Nat.pow_le_pow_right (by omega) (by omega)
  have hs2 : s ≤ 2147483647 := by omega
  have HC := hide (wrong_any (j + 2) R a b c s x hA hB hC (by omega) (by omega))
  rw [h0] at HC
  obtain ⟨h1, h2, h3⟩ := priorF_le hj hs hx
  have HS := hide fun w => next_any (j + 1) a b c s x R hR (by omega) hA hB hC hs2 hx w
  rw [show (((j + 1 : Nat) : Int) + 1) = (j : Int) + 2 by omega] at HS
  clear h0 hp1
  generalize outF (2 * s + x) a = y0 at *
  generalize outF (2 * s + x) b = y1 at *
  generalize third R (outF (2 * s + x) c) = y2 at *
  generalize (2 * s + x) % 2 ^ (j + 1) = t at *
  go_enter Try.func14, Try.ntmps14
  go_wp2_with fail
  refine (HC.out _).mono ?_
  rintro e w1 ⟨rfl, hb1⟩
  have hz1 : w.heap.size + 1 < w1.heap.size := by have := hb1.size; simp at this; omega
  have c0 := bcell hb1 (b := w.heap.size) (o := 0) (v := .int .i64 (j + 2)) (by simp; omega) (by simp [go_sem])
  have c1 := bcell hb1 (b := w.heap.size) (o := 1) (v := .int .i64 R) (by simp; omega) (by simp [go_sem])
  have c2 := bcell hb1 (b := w.heap.size) (o := 2) (v := .int .u32 a) (by simp; omega) (by simp [go_sem])
  have c3 := bcell hb1 (b := w.heap.size) (o := 3) (v := .int .u32 b) (by simp; omega) (by simp [go_sem])
  have c4 := bcell hb1 (b := w.heap.size) (o := 4) (v := .int .u32 c) (by simp; omega) (by simp [go_sem])
  have r0 := bcell hb1 (b := w.heap.size + 1) (o := 0) (v := .int .u8 0) (by simp) (by simp [go_sem])
  have r1 := bcell hb1 (b := w.heap.size + 1) (o := 1) (v := .int .u8 0) (by simp) (by simp [go_sem])
  have r2 := bcell hb1 (b := w.heap.size + 1) (o := 2) (v := .int .u8 0) (by simp) (by simp [go_sem])
  have f0 := bfrozen hb1 (b := w.heap.size + 1) (o := 0) (by simp) (by simp [go_sem])
  have f1 := bfrozen hb1 (b := w.heap.size + 1) (o := 1) (by simp) (by simp [go_sem])
  have f2 := bfrozen hb1 (b := w.heap.size + 1) (o := 2) (by simp) (by simp [go_sem])
  go_wp2_with fail
  refine (HS.out _).mono ?_
  rintro e w2 ⟨rfl, hb2⟩
  have r0' := bcell hb2 (b := w.heap.size + 1) (o := 0) (v := .int .u8 0) (by omega) r0
  have r1' := bcell hb2 (b := w.heap.size + 1) (o := 1) (v := .int .u8 0) (by omega) r1
  have r2' := bcell hb2 (b := w.heap.size + 1) (o := 2) (v := .int .u8 0) (by omega) r2
  have f0' := bfrozen hb2 (b := w.heap.size + 1) (o := 0) (by omega) f0
  have f1' := bfrozen hb2 (b := w.heap.size + 1) (o := 1) (by omega) f1
  have f2' := bfrozen hb2 (b := w.heap.size + 1) (o := 2) (by omega) f2
  have hz2 : w.heap.size + 1 < w2.heap.size := Nat.lt_of_lt_of_le hz1 hb2.size
  have hfin := (below_two hb1).trans (hb2.mono (by omega))
  go_wp2_with fail
  go_region_with (fail)
  all_goals
    go_wp2_with fail
    refine bodyPost_ret (v := .tuple #[.int .u32 t, .agg #[.int .u8 y0, .int .u8 y1, .int .u8 y2], .int .i64 0]) (by simp [results, Try.results14, go_sem, r0', r1', r2', hz2]) rfl ⟨rfl, ?_⟩
    exact ((((hfin.setCell (by simp) _).setCell (by simp) _).setCell (by simp) _).alloc (by simp; omega) _).drew


set_option linter.unusedVariables false in
set_option maxHeartbeats 1000000 in
theorem rback_good (R : Int) (j a b c s x : Nat) (hR : R = 2 ∨ R = 3) (hj : 1 ≤ j ∧ j ≤ 30) (hA : a ≤ 4294967295) (hB : b ≤ 4294967295) (hC : c ≤ 4294967295) (hs : s < 2 ^ (j + 1)) (hx : x ≤ 1) (h0 : rightF (j + 2) R a b c s x = 0) (w : World) :
    Calls Try.prog 15 #[.agg #[.int .i64 (j + 2), .int .i64 R, .int .u32 a, .int .u32 b, .int .u32 c], .int .u32 s, .int .u8 x] w fun e w' => e = .returned (.tuple #[.int .u32 (priorF j s x), .agg #[.int .u8 (outF (2 * priorF j s x + s % 2) a), .int .u8 (outF (2 * priorF j s x + s % 2) b), .int .u8 (third R (outF (2 * priorF j s x + s % 2) c))], .int .i64 0]) ∧ Below w.heap.size w w' := by
  have hp1 : 2 ^ (j + 1) ≤ 2 ^ 31 := Nat.pow_le_pow_right (by omega) (by omega)
  have hs2 : s ≤ 2147483647 := by omega
  have HC := hide (wrong_any (j + 2) R a b c s x hA hB hC (by omega) (by omega))
  rw [h0] at HC
  obtain ⟨h1, h2, h3⟩ := priorF_le hj hs hx
  have HS := hide fun w => prior_any j a b c s x R hR hj hA hB hC hs hx w
  clear h0 hp1
  generalize outF (2 * priorF j s x + s % 2) a = y0 at *
  generalize outF (2 * priorF j s x + s % 2) b = y1 at *
  generalize third R (outF (2 * priorF j s x + s % 2) c) = y2 at *
  generalize priorF j s x = t at *
  go_enter Try.func15, Try.ntmps15
  go_wp2_with fail
  refine (HC.out _).mono ?_
  rintro e w1 ⟨rfl, hb1⟩
  have hz1 : w.heap.size + 1 < w1.heap.size := by have := hb1.size; simp at this; omega
  have c0 := bcell hb1 (b := w.heap.size) (o := 0) (v := .int .i64 (j + 2)) (by simp; omega) (by simp [go_sem])
  have c1 := bcell hb1 (b := w.heap.size) (o := 1) (v := .int .i64 R) (by simp; omega) (by simp [go_sem])
  have c2 := bcell hb1 (b := w.heap.size) (o := 2) (v := .int .u32 a) (by simp; omega) (by simp [go_sem])
  have c3 := bcell hb1 (b := w.heap.size) (o := 3) (v := .int .u32 b) (by simp; omega) (by simp [go_sem])
  have c4 := bcell hb1 (b := w.heap.size) (o := 4) (v := .int .u32 c) (by simp; omega) (by simp [go_sem])
  have r0 := bcell hb1 (b := w.heap.size + 1) (o := 0) (v := .int .u8 0) (by simp) (by simp [go_sem])
  have r1 := bcell hb1 (b := w.heap.size + 1) (o := 1) (v := .int .u8 0) (by simp) (by simp [go_sem])
  have r2 := bcell hb1 (b := w.heap.size + 1) (o := 2) (v := .int .u8 0) (by simp) (by simp [go_sem])
  have f0 := bfrozen hb1 (b := w.heap.size + 1) (o := 0) (by simp) (by simp [go_sem])
  have f1 := bfrozen hb1 (b := w.heap.size + 1) (o := 1) (by simp) (by simp [go_sem])
  have f2 := bfrozen hb1 (b := w.heap.size + 1) (o := 2) (by simp) (by simp [go_sem])
  go_wp2_with fail
  refine (HS.out _).mono ?_
  rintro e w2 ⟨rfl, hb2⟩
  have r0' := bcell hb2 (b := w.heap.size + 1) (o := 0) (v := .int .u8 0) (by omega) r0
  have r1' := bcell hb2 (b := w.heap.size + 1) (o := 1) (v := .int .u8 0) (by omega) r1
  have r2' := bcell hb2 (b := w.heap.size + 1) (o := 2) (v := .int .u8 0) (by omega) r2
  have f0' := bfrozen hb2 (b := w.heap.size + 1) (o := 0) (by omega) f0
  have f1' := bfrozen hb2 (b := w.heap.size + 1) (o := 1) (by omega) f1
  have f2' := bfrozen hb2 (b := w.heap.size + 1) (o := 2) (by omega) f2
  have hz2 : w.heap.size + 1 < w2.heap.size := Nat.lt_of_lt_of_le hz1 hb2.size
  have hfin := (below_two hb1).trans (hb2.mono (by omega))
  go_wp2_with fail
  go_region_with (fail)
  all_goals
    go_wp2_with fail
    refine bodyPost_ret (v := .tuple #[.int .u32 t, .agg #[.int .u8 y0, .int .u8 y1, .int .u8 y2], .int .i64 0]) (by simp [results, Try.results15, go_sem, r0', r1', r2', hz2]) rfl ⟨rfl, ?_⟩
    exact ((((hfin.setCell (by simp) _).setCell (by simp) _).setCell (by simp) _).alloc (by simp; omega) _).drew

end Go.Proofs.Ytpmnbdkncmjafaa
