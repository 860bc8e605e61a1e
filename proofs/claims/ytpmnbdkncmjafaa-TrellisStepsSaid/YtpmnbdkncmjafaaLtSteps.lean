/- The law TrellisSteps, walked: it returns true. -/
import Derived.Test.YtpmnbdkncmjafaaRows
import Derived.Test.YtpmnbdkncmjafaaTKnows
import Derived.Deep.RegionHeld3
namespace Go.Proofs.Ytpmnbdkncmjafaa
open Go.RowKit

set_option maxHeartbeats 2000000 in
theorem law_steps (K R : Int) (a b c s x : Nat) (hA : a ≤ 4294967295) (hB : b ≤ 4294967295) (hC : c ≤ 4294967295) (hs : s ≤ 4294967295) (hx : x ≤ 255) (w : World) :
    Calls Try.prog 3 #[.agg #[.int .i64 K, .int .i64 R, .int .u32 a, .int .u32 b, .int .u32 c], .int .u32 s, .int .u8 x] w fun e w' => e = .returned (.bool true) ∧ Below w.heap.size w w' := by
  have H1 := hide (steps_any K R a b c s x hA hB hC hs hx).1
  have H2 := hide (steps_any K R a b c s x hA hB hC hs hx).2
  have H3 := hide (rsteps_any K R a b c s x hA hB hC hs hx).1
  have H4 := hide (rsteps_any K R a b c s x hA hB hC hs hx).2
  generalize rightF K R a b c s x = er at *
  generalize (stepF K R a b c s x).1 = t at *
  generalize (stepF K R a b c s x).2.1 = y0 at *
  generalize (stepF K R a b c s x).2.2.1 = y1 at *
  generalize (stepF K R a b c s x).2.2.2 = y2 at *
  generalize (backF K R a b c s x).1 = u at *
  generalize (backF K R a b c s x).2.1 = z0 at *
  generalize (backF K R a b c s x).2.2.1 = z1 at *
  generalize (backF K R a b c s x).2.2.2 = z2 at *
  have eq1 := eq_sym_same y0 y1 y2
  have eq2 := eq_sym_same z0 z1 z2
  go_enter Try.func3, Try.ntmps3
  go_wp2_with fail
  refine (H1.out _).mono ?_
  rintro e w1 ⟨rfl, hb1⟩
  have hz1 := size_mid hb1
  have c0 := bcell hb1 (b := w.heap.size) (o := 0) (v := .int .i64 K) (by simp) (by simp [go_sem])
  have c1 := bcell hb1 (b := w.heap.size) (o := 1) (v := .int .i64 R) (by simp) (by simp [go_sem])
  have c2 := bcell hb1 (b := w.heap.size) (o := 2) (v := .int .u32 a) (by simp) (by simp [go_sem])
  have c3 := bcell hb1 (b := w.heap.size) (o := 3) (v := .int .u32 b) (by simp) (by simp [go_sem])
  have c4 := bcell hb1 (b := w.heap.size) (o := 4) (v := .int .u32 c) (by simp) (by simp [go_sem])
  go_wp2_with fail
  refine (H2.out _).mono ?_
  rintro e w2 ⟨rfl, hb2⟩
  have hz2 := size_mid hb2
  have g20 : w.heap.size < w2.heap.size := by omega
  replace c0 := bcell_mid hb2 (by omega) c0
  replace c1 := bcell_mid hb2 (by omega) c1
  replace c2 := bcell_mid hb2 (by omega) c2
  replace c3 := bcell_mid hb2 (by omega) c3
  replace c4 := bcell_mid hb2 (by omega) c4
  have q10 := bcell hb2 (b := w1.heap.size) (o := 0) (v := .int .u8 y0) (by simp) (by simp [go_sem])
  have q11 := bcell hb2 (b := w1.heap.size) (o := 1) (v := .int .u8 y1) (by simp) (by simp [go_sem])
  have q12 := bcell hb2 (b := w1.heap.size) (o := 2) (v := .int .u8 y2) (by simp) (by simp [go_sem])
  go_wp2_with fail
  refine (H3.out _).mono ?_
  rintro e w3 ⟨rfl, hb3⟩
  have hz3 := size_mid hb3
  have g30 : w.heap.size < w3.heap.size := by omega
  have g31 : w1.heap.size < w3.heap.size := by omega
  replace c0 := bcell_mid hb3 (by omega) c0
  replace c1 := bcell_mid hb3 (by omega) c1
  replace c2 := bcell_mid hb3 (by omega) c2
  replace c3 := bcell_mid hb3 (by omega) c3
  replace c4 := bcell_mid hb3 (by omega) c4
  replace q10 := bcell_mid hb3 (by omega) q10
  replace q11 := bcell_mid hb3 (by omega) q11
  replace q12 := bcell_mid hb3 (by omega) q12
  have q20 := bcell hb3 (b := w2.heap.size) (o := 0) (v := .int .u8 z0) (by simp) (by simp [go_sem])
  have q21 := bcell hb3 (b := w2.heap.size) (o := 1) (v := .int .u8 z1) (by simp) (by simp [go_sem])
  have q22 := bcell hb3 (b := w2.heap.size) (o := 2) (v := .int .u8 z2) (by simp) (by simp [go_sem])
  go_wp2_with fail
  refine (H4.out _).mono ?_
  rintro e w4 ⟨rfl, hb4⟩
  have hz4 := size_mid hb4
  have g40 : w.heap.size < w4.heap.size := by omega
  have g41 : w1.heap.size < w4.heap.size := by omega
  have g42 : w2.heap.size < w4.heap.size := by omega
  replace c0 := bcell_mid hb4 (by omega) c0
  replace c1 := bcell_mid hb4 (by omega) c1
  replace c2 := bcell_mid hb4 (by omega) c2
  replace c3 := bcell_mid hb4 (by omega) c3
  replace c4 := bcell_mid hb4 (by omega) c4
  replace q10 := bcell_mid hb4 (by omega) q10
  replace q11 := bcell_mid hb4 (by omega) q11
  replace q12 := bcell_mid hb4 (by omega) q12
  replace q20 := bcell_mid hb4 (by omega) q20
  replace q21 := bcell_mid hb4 (by omega) q21
  replace q22 := bcell_mid hb4 (by omega) q22
  have q30 := bcell hb4 (b := w3.heap.size) (o := 0) (v := .int .u8 y0) (by simp) (by simp [go_sem])
  have q31 := bcell hb4 (b := w3.heap.size) (o := 1) (v := .int .u8 y1) (by simp) (by simp [go_sem])
  have q32 := bcell hb4 (b := w3.heap.size) (o := 2) (v := .int .u8 y2) (by simp) (by simp [go_sem])
  have hfin := below_mid (below_mid (below_mid (below_one hb1) hb2) hb3) hb4
  go_wp2_with fail
  refine (num_any _ _).mono ?_
  rintro e w' ⟨rfl, rfl⟩
  go_wp2_with fail
  refine (num_any _ _).mono ?_
  rintro e w' ⟨rfl, rfl⟩
  go_wp2_with fail
  refine (knows_any _).mono ?_
  rintro e w5 ⟨rfl, hb5⟩
  go_wp2_with fail
  go_ret
  exact ⟨rfl, below_mid hfin hb5⟩
end Go.Proofs.Ytpmnbdkncmjafaa
