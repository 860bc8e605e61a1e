/- Step and Back, the code's and the document's, where the code, the state or the bit is refused. -/
import Derived.Test.YtpmnbdkncmjafaaRows
import Derived.Test.YtpmnbdkncmjafaaWrong
import Derived.Test.YtpmnbdkncmjafaaPrior
namespace Go.Proofs.Ytpmnbdkncmjafaa
open Go.RowKit

set_option linter.unusedVariables false in
set_option maxHeartbeats 1000000 in
theorem tstep_bad (K R : Int) (a b c s x : Nat) (hA : a ≤ 4294967295) (hB : b ≤ 4294967295) (hC : c ≤ 4294967295) (hs : s ≤ 4294967295) (hx : x ≤ 255) (hne : rightF K R a b c s x ≠ 0) (w : World) :
    Calls Try.prog 12 #[.agg #[.int .i64 K, .int .i64 R, .int .u32 a, .int .u32 b, .int .u32 c], .int .u32 s, .int .u8 x] w fun e w' => e = .returned (.tuple #[.int .u32 0, .agg #[.int .u8 0, .int .u8 0, .int .u8 0], .int .i64 (rightF K R a b c s x)]) ∧ Below w.heap.size w w' := by
  have HC := hide (right_any K R a b c s x hA hB hC hs hx)
  have hcb := nzBne hne
  generalize rightF K R a b c s x = rf at *
  clear hne
  go_enter Try.func12, Try.ntmps12
  go_wp2_with fail
  refine (HC.out _).mono ?_
  rintro e w1 ⟨rfl, hb1⟩
  have hz1 : w.heap.size + 1 < w1.heap.size := by have := hb1.size; simp at this; omega
  have r0 := bcell hb1 (b := w.heap.size + 1) (o := 0) (v := .int .u8 0) (by simp) (by simp [go_sem])
  have r1 := bcell hb1 (b := w.heap.size + 1) (o := 1) (v := .int .u8 0) (by simp) (by simp [go_sem])
  have r2 := bcell hb1 (b := w.heap.size + 1) (o := 2) (v := .int .u8 0) (by simp) (by simp [go_sem])
  have f0 := bfrozen hb1 (b := w.heap.size + 1) (o := 0) (by simp) (by simp [go_sem])
  have f1 := bfrozen hb1 (b := w.heap.size + 1) (o := 1) (by simp) (by simp [go_sem])
  have f2 := bfrozen hb1 (b := w.heap.size + 1) (o := 2) (by simp) (by simp [go_sem])
  go_wp2_with fail
  refine bodyPost_ret (v := .tuple #[.int .u32 0, .agg #[.int .u8 0, .int .u8 0, .int .u8 0], .int .i64 rf]) (by simp [results, Try.results12, go_sem, r0, r1, r2]) rfl ⟨rfl, ?_⟩
  exact ((((below_two hb1)).setCell (by simp) _).setCell (by simp) _).setCell (by simp) _

set_option linter.unusedVariables false in
set_option maxHeartbeats 1000000 in
theorem tback_bad (K R : Int) (a b c s x : Nat) (hA : a ≤ 4294967295) (hB : b ≤ 4294967295) (hC : c ≤ 4294967295) (hs : s ≤ 4294967295) (hx : x ≤ 255) (hne : rightF K R a b c s x ≠ 0) (w : World) :
    Calls Try.prog 13 #[.agg #[.int .i64 K, .int .i64 R, .int .u32 a, .int .u32 b, .int .u32 c], .int .u32 s, .int .u8 x] w fun e w' => e = .returned (.tuple #[.int .u32 0, .agg #[.int .u8 0, .int .u8 0, .int .u8 0], .int .i64 (rightF K R a b c s x)]) ∧ Below w.heap.size w w' := by
  have HC := hide (right_any K R a b c s x hA hB hC hs hx)
  have hcb := nzBne hne
  generalize rightF K R a b c s x = rf at *
  clear hne
  go_enter Try.func13, Try.ntmps13
  go_wp2_with fail
  refine (HC.out _).mono ?_
  rintro e w1 ⟨rfl, hb1⟩
  have hz1 : w.heap.size + 1 < w1.heap.size := by have := hb1.size; simp at this; omega
  have r0 := bcell hb1 (b := w.heap.size + 1) (o := 0) (v := .int .u8 0) (by simp) (by simp [go_sem])
  have r1 := bcell hb1 (b := w.heap.size + 1) (o := 1) (v := .int .u8 0) (by simp) (by simp [go_sem])
  have r2 := bcell hb1 (b := w.heap.size + 1) (o := 2) (v := .int .u8 0) (by simp) (by simp [go_sem])
  have f0 := bfrozen hb1 (b := w.heap.size + 1) (o := 0) (by simp) (by simp [go_sem])
  have f1 := bfrozen hb1 (b := w.heap.size + 1) (o := 1) (by simp) (by simp [go_sem])
  have f2 := bfrozen hb1 (b := w.heap.size + 1) (o := 2) (by simp) (by simp [go_sem])
  go_wp2_with fail
  refine bodyPost_ret (v := .tuple #[.int .u32 0, .agg #[.int .u8 0, .int .u8 0, .int .u8 0], .int .i64 rf]) (by simp [results, Try.results13, go_sem, r0, r1, r2]) rfl ⟨rfl, ?_⟩
  exact ((((below_two hb1)).setCell (by simp) _).setCell (by simp) _).setCell (by simp) _

set_option linter.unusedVariables false in
set_option maxHeartbeats 1000000 in
theorem rstep_bad (K R : Int) (a b c s x : Nat) (hA : a ≤ 4294967295) (hB : b ≤ 4294967295) (hC : c ≤ 4294967295) (hs : s ≤ 4294967295) (hx : x ≤ 255) (hne : rightF K R a b c s x ≠ 0) (w : World) :
    Calls Try.prog 14 #[.agg #[.int .i64 K, .int .i64 R, .int .u32 a, .int .u32 b, .int .u32 c], .int .u32 s, .int .u8 x] w fun e w' => e = .returned (.tuple #[.int .u32 0, .agg #[.int .u8 0, .int .u8 0, .int .u8 0], .int .i64 (rightF K R a b c s x)]) ∧ Below w.heap.size w w' := by
  have HC := hide (wrong_any K R a b c s x hA hB hC hs hx)
  have hcb := nzBne hne
  generalize rightF K R a b c s x = rf at *
  clear hne
  go_enter Try.func14, Try.ntmps14
  go_wp2_with fail
  refine (HC.out _).mono ?_
  rintro e w1 ⟨rfl, hb1⟩
  have hz1 : w.heap.size + 1 < w1.heap.size := by have := hb1.size; simp at this; omega
  have r0 := bcell hb1 (b := w.heap.size + 1) (o := 0) (v := .int .u8 0) (by simp) (by simp [go_sem])
  have r1 := bcell hb1 (b := w.heap.size + 1) (o := 1) (v := .int .u8 0) (by simp) (by simp [go_sem])
  have r2 := bcell hb1 (b := w.heap.size + 1) (o := 2) (v := .int .u8 0) (by simp) (by simp [go_sem])
  have f0 := bfrozen hb1 (b := w.heap.size + 1) (o := 0) (by simp) (by simp [go_sem])
  have f1 := bfrozen hb1 (b := w.heap.size + 1) (o := 1) (by simp) (by simp [go_sem])
  have f2 := bfrozen hb1 (b := w.heap.size + 1) (o := 2) (by simp) (by simp [go_sem])
  go_wp2_with fail
  refine bodyPost_ret (v := .tuple #[.int .u32 0, .agg #[.int .u8 0, .int .u8 0, .int .u8 0], .int .i64 rf]) (by simp [results, Try.results14, go_sem, r0, r1, r2]) rfl ⟨rfl, ?_⟩
  exact ((((below_two hb1)).setCell (by simp) _).setCell (by simp) _).setCell (by simp) _

set_option linter.unusedVariables false in
set_option maxHeartbeats 1000000 in
theorem rback_bad (K R : Int) (a b c s x : Nat) (hA : a ≤ 4294967295) (hB : b ≤ 4294967295) (hC : c ≤ 4294967295) (hs : s ≤ 4294967295) (hx : x ≤ 255) (hne : rightF K R a b c s x ≠ 0) (w : World) :
    Calls Try.prog 15 #[.agg #[.int .i64 K, .int .i64 R, .int .u32 a, .int .u32 b, .int .u32 c], .int .u32 s, .int .u8 x] w fun e w' => e = .returned (.tuple #[.int .u32 0, .agg #[.int .u8 0, .int .u8 0, .int .u8 0], .int .i64 (rightF K R a b c s x)]) ∧ Below w.heap.size w w' := by
  have HC := hide (wrong_any K R a b c s x hA hB hC hs hx)
  have hcb := nzBne hne
  generalize rightF K R a b c s x = rf at *
  clear hne
  go_enter Try.func15, Try.ntmps15
  go_wp2_with fail
  refine (HC.out _).mono ?_
  rintro e w1 ⟨rfl, hb1⟩
  have hz1 : w.heap.size + 1 < w1.heap.size := by have := hb1.size; simp at this; omega
  have r0 := bcell hb1 (b := w.heap.size + 1) (o := 0) (v := .int .u8 0) (by simp) (by simp [go_sem])
  have r1 := bcell hb1 (b := w.heap.size + 1) (o := 1) (v := .int .u8 0) (by simp) (by simp [go_sem])
  have r2 := bcell hb1 (b := w.heap.size + 1) (o := 2) (v := .int .u8 0) (by simp) (by simp [go_sem])
  have f0 := bfrozen hb1 (b := w.heap.size + 1) (o := 0) (by simp) (by simp [go_sem])
  have f1 := bfrozen hb1 (b := w.heap.size + 1) (o := 1) (by simp) (by simp [go_sem])
  have f2 := bfrozen hb1 (b := w.heap.size + 1) (o := 2) (by simp) (by simp [go_sem])
  go_wp2_with fail
  refine bodyPost_ret (v := .tuple #[.int .u32 0, .agg #[.int .u8 0, .int .u8 0, .int .u8 0], .int .i64 rf]) (by simp [results, Try.results15, go_sem, r0, r1, r2]) rfl ⟨rfl, ?_⟩
  exact ((((below_two hb1)).setCell (by simp) _).setCell (by simp) _).setCell (by simp) _
end Go.Proofs.Ytpmnbdkncmjafaa
