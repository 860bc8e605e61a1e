/- num, k3, knows of outpostlaw07. -/
import Derived.Test.YtpmnbdkncmjafaaRows
import Derived.Test.YtpmnbdkncmjafaaStepsAny
namespace Go.Proofs.Ytpmnbdkncmjafaa
open Go.RowKit

theorem num_any (x : Int) (w : World) :
    Calls Try.prog 16 #[.int .i64 x] w fun e w' => e = .returned (.int .i64 x) ∧ w = w' := by
  go_enter Try.func16, Try.ntmps16
  go_wp2_with fail
  go_ret
  exact ⟨rfl, rfl⟩
theorem below_mid {w w1 w2 : World} {o : Obj} (h : Below w.heap.size w w1) (h2 : Below (w1.alloc o).heap.size (w1.alloc o) w2) : Below w.heap.size w w2 :=
  h.trans ((below_one h2).mono h.size)
theorem bcell_mid {w1 w2 : World} {o : Obj} {b i : Nat} {v : Value} (h2 : Below (w1.alloc o).heap.size (w1.alloc o) w2) (hlt : b < w1.heap.size) (hc : w1.cell? ⟨b, i, none⟩ = some v) : w2.cell? ⟨b, i, none⟩ = some v :=
  bcell h2 (by simp; omega) ((World.cell?_alloc_lt w1 o ⟨b, i, none⟩ hlt).trans hc)
theorem size_mid {w1 w2 : World} {o : Obj} (h2 : Below (w1.alloc o).heap.size (w1.alloc o) w2) : w1.heap.size < w2.heap.size := by
  have := h2.size; simp at this; omega
theorem k3_any (w : World) :
    Calls Try.prog 39 #[] w fun e w' => e = .returned (.agg #[.int .i64 3, .int .i64 2, .int .u32 7, .int .u32 5, .int .u32 0]) ∧ Below w.heap.size w w' := by
  go_enter Try.func39, Try.ntmps39
  go_wp2_with fail
  refine bodyPost_ret (v := .agg #[.int .i64 3, .int .i64 2, .int .u32 7, .int .u32 5, .int .u32 0]) (by simp [results, Try.results39, go_sem]) rfl ⟨rfl, ?_⟩
  exact (Below.refl _ _).alloc (Nat.le_refl _) _
theorem k3_step : rightF 3 2 7 5 0 1 0 = 0 ∧ stepF 3 2 7 5 0 1 0 = (2, 1, 0, 0) := by
  have h : rightF 3 2 7 5 0 1 0 = 0 := rightF_good (okB_ok (by decide +kernel)) (by decide) (by decide)
  refine ⟨h, ?_⟩
  rw [stepF_good h]
  decide
set_option maxRecDepth 100000 in
set_option maxHeartbeats 1000000 in
theorem knows_any (w : World) :
    Calls Try.prog 17 #[] w fun e w' => e = .returned (.bool true) ∧ Below w.heap.size w w' := by
  have HS := hide (steps_any 3 2 7 5 0 1 0 (by omega) (by omega) (by omega) (by omega) (by omega)).1
  rw [k3_step.1, k3_step.2] at HS
  have eqs := eq_sym_same 1 0 0
  go_enter Try.func17, Try.ntmps17
  go_wp2_with fail
  refine (k3_any _).mono ?_
  rintro e w1 ⟨rfl, hb1⟩
  go_wp2_with fail
  refine (HS.out _).mono ?_
  rintro e w2 ⟨rfl, hb2⟩
  go_wp2_with fail
  refine (num_any _ _).mono ?_
  rintro e w' ⟨rfl, rfl⟩
  go_wp2_with fail
  go_ret
  exact ⟨rfl, (hb1.trans (hb2.mono hb1.size)).alloc (Nat.le_trans hb1.size hb2.size) _⟩
end Go.Proofs.Ytpmnbdkncmjafaa
