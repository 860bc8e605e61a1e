/- outpostref07.wrong, walked. -/
import Derived.Test.YtpmnbdkncmjafaaRows
import Derived.Test.YtpmnbdkncmjafaaRight
namespace Go.Proofs.Ytpmnbdkncmjafaa
open Go.RowKit

set_option maxHeartbeats 1000000 in
theorem wrong_any (K R : Int) (a b c s x : Nat) (hA : a ≤ 4294967295) (hB : b ≤ 4294967295) (hC : c ≤ 4294967295) (hs : s ≤ 4294967295) (hx : x ≤ 255) (w : World) :
    Calls Try.prog 36 #[.agg #[.int .i64 K, .int .i64 R, .int .u32 a, .int .u32 b, .int .u32 c], .int .u32 s, .int .u8 x] w fun e w' => e = .returned (.int .i64 (rightF K R a b c s x)) ∧ Below w.heap.size w w' := by
  have HC := hide (rcheck_any K R a b c hA hB hC)
  by_cases hck : checkF K R a b c = 0
  · obtain ⟨n, rfl, hn2, hn31, -⟩ := good_code hck
    rw [hck] at HC
    have en : ((n : Int) + 1 - 1).toNat = n := by omega
    by_cases hf : s / 2 ^ n = 0
    · have q1 := shrLe hf
      by_cases hb : 1 < x
      · rw [rightF_bit hck (by rw [en]; exact hf) hb]
        clear hck hf en
        go_enter Try.func36, Try.ntmps36
        go_wp2_with fail
        refine (HC.out _).mono ?_
        rintro e w1 ⟨rfl, hb1⟩
        have c0 := bcell hb1 (b := w.heap.size) (o := 0) (v := .int .i64 (n + 1)) (by simp) (by simp [go_sem])
        go_wp2_with fail
        go_ret
        exact ⟨rfl, below_one hb1⟩
      · rw [rightF_good hck (by rw [en]; exact hf) hb]
        clear hck hf en
        go_enter Try.func36, Try.ntmps36
        go_wp2_with fail
        refine (HC.out _).mono ?_
        rintro e w1 ⟨rfl, hb1⟩
        have c0 := bcell hb1 (b := w.heap.size) (o := 0) (v := .int .i64 (n + 1)) (by simp) (by simp [go_sem])
        go_wp2_with fail
        go_ret
        exact ⟨rfl, below_one hb1⟩
    · rw [rightF_far hck (by rw [en]; exact hf)]
      have q1 := shrGt hf
      clear hck hf en
      go_enter Try.func36, Try.ntmps36
      go_wp2_with fail
      refine (HC.out _).mono ?_
      rintro e w1 ⟨rfl, hb1⟩
      have c0 := bcell hb1 (b := w.heap.size) (o := 0) (v := .int .i64 (n + 1)) (by simp) (by simp [go_sem])
      go_wp2_with fail
      go_ret
      exact ⟨rfl, below_one hb1⟩
  · rw [rightF_bad hck]
    have hcb := nzBne hck
    generalize checkF K R a b c = cf at *
    clear hck
    go_enter Try.func36, Try.ntmps36
    go_wp2_with fail
    refine (HC.out _).mono ?_
    rintro e w1 ⟨rfl, hb1⟩
    go_wp2_with fail
    go_ret
    exact ⟨rfl, below_one hb1⟩
end Go.Proofs.Ytpmnbdkncmjafaa
