/- trellis.right, walked: the error of a code, a state and a bit. -/
import Derived.Test.YtpmnbdkncmjafaaRows
import Derived.Test.YtpmnbdkncmjafaaStep
namespace Go.Proofs.Ytpmnbdkncmjafaa
open Go.RowKit

theorem nzBne {x : Int} (h : x ≠ 0) : (x != 0) = true := by rw [bne_iff_ne]; exact h
open Classical in
noncomputable def rightF (K R : Int) (a b c s x : Nat) : Int :=
  if checkF K R a b c ≠ 0 then checkF K R a b c
  else if s / 2 ^ (K - 1).toNat ≠ 0 then 11
  else if 1 < x then 10
  else 0
section
variable {K R : Int} {a b c s x : Nat}
theorem rightF_bad (h : checkF K R a b c ≠ 0) : rightF K R a b c s x = checkF K R a b c := if_pos h
theorem rightF_far (h : checkF K R a b c = 0) (h2 : s / 2 ^ (K - 1).toNat ≠ 0) : rightF K R a b c s x = 11 := by
  unfold rightF; rw [if_neg (by simpa using h), if_pos h2]
theorem rightF_bit (h : checkF K R a b c = 0) (h2 : s / 2 ^ (K - 1).toNat = 0) (h3 : 1 < x) : rightF K R a b c s x = 10 := by
  unfold rightF; rw [if_neg (by simpa using h), if_neg (by simpa using h2), if_pos h3]
theorem rightF_good (h : checkF K R a b c = 0) (h2 : s / 2 ^ (K - 1).toNat = 0) (h3 : ¬ 1 < x) : rightF K R a b c s x = 0 := by
  unfold rightF; rw [if_neg (by simpa using h), if_neg (by simpa using h2), if_neg h3]
/-- of a good code -/
theorem good_code (h : checkF K R a b c = 0) : ∃ n : Nat, K = n + 1 ∧ 2 ≤ n ∧ n ≤ 31 ∧ (R = 2 ∨ R = 3) := by
  obtain ⟨hh, -⟩ := checkF_zero h
  have h1 : ¬ K < 3 := fun e => hh (.inl e)
  have h2 : ¬ 32 < K := fun e => hh (.inr (.inl e))
  have h3 : ¬ (R ≠ 2 ∧ R ≠ 3) := fun e => hh (.inr (.inr (.inl e)))
  exact ⟨(K - 1).toNat, by omega, by omega, by omega, by omega⟩
/-- what a 0 says -/
theorem rightF_zero (h : rightF K R a b c s x = 0) : checkF K R a b c = 0 ∧ s / 2 ^ (K - 1).toNat = 0 ∧ x ≤ 1 := by
  by_cases h1 : checkF K R a b c = 0
  · by_cases h2 : s / 2 ^ (K - 1).toNat = 0
    · by_cases h3 : 1 < x
      · rw [rightF_bit h1 h2 h3] at h; omega
      · exact ⟨h1, h2, by omega⟩
    · rw [rightF_far h1 h2] at h; omega
  · rw [rightF_bad h1] at h; exact absurd h h1
end

set_option maxHeartbeats 1000000 in
theorem right_any (K R : Int) (a b c s x : Nat) (hA : a ≤ 4294967295) (hB : b ≤ 4294967295) (hC : c ≤ 4294967295) (hs : s ≤ 4294967295) (hx : x ≤ 255) (w : World) :
    Calls Try.prog 34 #[.agg #[.int .i64 K, .int .i64 R, .int .u32 a, .int .u32 b, .int .u32 c], .int .u32 s, .int .u8 x] w fun e w' => e = .returned (.int .i64 (rightF K R a b c s x)) ∧ Below w.heap.size w w' := by
  have HC := hide (check_any K R a b c hA hB hC)
  by_cases hck : checkF K R a b c = 0
  · obtain ⟨n, rfl, hn2, hn31, -⟩ := good_code hck
    rw [hck] at HC
    have en : ((n : Int) + 1 - 1).toNat = n := by omega
    by_cases hf : s / 2 ^ n = 0
    · have q1 := shrBeq hf
      by_cases hb : 1 < x
      · rw [rightF_bit hck (by rw [en]; exact hf) hb]
        clear hck hf en
        go_enter Try.func34, Try.ntmps34
        go_wp2_with fail
        refine (HC.out _).mono ?_
        rintro e w1 ⟨rfl, hb1⟩
        have c0 := bcell hb1 (b := w.heap.size) (o := 0) (v := .int .i64 (n + 1)) (by simp) (by simp [go_sem])
        go_wp2_with fail
        go_ret
        exact ⟨rfl, below_one hb1⟩
      · rw [rightF_good hck (by rw [en]; exact hf) hb]
        clear hck hf en
        go_enter Try.func34, Try.ntmps34
        go_wp2_with fail
        refine (HC.out _).mono ?_
        rintro e w1 ⟨rfl, hb1⟩
        have c0 := bcell hb1 (b := w.heap.size) (o := 0) (v := .int .i64 (n + 1)) (by simp) (by simp [go_sem])
        go_wp2_with fail
        go_ret
        exact ⟨rfl, below_one hb1⟩
    · rw [rightF_far hck (by rw [en]; exact hf)]
      have q1 := shrBne hf
      clear hck hf en
      go_enter Try.func34, Try.ntmps34
      go_wp2_with fail
      refine (HC.out _).mono ?_
      rintro e w1 ⟨rfl, hb1⟩
      have c0 := bcell hb1 (b := w.heap.size) (o := 0) (v := .int .i64 (n + 1)) (by simp) (by simp [go_sem])
      go_wp2_with fail
      go_ret
      exact ⟨rfl, below_one hb1⟩
  · rw [rightF_bad hck]
    have hcb := nzBne hck
    generalize checkF K R a b c = cf at *
    clear hck
    go_enter Try.func34, Try.ntmps34
    go_wp2_with fail
    refine (HC.out _).mono ?_
    rintro e w1 ⟨rfl, hb1⟩
    go_wp2_with fail
    go_ret
    exact ⟨rfl, below_one hb1⟩
end Go.Proofs.Ytpmnbdkncmjafaa
