/- The law TrellisProfiles, walked: it returns true. -/
import Derived.Test.YtpmnbdkncmjafaaRows
import Derived.Test.YtpmnbdkncmjafaaSameI
import Derived.Test.YtpmnbdkncmjafaaRProf
namespace Go.Proofs.Ytpmnbdkncmjafaa
open Go.RowKit

theorem profV_len (K R : Int) (a b c : Nat) (t : Int) : (profV K R a b c t).length ≤ 16 := by
  unfold profV
  by_cases h : profE K R a b c t = 0
  · rw [if_pos h]
    have := (profE_zero h).2
    simp [profL]; omega
  · rw [if_neg h]; simp
set_option maxHeartbeats 2000000 in
theorem law_profiles (K R : Int) (a b c : Nat) (t : Int) (hA : a ≤ 4294967295) (hB : b ≤ 4294967295) (hC : c ≤ 4294967295) (w : World) :
    Calls Try.prog 7 #[.agg #[.int .i64 K, .int .i64 R, .int .u32 a, .int .u32 b, .int .u32 c], .int .i64 t] w fun e w' => e = .returned (.bool true) ∧ Below w.heap.size w w' := by
  have H1 := hide (prof_any K R a b c t hA hB hC)
  have H2 := hide (rprof_any K R a b c t hA hB hC)
  have hlen := hide (profV_len K R a b c t)
  generalize profE K R a b c t = er at *
  generalize profV K R a b c t = xs at *
  go_enter Try.func7, Try.ntmps7
  go_wp2_with fail
  refine (H1.out _).mono ?_
  rintro e w1 ⟨v1, rfl, hx1, hb1⟩
  have hz1 := size_mid hb1
  have c0 := bcell hb1 (b := w.heap.size) (o := 0) (v := .int .i64 K) (by simp) (by simp [go_sem])
  have c1 := bcell hb1 (b := w.heap.size) (o := 1) (v := .int .i64 R) (by simp) (by simp [go_sem])
  have c2 := bcell hb1 (b := w.heap.size) (o := 2) (v := .int .u32 a) (by simp) (by simp [go_sem])
  have c3 := bcell hb1 (b := w.heap.size) (o := 3) (v := .int .u32 b) (by simp) (by simp [go_sem])
  have c4 := bcell hb1 (b := w.heap.size) (o := 4) (v := .int .u32 c) (by simp) (by simp [go_sem])
  go_wp2_with fail
  refine (H2.out _).mono ?_
  rintro e w2 ⟨v2, rfl, hx2, hb2⟩
  obtain ⟨a1, p1, rfl, r1⟩ := OwnV.row (OwnV.below hx1 hb2)
  obtain ⟨a2, p2, rfl, r2⟩ := OwnV.row hx2
  have HS := hide (same_eq a1 a2 p1 p2 xs w2 r1 r2 (by have := hlen.out; omega))
  have HB := hide ((below_one hb1).trans (hb2.mono (Nat.le_of_lt hz1)))
  clear hx1 hx2 hb2 r1 r2 hb1
  simp only [List.length_map] at *
  generalize xs.length = L at *
  go_wp2_with fail
  refine (num_any _ _).mono ?_
  rintro e w' ⟨rfl, rfl⟩
  go_wp2_with fail
  refine HS.out.mono ?_
  rintro e w' ⟨rfl, n, rfl⟩
  go_wp2_with fail
  refine (knows_any _).mono ?_
  rintro e w5 ⟨rfl, hb5⟩
  go_wp2_with fail
  go_ret
  exact ⟨rfl, HB.out.trans ((below_drewNL hb5).mono HB.out.size)⟩
end Go.Proofs.Ytpmnbdkncmjafaa
