/- trellis.Spectrum, of any code and any greatest weight. -/
import Derived.Test.YtpmnbdkncmjafaaRows
import Derived.Test.YtpmnbdkncmjafaaSpec
namespace Go.Proofs.Ytpmnbdkncmjafaa
open Go.RowKit

open Classical in
noncomputable def specV (K R : Int) (a b c : Nat) (t : Int) : List Int := if specE K R a b c t = 0 then specL (K - 1).toNat a b c R t.toNat else []
theorem specE_zero {K R : Int} {a b c : Nat} {t : Int} (h : specE K R a b c t = 0) : checkF K R a b c = 0 ∧ K ≤ 8 ∧ 0 ≤ t ∧ t ≤ 24 := by
  unfold specE at h
  by_cases h1 : checkF K R a b c = 0
  · rw [if_neg (by simpa using h1)] at h
    by_cases h2 : 8 < K
    · rw [if_pos h2] at h; omega
    · rw [if_neg h2] at h
      by_cases h3 : t < 0 ∨ 24 < t
      · rw [if_pos h3] at h; omega
      · exact ⟨h1, by omega, by omega, by omega⟩
  · rw [if_pos h1] at h; exact absurd h h1
theorem specV_len (K R : Int) (a b c : Nat) (t : Int) : (specV K R a b c t).length ≤ 25 := by
  unfold specV
  by_cases h : specE K R a b c t = 0
  · rw [if_pos h]
    have := (specE_zero h).2.2
    simp [specL]; omega
  · rw [if_neg h]; simp
def SpecPost (K R : Int) (a b c : Nat) (t : Int) (w : World) (e : Ending) (w' : World) : Prop := ∃ ad cap, e = .returned (.tuple #[.slice ad (specV K R a b c t).length cap, .int .i64 (specE K R a b c t)]) ∧ RowV w' ad ((specV K R a b c t).map (Value.int .i64)) ∧ Below w.heap.size w w'
theorem spec_any (K R : Int) (a b c : Nat) (t : Int) (hA : a ≤ 4294967295) (hB : b ≤ 4294967295) (hC : c ≤ 4294967295) (w : World) :
    Calls Try.prog 28 #[.agg #[.int .i64 K, .int .i64 R, .int .u32 a, .int .u32 b, .int .u32 c], .int .i64 t] w fun e w' => SpecPost K R a b c t w e w' := by
  unfold SpecPost
  by_cases h1 : checkF K R a b c = 0
  · by_cases h2 : 8 < K
    · have e : specE K R a b c t = 6 := by unfold specE; rw [if_neg (by simpa using h1), if_pos h2]
      unfold specV
      rw [e, if_neg (by omega)]
      exact (spec_bad2 K R a b c t hA hB hC h1 h2 w).mono fun e w' h => ⟨none, 0, h.1, RowV.nil _ _, h.2⟩
    · by_cases h3 : t < 0 ∨ 24 < t
      · have e : specE K R a b c t = 1 := by unfold specE; rw [if_neg (by simpa using h1), if_neg h2, if_pos h3]
        unfold specV
        rw [e, if_neg (by omega)]
        exact (spec_bad3 K R a b c t hA hB hC h1 h2 h3 w).mono fun e w' h => ⟨none, 0, h.1, RowV.nil _ _, h.2⟩
      · have e : specE K R a b c t = 0 := by unfold specE; rw [if_neg (by simpa using h1), if_neg h2, if_neg h3]
        unfold specV
        rw [e, if_pos rfl]
        obtain ⟨n, rfl, hn2, hn31, hR⟩ := good_code h1
        obtain ⟨t, rfl⟩ : ∃ m : Nat, t = m := ⟨t.toNat, by omega⟩
        rw [show ((n : Int) + 1 - 1).toNat = n by omega, Int.toNat_natCast]
        have hl : (specL n a b c R t).length = t + 1 := by simp [specL]
        rw [hl]
        exact spec_good n a b c R t hA hB hC ⟨hn2, by omega⟩ hR h1 (by omega) w
  · have e : specE K R a b c t = checkF K R a b c := by unfold specE; rw [if_pos h1]
    unfold specV
    rw [e, if_neg h1]
    exact (spec_bad1 K R a b c t hA hB hC h1 w).mono fun e w' h => ⟨none, 0, h.1, RowV.nil _ _, h.2⟩
end Go.Proofs.Ytpmnbdkncmjafaa
