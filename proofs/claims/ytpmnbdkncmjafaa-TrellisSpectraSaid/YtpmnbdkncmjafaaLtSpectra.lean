/- outpostref07.Spectrum, walked; the law TrellisSpectra, walked: it returns true. -/
import Derived.Test.YtpmnbdkncmjafaaRows
import Derived.Test.YtpmnbdkncmjafaaLoops
import Derived.Test.YtpmnbdkncmjafaaSpecAny
import Derived.Test.YtpmnbdkncmjafaaSameI
namespace Go.Proofs.Ytpmnbdkncmjafaa
open Go.RowKit

theorem rspec_bad1 (K R : Int) (a b c : Nat) (t : Int) (hA : a ≤ 4294967295) (hB : b ≤ 4294967295) (hC : c ≤ 4294967295) (hbad : checkF K R a b c ≠ 0) (w : World) :
    Calls Try.prog 29 #[.agg #[.int .i64 K, .int .i64 R, .int .u32 a, .int .u32 b, .int .u32 c], .int .i64 t] w fun e w' => e = .returned (.tuple #[.slice none 0 0, .int .i64 (checkF K R a b c)]) ∧ Below w.heap.size w w' := by
  have HC := hide (rcheck_any K R a b c hA hB hC)
  generalize checkF K R a b c = er at *
  have hne : (er != 0) = true := bne_iff_ne.2 hbad
  go_enter Try.func29, Try.ntmps29
  go_wp2_with fail
  refine (HC.out _).mono ?_
  rintro e w1 ⟨rfl, hb1⟩
  go_wp2_with fail
  go_ret2
  exact ⟨rfl, below_one hb1⟩
theorem rspec_bad2 (K R : Int) (a b c : Nat) (t : Int) (hA : a ≤ 4294967295) (hB : b ≤ 4294967295) (hC : c ≤ 4294967295) (hgood : checkF K R a b c = 0) (hK : 8 < K) (w : World) :
    Calls Try.prog 29 #[.agg #[.int .i64 K, .int .i64 R, .int .u32 a, .int .u32 b, .int .u32 c], .int .i64 t] w fun e w' => e = .returned (.tuple #[.slice none 0 0, .int .i64 6]) ∧ Below w.heap.size w w' := by
  have HC := hide (rcheck_any K R a b c hA hB hC)
  rw [hgood] at HC
  clear hgood
  go_enter Try.func29, Try.ntmps29
  go_wp2_with fail
  refine (HC.out _).mono ?_
  rintro e w1 ⟨rfl, hb1⟩
  have c0 := bcell hb1 (b := w.heap.size) (o := 0) (v := .int .i64 K) (by simp) (by simp [go_sem])
  go_wp2_with fail
  go_ret2
  exact ⟨rfl, below_one hb1⟩
theorem rspec_bad3 (K R : Int) (a b c : Nat) (t : Int) (hA : a ≤ 4294967295) (hB : b ≤ 4294967295) (hC : c ≤ 4294967295) (hgood : checkF K R a b c = 0) (hK : ¬ 8 < K) (ht : t < 0 ∨ 24 < t) (w : World) :
    Calls Try.prog 29 #[.agg #[.int .i64 K, .int .i64 R, .int .u32 a, .int .u32 b, .int .u32 c], .int .i64 t] w fun e w' => e = .returned (.tuple #[.slice none 0 0, .int .i64 1]) ∧ Below w.heap.size w w' := by
  have HC := hide (rcheck_any K R a b c hA hB hC)
  rw [hgood] at HC
  clear hgood
  rcases ht with ht | ht
  all_goals
    go_enter Try.func29, Try.ntmps29
    go_wp2_with fail
    refine (HC.out _).mono ?_
    rintro e w1 ⟨rfl, hb1⟩
    have c0 := bcell hb1 (b := w.heap.size) (o := 0) (v := .int .i64 K) (by simp) (by simp [go_sem])
    go_wp2_with fail
    go_ret2
    exact ⟨rfl, below_one hb1⟩
theorem LoopsPost.spec {n : Nat} {R : Int} {a b c t : Nat} {w w' : World} {e : Ending} (h : LoopsPost n R a b c t w e w') :
    ∃ ad al, e = .returned (.tuple #[.slice ad (t + 1) (t + 1), .slice al (t + 1) (t + 1)]) ∧ RowV w' ad ((specL n a b c R t).map (Value.int .i64)) ∧ Below w.heap.size w w' := by
  obtain ⟨ga, gl, all, least, rfl, h1, _, h3, h4⟩ := h
  refine ⟨_, _, rfl, ?_, h4⟩
  have e : (List.range (t + 1)).map all = specL n a b c R t := by
    unfold specL
    apply List.map_congr_left
    intro v hv
    exact h3.hall v (by simp at hv; omega)
  rw [← e]
  exact h1.rowV
set_option maxHeartbeats 4000000 in
theorem rspec_good (n a b c : Nat) (R : Int) (t : Nat) (hA : a ≤ 4294967295) (hB : b ≤ 4294967295) (hC : c ≤ 4294967295) (hn : 2 ≤ n ∧ n ≤ 7) (hR : R = 2 ∨ R = 3) (hgood : checkF (n + 1) R a b c = 0) (ht : t ≤ 24) (w : World) :
    Calls Try.prog 29 #[.agg #[.int .i64 (n + 1), .int .i64 R, .int .u32 a, .int .u32 b, .int .u32 c], .int .i64 t] w fun e w' => ∃ ad cap, e = .returned (.tuple #[.slice ad (t + 1) cap, .int .i64 0]) ∧ RowV w' ad ((specL n a b c R t).map (Value.int .i64)) ∧ Below w.heap.size w w' := by
  have HC := hide (rcheck_any (n + 1) R a b c hA hB hC)
  rw [hgood] at HC
  have HL := hide (loops_any n a b c R t hA hB hC hn hR (goodN_of hgood) ht)
  clear hgood
  go_enter Try.func29, Try.ntmps29
  go_wp2_with fail
  refine (HC.out _).mono ?_
  rintro e w1 ⟨rfl, hb1⟩
  have hz1 : w.heap.size < w1.heap.size := size_mid hb1
  have c0 := bcell hb1 (b := w.heap.size) (o := 0) (v := .int .i64 (n + 1)) (by simp) (by simp [go_sem])
  have c1 := bcell hb1 (b := w.heap.size) (o := 1) (v := .int .i64 R) (by simp) (by simp [go_sem])
  have c2 := bcell hb1 (b := w.heap.size) (o := 2) (v := .int .u32 a) (by simp) (by simp [go_sem])
  have c3 := bcell hb1 (b := w.heap.size) (o := 3) (v := .int .u32 b) (by simp) (by simp [go_sem])
  have c4 := bcell hb1 (b := w.heap.size) (o := 4) (v := .int .u32 c) (by simp) (by simp [go_sem])
  have HB1 := hide (below_one hb1)
  clear hb1
  go_wp2_with fail
  refine (HL.out _).mono ?_
  rintro e w2 hp
  obtain ⟨ad, al, rfl, hr, hb2⟩ := hp.spec
  have HR2 := hide hr
  have HB2 := hide (HB1.out.trans (hb2.mono (Nat.le_of_lt hz1)))
  clear hr hb2 hp
  go_wp2_with fail
  go_ret2
  exact ⟨_, _, rfl, HR2.out, HB2.out⟩
theorem rspec_any (K R : Int) (a b c : Nat) (t : Int) (hA : a ≤ 4294967295) (hB : b ≤ 4294967295) (hC : c ≤ 4294967295) (w : World) :
    Calls Try.prog 29 #[.agg #[.int .i64 K, .int .i64 R, .int .u32 a, .int .u32 b, .int .u32 c], .int .i64 t] w fun e w' => SpecPost K R a b c t w e w' := by
  unfold SpecPost
  by_cases h1 : checkF K R a b c = 0
  · by_cases h2 : 8 < K
    · have e : specE K R a b c t = 6 := by unfold specE; rw [if_neg (by simpa using h1), if_pos h2]
      unfold specV
      rw [e, if_neg (by omega)]
      exact (rspec_bad2 K R a b c t hA hB hC h1 h2 w).mono fun e w' h => ⟨none, 0, h.1, RowV.nil _ _, h.2⟩
    · by_cases h3 : t < 0 ∨ 24 < t
      · have e : specE K R a b c t = 1 := by unfold specE; rw [if_neg (by simpa using h1), if_neg h2, if_pos h3]
        unfold specV
        rw [e, if_neg (by omega)]
        exact (rspec_bad3 K R a b c t hA hB hC h1 h2 h3 w).mono fun e w' h => ⟨none, 0, h.1, RowV.nil _ _, h.2⟩
      · have e : specE K R a b c t = 0 := by unfold specE; rw [if_neg (by simpa using h1), if_neg h2, if_neg h3]
        unfold specV
        rw [e, if_pos rfl]
        obtain ⟨n, rfl, hn2, hn31, hR⟩ := good_code h1
        obtain ⟨t, rfl⟩ : ∃ m : Nat, t = m := ⟨t.toNat, by omega⟩
        rw [show ((n : Int) + 1 - 1).toNat = n by omega, Int.toNat_natCast]
        have hl : (specL n a b c R t).length = t + 1 := by simp [specL]
        rw [hl]
        exact rspec_good n a b c R t hA hB hC ⟨hn2, by omega⟩ hR h1 (by omega) w
  · have e : specE K R a b c t = checkF K R a b c := by unfold specE; rw [if_pos h1]
    unfold specV
    rw [e, if_neg h1]
    exact (rspec_bad1 K R a b c t hA hB hC h1 w).mono fun e w' h => ⟨none, 0, h.1, RowV.nil _ _, h.2⟩
set_option maxHeartbeats 2000000 in
theorem law_spectra (K R : Int) (a b c : Nat) (t : Int) (hA : a ≤ 4294967295) (hB : b ≤ 4294967295) (hC : c ≤ 4294967295) (w : World) :
    Calls Try.prog 8 #[.agg #[.int .i64 K, .int .i64 R, .int .u32 a, .int .u32 b, .int .u32 c], .int .i64 t] w fun e w' => e = .returned (.bool true) ∧ Below w.heap.size w w' := by
  have H1 := hide (spec_any K R a b c t hA hB hC)
  have H2 := hide (rspec_any K R a b c t hA hB hC)
  unfold SpecPost at H1 H2
  have hlen := hide (specV_len K R a b c t)
  generalize specE K R a b c t = er at *
  generalize specV K R a b c t = xs at *
  go_enter Try.func8, Try.ntmps8
  go_wp2_with fail
  refine (H1.out _).mono ?_
  rintro e w1 ⟨a1, p1, rfl, hx1, hb1⟩
  have hz1 := size_mid hb1
  have c0 := bcell hb1 (b := w.heap.size) (o := 0) (v := .int .i64 K) (by simp) (by simp [go_sem])
  have c1 := bcell hb1 (b := w.heap.size) (o := 1) (v := .int .i64 R) (by simp) (by simp [go_sem])
  have c2 := bcell hb1 (b := w.heap.size) (o := 2) (v := .int .u32 a) (by simp) (by simp [go_sem])
  have c3 := bcell hb1 (b := w.heap.size) (o := 3) (v := .int .u32 b) (by simp) (by simp [go_sem])
  have c4 := bcell hb1 (b := w.heap.size) (o := 4) (v := .int .u32 c) (by simp) (by simp [go_sem])
  go_wp2_with fail
  refine (H2.out _).mono ?_
  rintro e w2 ⟨a2, p2, rfl, hx2, hb2⟩
  have r1 := RowV.below hx1 hb2
  have HS := hide (same_eq a1 a2 p1 p2 xs w2 r1 hx2 (by have := hlen.out; omega))
  have HB := hide ((below_one hb1).trans (hb2.mono (Nat.le_of_lt hz1)))
  clear hx1 hx2 hb2 r1 hb1
  generalize xs.length = L at *
  go_wp2_with fail
  refine (num_any _ _).mono ?_
  rintro e w' ⟨rfl, rfl⟩
  go_wp2_with fail
  refine HS.out.mono ?_
  rintro e w' ⟨rfl, n, rfl⟩
  go_wp2_with fail
  refine (knows_any _).mono ?_
  rintro e w5 ⟨rfl, hb5⟩
  go_wp2_with fail
  go_ret
  exact ⟨rfl, HB.out.trans ((below_drewNL hb5).mono HB.out.size)⟩
end Go.Proofs.Ytpmnbdkncmjafaa
