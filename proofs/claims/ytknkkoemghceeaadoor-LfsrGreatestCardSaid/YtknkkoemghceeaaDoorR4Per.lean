/- outpostref04.Poly and Period, lfsr.Poly, walked. -/
import Derived.Test.YtknkkoemghceeaaDoorRows
import Derived.Test.YtknkkoemghceeaaDoorR4Step
import Derived.Test.YtknkkoemghceeaaDoorLfRun
import Derived.Test.YtknkkoemghceeaaDoorLfLive
import Derived.Test.YtknkkoemghceeaaDoorR4Check
import Derived.Test.YtknkkoemghceeaaDoorEqL
import Derived.Test.YtknkkoemghceeaaDoorBase
import Derived.BigQuiet
import Derived.Deep.QuietTactic
namespace Go.Proofs.YtknkkoemghceeaaDoor
open Go.RowKit

theorem below_drN {B : Nat} {w u : World} (h : Below B w u) (n : Nat) : Below B w (u.drewN n) := ⟨h.os, h.tape, h.output, h.size, h.block⟩
theorem poly_or {n T : Nat} (hn : n ≤ 20) (hT : T < 2 ^ n) : bits .or .u64 (IntKind.u64.wrap (2 ^ n)) (T : Int) = ((2 ^ n + T : Nat) : Int) ∧ IntKind.u64.wrap (IntKind.u64.wrap (2 ^ n) + (T : Int)) = ((2 ^ n + T : Nat) : Int) := by
  have h2 := pow20 hn
  have e0 : (2 : Int) ^ n = ((2 ^ n : Nat) : Int) := by simp
  have e1 : IntKind.u64.wrap ((2 : Int) ^ n) = ((2 ^ n : Nat) : Int) := by rw [e0]; exact IntWalk.u64_in _ (by omega)
  rw [e1]
  constructor
  · rw [or64 (by omega) (by omega), show (2 : Nat) ^ n = 2 ^ n * 1 by omega, ← Nat.two_pow_add_eq_or_of_lt hT]
  · rw [IntWalk.u64_in _ (by omega)]; rfl
set_option maxHeartbeats 400000 in
theorem lpoly_bad (D : Int) (T S : Nat) (hT : T ≤ 18446744073709551615) (hS : S ≤ 18446744073709551615) (hne : lchk D T S ≠ 0) (w : World) :
    Calls Tryd.prog 27 #[.agg #[.int .i64 D, .int .u64 T, .int .u64 S]] w fun e w' => e = .returned (.tuple #[.int .u64 0, .int .i64 (lchk D T S)]) ∧ Below w.heap.size w w' := by
  have HC := hide (lcheck_any D T S hT hS)
  have hb := nzBne hne
  generalize lchk D T S = cf at *
  clear hne
  go_enter Tryd.func27, Tryd.ntmps27
  go_wp2_with fail
  refine (HC.out _).mono ?_
  rintro e w1 ⟨rfl, hb1⟩
  go_wp2_with fail
  go_ret2
  exact ⟨rfl, below_one hb1⟩
set_option maxHeartbeats 400000 in
theorem rpoly_bad (D : Int) (T S : Nat) (hT : T ≤ 18446744073709551615) (hS : S ≤ 18446744073709551615) (hne : lchk D T S ≠ 0) (w : World) :
    Calls Tryd.prog 28 #[.agg #[.int .i64 D, .int .u64 T, .int .u64 S]] w fun e w' => e = .returned (.tuple #[.int .u64 0, .int .i64 (lchk D T S)]) ∧ Below w.heap.size w w' := by
  have HC := hide (r4check_any D T S hT hS)
  have hb := nzBne hne
  generalize lchk D T S = cf at *
  clear hne
  go_enter Tryd.func28, Tryd.ntmps28
  go_wp2_with fail
  refine (HC.out _).mono ?_
  rintro e w1 ⟨rfl, hb1⟩
  go_wp2_with fail
  go_ret2
  exact ⟨rfl, below_one hb1⟩
set_option maxHeartbeats 400000 in
theorem rperiod_bad (D : Int) (T S : Nat) (hT : T ≤ 18446744073709551615) (hS : S ≤ 18446744073709551615) (hne : lchk D T S ≠ 0) (w : World) :
    Calls Tryd.prog 29 #[.agg #[.int .i64 D, .int .u64 T, .int .u64 S]] w fun e w' => e = .returned (.tuple #[.int .i64 0, .int .i64 (lchk D T S)]) ∧ Below w.heap.size w w' := by
  have HC := hide (r4check_any D T S hT hS)
  have hb := nzBne hne
  generalize lchk D T S = cf at *
  clear hne
  go_enter Tryd.func29, Tryd.ntmps29
  go_wp2_with fail
  refine (HC.out _).mono ?_
  rintro e w1 ⟨rfl, hb1⟩
  go_wp2_with fail
  go_ret2
  exact ⟨rfl, below_one hb1⟩
set_option maxRecDepth 100000 in
set_option maxHeartbeats 400000 in
theorem rpoly_good (n T S : Nat) (hg : GoodL n T S) (w : World) :
    Calls Tryd.prog 28 #[.agg #[.int .i64 n, .int .u64 T, .int .u64 S]] w fun e w' => e = .returned (.tuple #[.int .u64 ((2 ^ n + T : Nat) : Int), .int .i64 0]) ∧ Below w.heap.size w w' := by
  have HC := hide (r4check_any n T S (by have := hg.small; omega) (by have := hg.small; omega))
  rw [lchk_good hg] at HC
  obtain ⟨-, e1⟩ := poly_or hg.hi hg.tap
  have h2 := hg.lo
  have h20 := hg.hi
  have ew2 : IntKind.u64.wrap (n : Int) = n := IntWalk.u64_in (n : Int) (by omega)
  clear hg
  generalize 2 ^ n + T = P at *
  have E1 := hide e1
  clear e1
  go_enter Tryd.func28, Tryd.ntmps28
  go_wp2_with fail
  refine (HC.out _).mono ?_
  rintro e w1 ⟨rfl, hb1⟩
  have c0 := bcell hb1 (b := w.heap.size) (o := 0) (v := .int .i64 n) (by simp) (by simp [go_sem])
  have c1 := bcell hb1 (b := w.heap.size) (o := 1) (v := .int .u64 T) (by simp) (by simp [go_sem])
  go_wp2_with fail
  rw [E1.out]
  go_ret2
  exact ⟨rfl, below_one hb1⟩
set_option maxRecDepth 100000 in
set_option maxHeartbeats 400000 in
theorem lpoly_good (n T S : Nat) (hg : GoodL n T S) (w : World) :
    Calls Tryd.prog 27 #[.agg #[.int .i64 n, .int .u64 T, .int .u64 S]] w fun e w' => e = .returned (.tuple #[.int .u64 ((2 ^ n + T : Nat) : Int), .int .i64 0]) ∧ Below w.heap.size w w' := by
  have HC := hide (lcheck_any n T S (by have := hg.small; omega) (by have := hg.small; omega))
  rw [lchk_good hg] at HC
  obtain ⟨e1, -⟩ := poly_or hg.hi hg.tap
  have h2 := hg.lo
  have h20 := hg.hi
  clear hg
  generalize 2 ^ n + T = P at *
  have E1 := hide e1
  clear e1
  go_enter Tryd.func27, Tryd.ntmps27
  go_wp2_with fail
  refine (HC.out _).mono ?_
  rintro e w1 ⟨rfl, hb1⟩
  have c0 := bcell hb1 (b := w.heap.size) (o := 0) (v := .int .i64 n) (by simp) (by simp [go_sem])
  have c1 := bcell hb1 (b := w.heap.size) (o := 1) (v := .int .u64 T) (by simp) (by simp [go_sem])
  go_wp2_with fail
  go_quiet (fail)
  rw [E1.out]
  go_wp2_with fail
  go_ret2
  exact ⟨rfl, below_drN (below_one hb1) nq⟩
set_option maxRecDepth 100000 in
set_option maxHeartbeats 1000000 in
theorem rperiod_good (n T S N : Nat) (hg : GoodL n T S) (hN : Gf2.Per n T S N) (hN2 : N ≤ 1048576) (w : World) :
    Calls Tryd.prog 29 #[.agg #[.int .i64 n, .int .u64 T, .int .u64 S]] w fun e w' => e = .returned (.tuple #[.int .i64 N, .int .i64 0]) ∧ Below w.heap.size w w' := by
  have HC := hide (r4check_any n T S (by have := hg.small; omega) (by have := hg.small; omega))
  rw [lchk_good hg] at HC
  have HS1 := hide (rstep_any n T S hg)
  rw [← Gf2.stpN_one] at HS1
  have HST := hide fun (k : Nat) (W : World) => rstep_any n T (Gf2.stpN n T k S) (hg.stpN k) W
  have HN := hide hN
  clear hg hN
  go_enter Tryd.func29, Tryd.ntmps29
  go_wp2_with fail
  refine (HC.out _).mono ?_
  rintro e w1 ⟨rfl, hb1⟩
  have hx0 : w1.heap[w.heap.size]? = some (.cells #[.int .i64 n, .int .u64 T, .int .u64 S] 24 (0, 0)) := (hb1.block _ (by simp)).trans (heap_alloc_new w _)
  have c0 := cell_of_row w1 w.heap.size 0 _ _ (0, 0) hx0
  have c1 := cell_of_row w1 w.heap.size 1 _ _ (0, 0) hx0
  have c2 := cell_of_row w1 w.heap.size 2 _ _ (0, 0) hx0
  have hz1 := hb1.size
  simp at hz1
  have HB1 := hide (below_one hb1)
  have HX0 := hide hx0
  clear hb1 hx0
  go_wp2_with fail
  refine (HS1.out _).mono ?_
  rintro e w2 ⟨rfl, hb2⟩
  have hz2 : w.heap.size < w2.heap.size := by have := hb2.size; omega
  have hx2 : w2.heap[w.heap.size]? = some (.cells #[.int .i64 n, .int .u64 T, .int .u64 S] 24 (0, 0)) := (hb2.block _ hz1).trans HX0.out
  have HX := hide hx2
  have HB2 := hide (below_then HB1.out hb2)
  clear hb2 hx2
  go_wp2_with fail
  go_loopw [6] (fun i u => ∃ k : Nat, (1 ≤ k ∧ k ≤ N) ∧ i = .int .i64 k ∧ Hid (RegL u w2.heap.size n T (Gf2.stpN n T k S)) ∧ Hid (Below w2.heap.size w2 u)) (fun i _ => N - (intOf i).toNat)
  case atStart => exact ⟨1, by have := HN.out.1; omega, rfl, hide ⟨_, heap_alloc_new w2 _⟩, hide ((Below.refl _ _).alloc (Nat.le_refl _) _)⟩
  case round =>
    rename_i wr _
    obtain ⟨k, hk, rfl, hr, hb⟩ := hrel
    obtain ⟨hlr, q0, q1, q2, -⟩ := hr.out.parts
    have hx3 := (hb.out.block w.heap.size hz2).trans HX.out
    have d0 := cell_of_row wr w.heap.size 0 _ _ (0, 0) hx3
    have d1 := cell_of_row wr w.heap.size 1 _ _ (0, 0) hx3
    have d2 := cell_of_row wr w.heap.size 2 _ _ (0, 0) hx3
    clear hx3
    by_cases he : k = N
    · have hs : Gf2.stpN n T k S = S := by rw [he]; exact HN.out.2.1
      rw [hs] at q2
      have heq := eq_lfsr_same (n : Int) (T : Int) (S : Int) wr
      have HE := hide he
      clear hs he hk
      go_wp2_with fail
      go_ret2
      exact ⟨by rw [← HE.out]; simp, HB2.out.trans (hb.out.mono HB2.out.size)⟩
    · have hs : Gf2.stpN n T k S ≠ S := HN.out.2.2 k (by omega) (by omega)
      have heq := eq_lfsr_ne (n : Int) (T : Int) hs wr
      have HSk := hide (HST.out k)
      rw [← Gf2.stpN_succ] at HSk
      generalize hq : Gf2.stpN n T k S = q at *
      have HQ := hide hq
      clear hq
      go_wp2_with fail
      refine (HSk.out _).mono ?_
      rintro e w4 ⟨rfl, hb4⟩
      have hr4 := hr.out.below hb4 hlr
      obtain ⟨hl4, p0, p1, p2, p3⟩ := hr4.parts
      have f0 : w4.frozen? ⟨w2.heap.size, 0, none⟩ = false := by obtain ⟨ty, h⟩ := hr4; exact frozen_of_row w4 w2.heap.size 0 _ ty h
      have f1 : w4.frozen? ⟨w2.heap.size, 1, none⟩ = false := by obtain ⟨ty, h⟩ := hr4; exact frozen_of_row w4 w2.heap.size 1 _ ty h
      have HR4 := hide (hr4.set3 (Gf2.stpN n T (k + 1) S))
      have HB4 := hide (((((below_then hb.out (hb4)).setCell (p := ⟨w2.heap.size, 0, none⟩) (Nat.le_refl _) (.int .i64 n)).setCell (p := ⟨w2.heap.size, 1, none⟩) (Nat.le_refl _) (.int .u64 T)).setCell (p := ⟨w2.heap.size, 2, none⟩) (Nat.le_refl _) (.int .u64 (Gf2.stpN n T (k + 1) S : Nat))))
      clear hb4 hr4
      generalize hq2 : Gf2.stpN n T (k + 1) S = q' at *
      have HQ2 := hide hq2
      clear hq2
      go_wp2_with fail
      go_roundw
      case rel => exact ⟨k + 1, by omega, by simp, by rw [HQ2.out]; exact HR4, HB4⟩
      case measure => simp [intOf]; omega
end Go.Proofs.YtknkkoemghceeaaDoor
