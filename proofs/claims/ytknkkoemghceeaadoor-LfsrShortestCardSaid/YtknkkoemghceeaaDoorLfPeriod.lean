/- lfsr.Period, walked. -/
import Derived.Test.YtknkkoemghceeaaDoorRows
import Derived.Test.YtknkkoemghceeaaDoorEqL
import Derived.Test.YtknkkoemghceeaaDoorLfRun
namespace Go.Proofs.YtknkkoemghceeaaDoor
open Go.RowKit

set_option maxHeartbeats 400000 in
theorem lperiod_bad (D : Int) (T S : Nat) (hT : T ≤ 18446744073709551615) (hS : S ≤ 18446744073709551615) (hne : lchk D T S ≠ 0) (w : World) :
    Calls Tryd.prog 26 #[.agg #[.int .i64 D, .int .u64 T, .int .u64 S]] w fun e w' => e = .returned (.tuple #[.int .i64 0, .int .i64 (lchk D T S)]) ∧ Below w.heap.size w w' := by
  have HC := hide (lcheck_any D T S hT hS)
  have hb := nzBne hne
  generalize lchk D T S = cf at *
  clear hne
  go_enter Tryd.func26, Tryd.ntmps26
  go_wp2_with fail
  refine (HC.out _).mono ?_
  rintro e w1 ⟨rfl, hb1⟩
  go_wp2_with fail
  go_ret2
  exact ⟨rfl, below_one hb1⟩
set_option maxRecDepth 100000 in
set_option maxHeartbeats 1000000 in
theorem lperiod_ok (n T S N : Nat) (hg : GoodL n T S) (hN : Gf2.Per n T S N) (hN2 : N ≤ 1048576) (w : World) :
    Calls Tryd.prog 26 #[.agg #[.int .i64 n, .int .u64 T, .int .u64 S]] w fun e w' => e = .returned (.tuple #[.int .i64 N, .int .i64 0]) ∧ Below w.heap.size w w' := by
  have HC := hide (lcheck_any n T S (by have := hg.small; omega) (by have := hg.small; omega))
  rw [lchk_good hg] at HC
  have HST := hide fun (k g : Nat) (W : World) (h : RegL W g n T (Gf2.stpN n T k S)) => lstep_any n T (Gf2.stpN n T k S) g (hg.stpN k) W h
  have HN := hide hN
  clear hg hN
  go_enter Tryd.func26, Tryd.ntmps26
  go_wp2_with fail
  refine (HC.out _).mono ?_
  rintro e w1 ⟨rfl, hb1⟩
  have hx0 : w1.heap[w.heap.size]? = some (.cells #[.int .i64 n, .int .u64 T, .int .u64 S] 24 (0, 0)) := (hb1.block _ (by simp)).trans (heap_alloc_new w _)
  have HX := hide hx0
  have c0 := cell_of_row w1 w.heap.size 0 _ _ (0, 0) hx0
  have c1 := cell_of_row w1 w.heap.size 1 _ _ (0, 0) hx0
  have c2 := cell_of_row w1 w.heap.size 2 _ _ (0, 0) hx0
  have hz1 := hb1.size
  simp at hz1
  have HB1 := hide (below_one hb1)
  clear hb1 hx0
  go_wp2_with fail
  go_loopw [6] (fun i u => ∃ k : Nat, k < N ∧ i = .int .i64 k ∧ Hid (RegL u w1.heap.size n T (Gf2.stpN n T k S)) ∧ Hid (Below w1.heap.size w1 u)) (fun i _ => N - (intOf i).toNat)
  case atStart => exact ⟨0, by have := HN.out.1; omega, rfl, hide ⟨_, heap_alloc_new w1 _⟩, hide ((Below.refl _ _).alloc (Nat.le_refl _) _)⟩
  case round =>
    obtain ⟨k, hk, rfl, hr, hb⟩ := hrel
    have HS := hide (HST.out k w1.heap.size _ hr.out)
    have E2 := hide (Gf2.stpN_succ (D := n) (T := T) k S)
    go_wp2_with fail
    refine HS.out.mono ?_
    rintro e w3 ⟨rfl, hr3, hg3⟩
    rw [← E2.out] at hr3
    obtain ⟨_, q0, q1, q2, -⟩ := hr3.parts
    have HR3 := hide hr3
    have hb3 := hb.out.grown hg3 hb.out.size (fun k e => by have := Option.some.inj e; omega)
    have HB3 := hide hb3
    have hx3 := (hb3.block w.heap.size (by omega)).trans HX.out
    have d0 := cell_of_row w3 w.heap.size 0 _ _ (0, 0) hx3
    have d1 := cell_of_row w3 w.heap.size 1 _ _ (0, 0) hx3
    have d2 := cell_of_row w3 w.heap.size 2 _ _ (0, 0) hx3
    clear hr3 hg3 hb3 hx3
    by_cases he : k + 1 = N
    · have hs : Gf2.stpN n T (k + 1) S = S := by rw [he]; exact HN.out.2.1
      rw [hs] at q2
      have heq := eq_lfsr_same (n : Int) (T : Int) (S : Int) w3
      have HE := hide he
      clear hs he
      go_wp2_with fail
      go_ret2
      exact ⟨by rw [← HE.out]; simp, HB1.out.trans (HB3.out.mono HB1.out.size)⟩
    · have hs : Gf2.stpN n T (k + 1) S ≠ S := HN.out.2.2 (k + 1) (by omega) (by omega)
      have heq := eq_lfsr_ne (n : Int) (T : Int) hs w3
      have hs2 : ¬ ((Gf2.stpN n T (k + 1) S : Nat) : Int) = (S : Int) := by omega
      have hs3 : (((Gf2.stpN n T (k + 1) S : Nat) : Int) == (S : Int)) = false := by rw [beq_eq_false_iff_ne]; exact hs2
      generalize hq : Gf2.stpN n T (k + 1) S = q at *
      have HQ := hide hq
      clear hq
      go_wp2_with fail
      go_roundw
      case rel => exact ⟨k + 1, by omega, by simp, by rw [HQ.out]; exact HR3, HB3⟩
      case measure => simp [intOf]; omega
end Go.Proofs.YtknkkoemghceeaaDoor
