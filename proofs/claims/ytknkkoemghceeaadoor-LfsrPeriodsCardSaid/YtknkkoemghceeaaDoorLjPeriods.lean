/- The law LfsrPeriods, walked: it returns true. -/
import Derived.Test.YtknkkoemghceeaaDoorRows
import Derived.Test.YtknkkoemghceeaaDoorPolyIrr
import Derived.Test.YtknkkoemghceeaaDoorR4Per
import Derived.Test.YtknkkoemghceeaaDoorLfLive
namespace Go.Proofs.YtknkkoemghceeaaDoor
open Go.RowKit

theorem pol_odd {n T : Nat} (h2 : 2 ≤ n) (hT : T % 2 = 1) : (2 ^ n + T) % 2 = 1 := by
  obtain ⟨d, rfl⟩ : ∃ d, n = d + 1 := ⟨n - 1, by omega⟩
  rw [Nat.pow_succ]; omega
theorem lperiods_bad (D : Int) (T S : Nat) (hT : T ≤ 18446744073709551615) (hS : S ≤ 18446744073709551615) (hne : lchk D T S ≠ 0) (w : World) (ht : TabW w) :
    Calls Tryd.prog 15 #[.agg #[.int .i64 D, .int .u64 T, .int .u64 S]] w fun e w' => e = .returned (.bool true) ∧ Below w.heap.size w w' := by
  have HC := hide (r4check_any D T S hT hS)
  have hb := nzBne hne
  have HL := hide (fun u (h : Below w.heap.size w u) => llive_any u (ht.below h))
  generalize lchk D T S = cf at *
  clear hne ht
  go_enter Tryd.func15, Tryd.ntmps15
  go_wp2_with fail
  refine (HC.out _).mono ?_
  rintro e w1 ⟨rfl, hb1⟩
  have HB := hide (below_one hb1)
  clear hb1
  go_wp2_with fail
  refine (HL.out _ HB.out).mono ?_
  rintro e w2 ⟨rfl, hb2⟩
  go_wp2_with fail
  go_ret
  exact ⟨rfl, below_then HB.out hb2⟩
set_option maxRecDepth 100000 in
set_option maxHeartbeats 2000000 in
theorem lperiods_good (n T S N M : Nat) (hg : GoodL n T S) (hN : Gf2.Per n T S N) (hNl : N < 2 ^ n) (hM : Gf2.OrdP (2 ^ n + T) M) (hMl : M ≤ 1048576) (hdiv : M % N = 0) (hirr : Gf2.Irr (2 ^ n + T) → M = N) (w : World) (ht : TabW w) :
    Calls Tryd.prog 15 #[.agg #[.int .i64 n, .int .u64 T, .int .u64 S]] w fun e w' => e = .returned (.bool true) ∧ Below w.heap.size w w' := by
  have h2 := hg.lo
  have h20 := hg.hi
  have hp20 := pow20 hg.hi
  have ho := pol_odd hg.lo hg.odd
  have hl : Gf2.len (2 ^ n + T) = n + 1 := Gf2.len_pol hg.tap
  have HC := hide (r4check_any n T S (by have := hg.small; omega) (by have := hg.small; omega))
  rw [lchk_good hg] at HC
  have HP := hide (lpoly_good n T S hg)
  have HPE := hide (lperiod_ok n T S N hg hN (by omega))
  have HO := hide (order_odd (2 ^ n + T) n M ho hl h20 hM hMl)
  have HI := hide (pirr_odd (2 ^ n + T) n ho hl (by omega) (by omega))
  have HL := hide (fun u (h : Below w.heap.size w u) => llive_any u (ht.below h))
  have hN1 := hN.1
  have HIR := hide hirr
  generalize 2 ^ n + T = P at *
  have hdI : ((M : Int) % (N : Int) == 0) = true := by rw [beq_iff_eq]; omega
  have hsh : IntKind.i64.wrap ((2 : Int) ^ n) = ((2 ^ n : Nat) : Int) := by
    have e : ((2 : Int) ^ n) = ((2 ^ n : Nat) : Int) := by simp
    rw [e, IntWalk.i64_in _ ⟨by omega, by omega⟩]
  have hge : ¬ ((2 ^ n : Nat) : Int) ≤ N := by omega
  have hcast : ((2 : Int) ^ n) = ((2 ^ n : Nat) : Int) := by simp
  have hge2 : ¬ (2 : Int) ^ n ≤ N := by rw [hcast]; exact hge
  clear hcast
  have hmin : min n 64 = n := by omega
  clear hg hN hM hdiv hirr ho hl ht hNl hp20
  go_enter Tryd.func15, Tryd.ntmps15
  go_wp2_with fail
  refine (HC.out _).mono ?_
  rintro e w1 ⟨rfl, hb1⟩
  have hr1 : RegL w1 w.heap.size n T S := ⟨_, (hb1.block w.heap.size (by simp)).trans (heap_alloc_new w _)⟩
  obtain ⟨hl1, q0, q1, q2, -⟩ := hr1.parts
  have HB1 := hide (below_one hb1)
  have HR1 := hide hr1
  clear hr1 hb1
  go_wp2_with fail
  refine (HP.out _).mono ?_
  rintro e w2 ⟨rfl, hb2⟩
  have HB2 := hide (below_then HB1.out hb2)
  have HR2 := hide (HR1.out.below hb2 hl1)
  obtain ⟨hl2, r0, r1, r2, -⟩ := HR2.out.parts
  clear hb2
  go_wp2_with fail
  refine (HPE.out _).mono ?_
  rintro e w3 ⟨rfl, hb3⟩
  have HB3 := hide (below_then HB2.out hb3)
  have HR3 := hide (HR2.out.below hb3 hl2)
  obtain ⟨hl3, s0, s1, s2, -⟩ := HR3.out.parts
  clear hb3
  go_wp2_with fail
  refine (HO.out _).mono ?_
  rintro e w' ⟨rfl, rfl⟩
  go_wp2_with fail
  refine (HI.out _).mono ?_
  rintro e w' ⟨b, rfl, hb, rfl⟩
  have HLL := hide (HL.out _ HB3.out)
  have HBB := hide hb
  clear hb
  go_wp2_with fail
  refine (num_any _ _).mono ?_
  rintro e w' ⟨rfl, rfl⟩
  go_wp2_with fail
  refine (num_any _ _).mono ?_
  rintro e w' ⟨rfl, rfl⟩
  go_wp2_with fail
  refine (num_any _ _).mono ?_
  rintro e w' ⟨rfl, rfl⟩
  go_wp2_with fail
  refine (num_any _ _).mono ?_
  rintro e w' ⟨rfl, rfl⟩
  cases b
  · go_wp2_with fail
    refine HLL.out.mono ?_
    rintro e w4 ⟨rfl, hb4⟩
    go_wp2_with fail
    go_ret
    exact ⟨rfl, below_then HB3.out hb4⟩
  · have hMN : ((M : Int) == (N : Int)) = true := by rw [beq_iff_eq, HIR.out (HBB.out rfl)]
    go_wp2_with fail
    refine HLL.out.mono ?_
    rintro e w4 ⟨rfl, hb4⟩
    go_wp2_with fail
    go_ret
    exact ⟨rfl, below_then HB3.out hb4⟩
theorem law_periods (D : Int) (T S : Nat) (hT : T ≤ 18446744073709551615) (hS : S ≤ 18446744073709551615) (w : World) (ht : TabW w) :
    Calls Tryd.prog 15 #[.agg #[.int .i64 D, .int .u64 T, .int .u64 S]] w fun e w' => e = .returned (.bool true) ∧ Below w.heap.size w w' := by
  by_cases h : lchk D T S = 0
  · obtain ⟨n, rfl, hg⟩ := lchk_zero h
    have h2 := hg.lo
    have h20 := hg.hi
    have hp := pow20 hg.hi
    obtain ⟨N, hN, _⟩ := Gf2.per_ex (D := n) (T := T) (v := S) (by omega) hg.odd hg.seed
    obtain ⟨M, hM, hMl⟩ := Gf2.ord_ex (p := 2 ^ n + T) (n := n) (pol_odd hg.lo hg.odd) (Gf2.len_pol hg.tap)
    exact lperiods_good n T S N M hg hN (Gf2.per_lt (by omega) hg.odd hg.seed hg.ne hN) hM (by omega) (Gf2.per_dvd (by omega) (by omega) hg.tap hg.seed hM hN) (fun hI => Gf2.per_eq hI (by omega) (by omega) hg.tap hg.seed hg.ne hM hN) w ht
  · exact lperiods_bad D T S hT hS h w ht
end Go.Proofs.YtknkkoemghceeaaDoor
