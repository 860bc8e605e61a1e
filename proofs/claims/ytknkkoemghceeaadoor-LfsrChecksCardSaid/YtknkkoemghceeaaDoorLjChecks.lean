/- The law LfsrChecks, walked: it returns true. -/
import Derived.Test.YtknkkoemghceeaaDoorRows
import Derived.Test.YtknkkoemghceeaaDoorLfLive
import Derived.Test.YtknkkoemghceeaaDoorR4Per
import Derived.Deep.RegionHeld3
namespace Go.Proofs.YtknkkoemghceeaaDoor
open Go.RowKit

/-- a register in a box -/
def u5P (b : Nat) (D : Int) (T S : Nat) (w0 u : World) : Prop :=
  u.cell? ⟨b, 0, none⟩ = some (.int .i64 D) ∧ u.cell? ⟨b, 1, none⟩ = some (.int .u64 T) ∧ u.cell? ⟨b, 2, none⟩ = some (.int .u64 S) ∧ Below w0.heap.size w0 u
set_option maxRecDepth 100000 in
set_option maxHeartbeats 4000000 in
theorem lcks_core (D : Int) (T S : Nat) (hT : T ≤ 18446744073709551615) (hS : S ≤ 18446744073709551615) (Pv c Nv : Int) (hc : lchk D T S = c)
    (hP1 : ∀ w, Calls Tryd.prog 27 #[.agg #[.int .i64 D, .int .u64 T, .int .u64 S]] w fun e w' => e = .returned (.tuple #[.int .u64 Pv, .int .i64 c]) ∧ Below w.heap.size w w')
    (hP2 : ∀ w, Calls Tryd.prog 28 #[.agg #[.int .i64 D, .int .u64 T, .int .u64 S]] w fun e w' => e = .returned (.tuple #[.int .u64 Pv, .int .i64 c]) ∧ Below w.heap.size w w')
    (hN1 : ∀ w, Calls Tryd.prog 26 #[.agg #[.int .i64 D, .int .u64 T, .int .u64 S]] w fun e w' => e = .returned (.tuple #[.int .i64 Nv, .int .i64 c]) ∧ Below w.heap.size w w')
    (hN2 : ∀ w, Calls Tryd.prog 29 #[.agg #[.int .i64 D, .int .u64 T, .int .u64 S]] w fun e w' => e = .returned (.tuple #[.int .i64 Nv, .int .i64 c]) ∧ Below w.heap.size w w')
    (hSe : ∀ w, Calls Tryd.prog 30 #[.agg #[.int .i64 D, .int .u64 T, .int .u64 S]] w fun e w' => ∃ p, e = .returned (.tuple #[.pointer p, .int .i64 c]) ∧ ((p = none ∧ c ≠ 0) ∨ (∃ g, p = some ⟨g, 0, none⟩ ∧ c = 0)) ∧ Below w.heap.size w w')
    (w : World) (ht : TabW w) :
    Calls Tryd.prog 5 #[.agg #[.int .i64 D, .int .u64 T, .int .u64 S]] w fun e w' => e = .returned (.bool true) ∧ Below w.heap.size w w' := by
  have HC1 := hide (lcheck_any D T S hT hS)
  have HC2 := hide (r4check_any D T S hT hS)
  rw [hc] at HC1 HC2
  have HP1 := hide hP1
  have HP2 := hide hP2
  have HN1 := hide hN1
  have HN2 := hide hN2
  have HSE := hide hSe
  have HL := hide (fun u (h : Below w.heap.size w u) => llive_any u (ht.below h))
  clear hP1 hP2 hN1 hN2 hSe ht hc
  go_enter Tryd.func5, Tryd.ntmps5
  go_wp2_with fail
  have hr0 : RegL (w.alloc (.cells #[.int .i64 D, .int .u64 T, .int .u64 S] 24)) w.heap.size D T S := ⟨_, heap_alloc_new w _⟩
  have hb0 : Below w.heap.size w (w.alloc (.cells #[.int .i64 D, .int .u64 T, .int .u64 S] 24)) := (Below.refl _ _).alloc (Nat.le_refl _) _
  have hl0 := hr0.lt
  generalize w.alloc (.cells #[.int .i64 D, .int .u64 T, .int .u64 S] 24) = W0 at *
  have HU := hide fun (u : World) (hb : Below W0.heap.size W0 u) => (show u.cell? ⟨w.heap.size, 0, none⟩ = some (.int .i64 D) ∧ u.cell? ⟨w.heap.size, 1, none⟩ = some (.int .u64 T) ∧ u.cell? ⟨w.heap.size, 2, none⟩ = some (.int .u64 S) from by
    have := (hr0.below hb hl0).parts; exact ⟨this.2.1, this.2.2.1, this.2.2.2.1⟩)
  have HB0 := hide hb0
  clear hr0 hb0
  refine (HP1.out _).mono ?_
  rintro e w1 ⟨rfl, hb1⟩
  obtain ⟨s0, s1, s2⟩ := HU.out _ hb1
  have HD1 := hide hb1
  clear hb1
  go_wp2_with fail
  refine (HP2.out _).mono ?_
  rintro e w2 ⟨rfl, hb2⟩
  have HD2 := hide (below_then HD1.out hb2)
  clear hb2 s0 s1 s2
  obtain ⟨s0, s1, s2⟩ := HU.out _ HD2.out
  go_wp2_with fail
  refine (HN1.out _).mono ?_
  rintro e w3 ⟨rfl, hb3⟩
  have HD3 := hide (below_then HD2.out hb3)
  clear hb3 s0 s1 s2
  obtain ⟨s0, s1, s2⟩ := HU.out _ HD3.out
  go_wp2_with fail
  refine (HN2.out _).mono ?_
  rintro e w4 ⟨rfl, hb4⟩
  have HD4 := hide (below_then HD3.out hb4)
  clear hb4 s0 s1 s2
  obtain ⟨s0, s1, s2⟩ := HU.out _ HD4.out
  go_wp2_with fail
  refine (HSE.out _).mono ?_
  rintro e w5 ⟨pu, rfl, hpu, hb5⟩
  have HD5 := hide (below_then HD4.out hb5)
  clear hb5 s0 s1 s2
  obtain ⟨s0, s1, s2⟩ := HU.out _ HD5.out
  have HLr := hide (fun u (h : Below W0.heap.size W0 u) => HL.out u (below_then HB0.out h))
  have HSt := hide (show u5P w.heap.size D T S W0 w5 from ⟨s0, s1, s2, HD5.out⟩)
  have HKe := hide (fun u u' (h : u5P w.heap.size D T S W0 u) (hb : Below u.heap.size u u') => (show u5P w.heap.size D T S W0 u' from by
    have h2 := below_then h.2.2.2 hb
    have h3 := HU.out u' h2
    exact ⟨h3.1, h3.2.1, h3.2.2, h2⟩))
  clear HD1 HD2 HD3 HD4 HP1 HP2 HN1 HN2 HSE HL
  rcases hpu with ⟨rfl, hne⟩ | ⟨g, rfl, rfl⟩
  · have hq := nzBeq hne
    go_wp2_with fail
    go_region_held3 (fun u => u.cell? ⟨w.heap.size, 0, none⟩ = some (.int .i64 D) ∧ u.cell? ⟨w.heap.size, 1, none⟩ = some (.int .u64 T) ∧ u.cell? ⟨w.heap.size, 2, none⟩ = some (.int .u64 S) ∧ Below W0.heap.size W0 u)
      (first | exact HKe.out _ _ HSt.out (Below.refl _ _).drew | exact HSt.out | exact HKe.out _ _ (by assumption) (by assumption) | exact HKe.out _ _ (by assumption) (Below.refl _ _))
      (first
        | (go_at_call 31; refine (HC1.out _).mono ?_; rintro e w' ⟨rfl, hb'⟩)
        | (go_at_call 25; refine (HC2.out _).mono ?_; rintro e w' ⟨rfl, hb'⟩)
        | (go_at_call 21; refine (num_any _ _).mono ?_; rintro e w' ⟨rfl, rfl⟩)
        | (go_at_call 24; refine (HLr.out _ (show u5P w.heap.size D T S W0 _ by assumption).2.2.2).mono ?_; rintro e w' ⟨rfl, hb'⟩))
    rename_i hh
    have HF := hide (below_then HB0.out (show u5P w.heap.size D T S W0 _ from hh).2.2.2)
    go_wp2_with fail
    go_ret
    exact ⟨rfl, HF.out⟩
  · skip
    go_wp2_with fail
    go_region_held3 (fun u => u.cell? ⟨w.heap.size, 0, none⟩ = some (.int .i64 D) ∧ u.cell? ⟨w.heap.size, 1, none⟩ = some (.int .u64 T) ∧ u.cell? ⟨w.heap.size, 2, none⟩ = some (.int .u64 S) ∧ Below W0.heap.size W0 u)
      (first | exact HKe.out _ _ HSt.out (Below.refl _ _).drew | exact HSt.out | exact HKe.out _ _ (by assumption) (by assumption) | exact HKe.out _ _ (by assumption) (Below.refl _ _))
      (first
        | (go_at_call 31; refine (HC1.out _).mono ?_; rintro e w' ⟨rfl, hb'⟩)
        | (go_at_call 25; refine (HC2.out _).mono ?_; rintro e w' ⟨rfl, hb'⟩)
        | (go_at_call 21; refine (num_any _ _).mono ?_; rintro e w' ⟨rfl, rfl⟩)
        | (go_at_call 24; refine (HLr.out _ (show u5P w.heap.size D T S W0 _ by assumption).2.2.2).mono ?_; rintro e w' ⟨rfl, hb'⟩))
    rename_i hh
    have HF := hide (below_then HB0.out (show u5P w.heap.size D T S W0 _ from hh).2.2.2)
    go_wp2_with fail
    go_ret
    exact ⟨rfl, HF.out⟩
theorem law_lchecks (D : Int) (T S : Nat) (hT : T ≤ 18446744073709551615) (hS : S ≤ 18446744073709551615) (w : World) (ht : TabW w) :
    Calls Tryd.prog 5 #[.agg #[.int .i64 D, .int .u64 T, .int .u64 S]] w fun e w' => e = .returned (.bool true) ∧ Below w.heap.size w w' := by
  by_cases h : lchk D T S = 0
  · obtain ⟨n, rfl, hg⟩ := lchk_zero h
    obtain ⟨N, hN, hle⟩ := Gf2.per_ex (D := n) (T := T) (v := S) (by have := hg.lo; omega) hg.odd hg.seed
    have hN2 : N ≤ 1048576 := Nat.le_trans hle (pow20 hg.hi)
    refine lcks_core n T S hT hS ((2 ^ n + T : Nat) : Int) 0 (N : Int) (lchk_good hg) (lpoly_good n T S hg) (rpoly_good n T S hg) (lperiod_ok n T S N hg hN hN2) (rperiod_good n T S N hg hN hN2) (fun u => ?_) w ht
    refine (lseries_good n T S hg u).mono ?_
    rintro e w1 ⟨g, rfl, -, -, hb⟩
    exact ⟨_, rfl, .inr ⟨g, rfl, rfl⟩, hb⟩
  · refine lcks_core D T S hT hS 0 _ 0 rfl (lpoly_bad D T S hT hS h) (rpoly_bad D T S hT hS h) (lperiod_bad D T S hT hS h) (rperiod_bad D T S hT hS h) (fun u => ?_) w ht
    refine (lseries_bad D T S hT hS h u).mono ?_
    rintro e w1 ⟨rfl, hb⟩
    exact ⟨_, rfl, .inl ⟨rfl, h⟩, hb⟩
end Go.Proofs.YtknkkoemghceeaaDoor
