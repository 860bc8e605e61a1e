/- outpostref04.Bits, walked. -/
import Derived.Test.YtknkkoemghceeaaDoorRows
import Derived.Test.YtknkkoemghceeaaDoorR4Turn
namespace Go.Proofs.YtknkkoemghceeaaDoor
open Go.RowKit

set_option maxHeartbeats 400000 in
theorem rbits_bad (D : Int) (T S : Nat) (hT : T ≤ 18446744073709551615) (hS : S ≤ 18446744073709551615) (hne : lchk D T S ≠ 0) (m : Value) (w : World) :
    Calls Tryd.prog 18 #[.agg #[.int .i64 D, .int .u64 T, .int .u64 S], m] w fun e w' => e = .returned (.tuple #[.slice none 0 0, .int .i64 (lchk D T S)]) ∧ Below w.heap.size w w' := by
  have HC := hide (r4check_any D T S hT hS)
  have hb := nzBne hne
  generalize lchk D T S = cf at *
  clear hne
  go_enter Tryd.func18, Tryd.ntmps18
  go_wp2_with fail
  refine (HC.out _).mono ?_
  rintro e w1 ⟨rfl, hb1⟩
  go_wp2_with fail
  go_ret2
  exact ⟨rfl, below_one hb1⟩
set_option maxHeartbeats 400000 in
theorem rbits_size (n T S : Nat) (hg : GoodL n T S) (m : Int) (hm : sizeF m ≠ 0) (w : World) :
    Calls Tryd.prog 18 #[.agg #[.int .i64 n, .int .u64 T, .int .u64 S], .int .i64 m] w fun e w' => e = .returned (.tuple #[.slice none 0 0, .int .i64 (sizeF m)]) ∧ Below w.heap.size w w' := by
  have HC := hide (r4check_any n T S (by have := hg.small; omega) (by have := hg.small; omega))
  rw [lchk_good hg] at HC
  by_cases h1 : m < 0
  · rw [show sizeF m = 1 from if_pos h1]
    clear hm hg
    go_enter Tryd.func18, Tryd.ntmps18
    go_wp2_with fail
    refine (HC.out _).mono ?_
    rintro e w1 ⟨rfl, hb1⟩
    go_wp2_with fail
    go_ret2
    exact ⟨rfl, below_one hb1⟩
  · by_cases h2 : 1048576 < m
    · rw [show sizeF m = 6 by unfold sizeF; rw [if_neg h1, if_pos h2]]
      clear hm hg
      go_enter Tryd.func18, Tryd.ntmps18
      go_wp2_with fail
      refine (HC.out _).mono ?_
      rintro e w1 ⟨rfl, hb1⟩
      go_wp2_with fail
      go_ret2
      exact ⟨rfl, below_one hb1⟩
    · exact absurd (by unfold sizeF; rw [if_neg h1, if_neg h2]) hm
set_option maxHeartbeats 400000 in
theorem rbits_ok (n T S : Nat) (hg : GoodL n T S) (m : Nat) (hm : m ≤ 1048576) (w : World) :
    Calls Tryd.prog 18 #[.agg #[.int .i64 n, .int .u64 T, .int .u64 S], .int .i64 m] w fun e w' => ∃ v, e = .returned (.tuple #[v, .int .i64 0]) ∧ OwnB w' w.heap.size v (firstL n T S m) ∧ Below w.heap.size w w' := by
  have HC := hide (r4check_any n T S (by have := hg.small; omega) (by have := hg.small; omega))
  rw [lchk_good hg] at HC
  have HF := hide (rfirst_ok n T S hg m (by omega))
  clear hg
  go_enter Tryd.func18, Tryd.ntmps18
  go_wp2_with fail
  refine (HC.out _).mono ?_
  rintro e w1 ⟨rfl, hb1⟩
  have c0 := bcell hb1 (b := w.heap.size) (o := 0) (v := .int .i64 n) (by simp) (by simp [go_sem])
  have c1 := bcell hb1 (b := w.heap.size) (o := 1) (v := .int .u64 T) (by simp) (by simp [go_sem])
  have c2 := bcell hb1 (b := w.heap.size) (o := 2) (v := .int .u64 S) (by simp) (by simp [go_sem])
  have HB := hide (below_one hb1)
  have hz := HB.out.size
  clear hb1
  go_wp2_with fail
  refine (HF.out _).mono ?_
  rintro e w2 ⟨v, rfl, ho, hb2⟩
  go_wp2_with fail
  go_ret2
  exact ⟨v, rfl, OwnB.base ho hz, below_then HB.out hb2⟩
end Go.Proofs.YtknkkoemghceeaaDoor
