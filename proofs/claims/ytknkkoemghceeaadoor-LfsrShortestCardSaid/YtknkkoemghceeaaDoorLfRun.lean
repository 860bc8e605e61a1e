/- lfsr.Series, Next, none, walked. -/
import Derived.Test.YtknkkoemghceeaaDoorRows
import Derived.Test.YtknkkoemghceeaaDoorLfStep
namespace Go.Proofs.YtknkkoemghceeaaDoor
open Go.RowKit

theorem GoodL.stp {n T S : Nat} (h : GoodL n T S) : GoodL n T (Gf2.stp n T S) := by
  have hlt := Gf2.stp_lt (D := n) (T := T) (v := S) (by have := h.lo; omega) h.seed
  refine ⟨h.lo, h.hi, h.odd, h.tap, fun e => h.ne ?_, hlt⟩
  exact Gf2.stp_inj (D := n) (T := T) (by have := h.lo; omega) h.odd h.seed (Nat.two_pow_pos n) (by rw [e, Gf2.stp_zero])
theorem GoodL.stpN {n T S : Nat} (h : GoodL n T S) (k : Nat) : GoodL n T (Gf2.stpN n T k S) := by
  induction k with
  | zero => exact h
  | succ k ih => rw [Gf2.stpN_succ]; exact ih.stp
theorem GoodL.small {n T S : Nat} (h : GoodL n T S) : T ≤ 1048575 ∧ S ≤ 1048575 := by
  have := pow20 h.hi
  exact ⟨by have := h.tap; omega, by have := h.seed; omega⟩
set_option maxHeartbeats 400000 in
theorem lseries_bad (D : Int) (T S : Nat) (hT : T ≤ 18446744073709551615) (hS : S ≤ 18446744073709551615) (hne : lchk D T S ≠ 0) (w : World) :
    Calls Tryd.prog 30 #[.agg #[.int .i64 D, .int .u64 T, .int .u64 S]] w fun e w' => e = .returned (.tuple #[.pointer none, .int .i64 (lchk D T S)]) ∧ Below w.heap.size w w' := by
  have HC := hide (lcheck_any D T S hT hS)
  have hb := nzBne hne
  generalize lchk D T S = cf at *
  clear hne
  go_enter Tryd.func30, Tryd.ntmps30
  go_wp2_with fail
  refine (HC.out _).mono ?_
  rintro e w1 ⟨rfl, hb1⟩
  go_wp2_with fail
  go_ret2
  exact ⟨rfl, below_one hb1⟩
set_option maxHeartbeats 400000 in
theorem lseries_good (n T S : Nat) (hg : GoodL n T S) (w : World) :
    Calls Tryd.prog 30 #[.agg #[.int .i64 n, .int .u64 T, .int .u64 S]] w fun e w' => ∃ g, e = .returned (.tuple #[.pointer (some ⟨g, 0, none⟩), .int .i64 0]) ∧ RegL w' g n T S ∧ w.heap.size ≤ g ∧ Below w.heap.size w w' := by
  have HC := hide (lcheck_any n T S (by have := hg.small; omega) (by have := hg.small; omega))
  rw [lchk_good hg] at HC
  clear hg
  go_enter Tryd.func30, Tryd.ntmps30
  go_wp2_with fail
  refine (HC.out _).mono ?_
  rintro e w1 ⟨rfl, hb1⟩
  have k1 := bk hb1 w.heap.size (by simp)
  have hz := hb1.size
  simp at hz
  go_wp2_with fail
  go_ret2
  refine ⟨w1.heap.size, rfl, ⟨_, heap_alloc_new w1 _⟩, by omega, (below_one hb1).alloc (by omega) _⟩
set_option maxHeartbeats 400000 in
theorem lnone_good (n T S g : Nat) (hg : GoodL n T S) (w : World) (hr : RegL w g n T S) :
    Calls Tryd.prog 64 #[.pointer (some ⟨g, 0, none⟩)] w fun e w' => e = .returned (.bool false) ∧ w = w' := by
  obtain ⟨hlt, q0, q1, q2, fz⟩ := hr.parts
  have hb := zNe (x := n) (by have := hg.lo; omega)
  clear hr hg
  go_enter Tryd.func64, Tryd.ntmps64
  go_wp2_with fail
  go_ret
  exact ⟨rfl, rfl⟩
set_option maxHeartbeats 400000 in
theorem lnext_good (n T S g : Nat) (hg : GoodL n T S) (w : World) (hr : RegL w g n T S) :
    Calls Tryd.prog 32 #[.pointer (some ⟨g, 0, none⟩)] w fun e w' => e = .returned (.int .u8 (S % 2 : Nat)) ∧ RegL w' g n T (Gf2.stp n T S) ∧ w.grownBy w' (some g) := by
  have HN := hide (lnone_good n T S g hg w hr)
  have HS := hide (lstep_any n T S g hg w hr)
  clear hr hg
  go_enter Tryd.func32, Tryd.ntmps32
  go_wp2_with fail
  refine HN.out.mono ?_
  rintro e w' ⟨rfl, rfl⟩
  go_wp2_with fail
  refine HS.out.mono ?_
  rintro e w1 ⟨rfl, hr1, hg1⟩
  have HR1 := hide hr1
  have HG1 := hide hg1
  clear hr1 hg1
  go_wp2_with fail
  go_ret
  exact ⟨rfl, HR1.out, HG1.out⟩
end Go.Proofs.YtknkkoemghceeaaDoor
