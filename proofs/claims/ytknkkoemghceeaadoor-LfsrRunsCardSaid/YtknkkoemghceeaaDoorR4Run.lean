/- outpostref04's Runner: Next, Skip, State, walked. -/
import Derived.Test.YtknkkoemghceeaaDoorRows
import Derived.Test.YtknkkoemghceeaaDoorR4Jump
namespace Go.Proofs.YtknkkoemghceeaaDoor
open Go.RowKit

theorem grown_set3 {w u : World} {g : Nat} (h : w.grownBy u (some g)) (a b c : Value) : w.grownBy (((u.setCell ⟨g, 0, none⟩ a).setCell ⟨g, 1, none⟩ b).setCell ⟨g, 2, none⟩ c) (some g) :=
  ⟨h.os, h.tape, h.output, by simpa using h.size, fun k hk hne => by
    have hk2 : k ≠ g := fun e => hne (by rw [e])
    exact (Below.heap_setCell _ _ _ _ (by exact hk2)).trans ((Below.heap_setCell _ _ _ _ (by exact hk2)).trans ((Below.heap_setCell _ _ _ _ (by exact hk2)).trans (h.block k hk hne)))⟩
theorem grown_of_below {w u : World} {g : Nat} (h : Below w.heap.size w u) : w.grownBy u (some g) := ⟨h.os, h.tape, h.output, h.size, fun k hk _ => h.block k hk⟩
theorem rrstate_good (n T S g : Nat) (w : World) (hr : RegL w g n T S) :
    Calls Tryd.prog 37 #[.pointer (some ⟨g, 0, none⟩)] w fun e w' => e = .returned (.int .u64 S) ∧ w = w' := by
  obtain ⟨hlt, q0, q1, q2, fz⟩ := hr.parts
  clear hr
  go_enter Tryd.func37, Tryd.ntmps37
  go_wp2_with fail
  go_ret
  exact ⟨rfl, rfl⟩
set_option maxHeartbeats 400000 in
theorem rrnext_good (n T S g : Nat) (hg : GoodL n T S) (w : World) (hr : RegL w g n T S) :
    Calls Tryd.prog 33 #[.pointer (some ⟨g, 0, none⟩)] w fun e w' => e = .returned (.int .u8 (S % 2 : Nat)) ∧ RegL w' g n T (Gf2.stp n T S) ∧ w.grownBy w' (some g) := by
  have HS := hide (rstep_any n T S hg)
  have hsm := hg.small
  obtain ⟨hlt, q0, q1, q2, fz⟩ := hr.parts
  have HR := hide hr
  have hmod : ((S : Nat) : Int).tmod 2 = ((S % 2 : Nat) : Int) := by rw [Int.tmod_eq_emod_of_nonneg (by omega)]; omega
  have hq1 : S % 2 ≤ 1 := by omega
  generalize hq : S % 2 = q at *
  have hw8 : IntKind.u8.wrap (q : Int) = q := IntWalk.u8_in _ (by omega)
  generalize Gf2.stp n T S = S' at *
  clear hq hr hg
  go_enter Tryd.func33, Tryd.ntmps33
  go_wp2_with fail
  refine (HS.out _).mono ?_
  rintro e w1 ⟨rfl, hb1⟩
  have hr1 := HR.out.below hb1 hlt
  obtain ⟨_, p0, p1, p2, f2⟩ := hr1.parts
  have f0 : w1.frozen? ⟨g, 0, none⟩ = false := by obtain ⟨ty, h⟩ := hr1; exact frozen_of_row w1 g 0 _ ty h
  have f1 : w1.frozen? ⟨g, 1, none⟩ = false := by obtain ⟨ty, h⟩ := hr1; exact frozen_of_row w1 g 1 _ ty h
  have HR1 := hide hr1
  have HG1 := hide (grown_of_below (g := g) hb1)
  clear hr1 hb1 q0 q1 q2 fz
  go_wp2_with fail
  go_ret
  exact ⟨rfl, HR1.out.set3 S', grown_set3 HG1.out _ _ _⟩
set_option maxHeartbeats 400000 in
theorem rrskip_good (n T S g K : Nat) (hg : GoodL n T S) (hK : K ≤ 18446744073709551615) (w : World) (hr : RegL w g n T S) :
    Calls Tryd.prog 35 #[.pointer (some ⟨g, 0, none⟩), .int .u64 K] w fun e w' => e = .returned (.tuple #[]) ∧ RegL w' g n T (Gf2.stpN n T K S) ∧ w.grownBy w' (some g) := by
  have HJ := hide (rjump_good n T S K hg hK)
  obtain ⟨hlt, q0, q1, q2, fz⟩ := hr.parts
  have HR := hide hr
  generalize Gf2.stpN n T K S = S' at *
  clear hr hg
  go_enter Tryd.func35, Tryd.ntmps35
  go_wp2_with fail
  refine (HJ.out _).mono ?_
  rintro e w1 ⟨rfl, hb1⟩
  have hr1 := HR.out.below hb1 hlt
  obtain ⟨_, p0, p1, p2, f2⟩ := hr1.parts
  have f0 : w1.frozen? ⟨g, 0, none⟩ = false := by obtain ⟨ty, h⟩ := hr1; exact frozen_of_row w1 g 0 _ ty h
  have f1 : w1.frozen? ⟨g, 1, none⟩ = false := by obtain ⟨ty, h⟩ := hr1; exact frozen_of_row w1 g 1 _ ty h
  have HR1 := hide hr1
  have HG1 := hide (grown_of_below (g := g) hb1)
  clear hr1 hb1 q0 q1 q2 fz
  go_wp2_with fail
  go_end0
  exact ⟨rfl, HR1.out.set3 S', grown_set3 HG1.out _ _ _⟩
end Go.Proofs.YtknkkoemghceeaaDoor
