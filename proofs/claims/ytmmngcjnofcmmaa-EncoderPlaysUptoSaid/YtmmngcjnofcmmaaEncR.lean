/- Encoder.Reset, Put of what is no bit; ApartBytes of nothing. -/
import Derived.Test.YtmmngcjnofcmmaaRows
import Derived.Test.YtmmngcjnofcmmaaEncM
namespace Go.Proofs.Ytmmngcjnofcmmaa
open Go.RowKit

set_option maxHeartbeats 400000 in
theorem eput_bit (K R : Int) (a b c s g x : Nat) (hK : K ≠ 0) (hx : 1 < x) (w : World) (hr : RegB w g K R a b c s) :
    Calls Try.prog 22 #[.pointer (some ⟨g, 0, none⟩), .int .u8 x] w fun e w' => e = .returned (.tuple #[.slice none 0 0, .int .i64 10]) ∧ w = w' := by
  have HN := hide (none_good K R a b c s g hK w hr)
  have h : (1 : Int) < x := by omega
  clear hr hx
  go_enter Try.func22, Try.ntmps22
  go_wp2_with fail
  refine HN.out.mono ?_
  rintro e w' ⟨rfl, rfl⟩
  go_wp2_with fail
  go_ret2
  exact ⟨rfl, rfl⟩
set_option maxHeartbeats 400000 in
theorem clear_good (K R : Int) (a b c s g : Nat) (w : World) (hr : RegB w g K R a b c s) :
    Calls Try.prog 51 #[.pointer (some ⟨g, 0, none⟩)] w fun e w' => e = .returned (.tuple #[]) ∧ RegB w' g K R a b c 0 ∧ w.grownBy w' (some g) := by
  obtain ⟨l1, q0, q1, q2, q3, q4, q5, fz⟩ := hr.parts
  have HS := hide (hr.set 0)
  have HG := hide (grownBy_set (World.grownBy.refl w (some g)) ⟨g, 5, none⟩ (.int .u32 ((0 : Nat) : Int)) (.inl rfl))
  clear hr
  go_enter Try.func51, Try.ntmps51
  go_wp2_with fail
  go_end0
  exact ⟨rfl, HS.out, HG.out⟩
set_option maxHeartbeats 400000 in
theorem reset_good (K R : Int) (a b c s g : Nat) (hK : K ≠ 0) (w : World) (hr : RegB w g K R a b c s) :
    Calls Try.prog 32 #[.pointer (some ⟨g, 0, none⟩)] w fun e w' => e = .returned (.tuple #[]) ∧ RegB w' g K R a b c 0 ∧ w.grownBy w' (some g) := by
  have HN := hide (none_good K R a b c s g hK w hr)
  have HCL := hide (clear_good K R a b c s g w hr)
  clear hr
  go_enter Try.func32, Try.ntmps32
  go_wp2_with fail
  refine HN.out.mono ?_
  rintro e w' ⟨rfl, rfl⟩
  go_wp2_with fail
  refine HCL.out.mono ?_
  rintro e w1 ⟨rfl, hr1, hg1⟩
  have HR1 := hide hr1
  have HG1 := hide hg1
  clear hr1 hg1
  go_wp2_with fail
  go_end0
  exact ⟨rfl, HR1.out, HG1.out⟩
end Go.Proofs.Ytmmngcjnofcmmaa
