/- The greatest common divisor of the reference of layer 2. -/
import Derived.Test.YtpmnbdkncmjafaaRows
import Derived.Test.YtpmnbdkncmjafaaRef2W
namespace Go.Proofs.Ytpmnbdkncmjafaa
open Go.RowKit


set_option maxHeartbeats 400000 in
theorem rgcd_any (a b : Nat) (ha : a ≤ 18446744073709551615) (hb : b ≤ 18446744073709551615) (w : World) :
    Calls Try.prog 61 #[.int .u64 a, .int .u64 b] w fun e w' => e = .returned (.int .u64 (Gf2.gcd a b)) ∧ w = w' := by
  go_enter Try.func61, Try.ntmps61
  go_wp2_with fail
  go_loop [0, 1] (fun x y => ∃ a' b' : Nat, a' ≤ 18446744073709551615 ∧ b' ≤ 18446744073709551615 ∧ Gf2.gcd a' b' = Gf2.gcd a b ∧ x = .int .u64 a' ∧ y = .int .u64 b') (fun _ y => Gf2.len (intOf y).toNat)
  case atStart => exact ⟨a, b, ha, hb, rfl, rfl, rfl⟩
  case round =>
    clear ha hb
    obtain ⟨a', b', ha, hb, hg, rfl, rfl⟩ := hrel
    have hG := hide hg
    clear hg
    by_cases hb0 : b' = 0
    · subst hb0
      go_wp2
      go_ret
      exact ⟨by rw [← hG.out, Gf2.gcd_zero]; rfl, rfl⟩
    · have hne : ((b' : Int) != 0) = true := by rw [bne_iff_ne]; omega
      have hN := hide hb0
      have hr := rem_le (a := a') hb hb0
      have hW := hide (whole_any 0 a' b' (by omega) ha hb hb0 w)
      rw [pair64_zero] at hW
      clear hb0
      go_wp2_with fail
      refine hW.out.mono ?_
      rintro e w' ⟨rfl, rfl⟩
      go_wp2
      go_round
      case rel => exact ⟨b', _, hb, hr, by rw [← hG.out, Gf2.gcd_step a' hN.out], rfl, rfl⟩
      case measure => have := Gf2.len_rem a' hN.out; simpa [intOf] using this
end Go.Proofs.Ytpmnbdkncmjafaa
