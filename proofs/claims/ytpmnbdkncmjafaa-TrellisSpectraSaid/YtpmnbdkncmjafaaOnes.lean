/- math/bits.OnesCount32, walked. -/
import Derived.Test.YtpmnbdkncmjafaaRows
import Derived.Test.YtpmnbdkncmjafaaWord
import Derived.Test.YtpmnbdkncmjafaaPop
import Derived.Lib.Tables
import Derived.Lib.BitFns
import Derived.Deep.QuietTactic
namespace Go.Proofs.Ytpmnbdkncmjafaa
open Go.RowKit

theorem fold_tab : (⟨((List.append (List.append ([0, 1, 1, 2, 1, 2, 2, 3, 1, 2, 2, 3, 2, 3, 3, 4, 1, 2, 2, 3, 2, 3, 3, 4, 2, 3, 3, 4, 3, 4, 4, 5, 1, 2, 2, 3, 2, 3, 3, 4, 2, 3, 3, 4, 3, 4, 4, 5, 2, 3, 3, 4, 3, 4, 4, 5, 3, 4, 4, 5, 4, 5, 5, 6] : List UInt8)
    ([1, 2, 2, 3, 2, 3, 3, 4, 2, 3, 3, 4, 3, 4, 4, 5, 2, 3, 3, 4, 3, 4, 4, 5, 3, 4, 4, 5, 4, 5, 5, 6, 2, 3, 3, 4, 3, 4, 4, 5, 3, 4, 4, 5, 4, 5, 5, 6, 3, 4, 4, 5, 4, 5, 5, 6, 4, 5, 5, 6, 5, 6, 6, 7] : List UInt8))
    (List.append ([1, 2, 2, 3, 2, 3, 3, 4, 2, 3, 3, 4, 3, 4, 4, 5, 2, 3, 3, 4, 3, 4, 4, 5, 3, 4, 4, 5, 4, 5, 5, 6, 2, 3, 3, 4, 3, 4, 4, 5, 3, 4, 4, 5, 4, 5, 5, 6, 3, 4, 4, 5, 4, 5, 5, 6, 4, 5, 5, 6, 5, 6, 6, 7] : List UInt8)
    ([2, 3, 3, 4, 3, 4, 4, 5, 3, 4, 4, 5, 4, 5, 5, 6, 3, 4, 4, 5, 4, 5, 5, 6, 4, 5, 5, 6, 5, 6, 6, 7, 3, 4, 4, 5, 4, 5, 5, 6, 4, 5, 5, 6, 5, 6, 6, 7, 4, 5, 5, 6, 5, 6, 6, 7, 5, 6, 6, 7, 6, 7, 7, 8] : List UInt8)))).toArray⟩ : ByteArray) = Lib.pop8tab := by decide +kernel
theorem pop8_byte : ∀ n : Fin 256, Lib.pop8 (n.val : Int) = (Gf2.popF 8 n.val : Int) := by decide +kernel
theorem pop8_nat (n : Nat) (h : n < 256) : Lib.pop8 (n : Int) = (Gf2.popF 8 n : Nat) := pop8_byte ⟨n, h⟩
theorem low255 (x : Nat) (hx : x ≤ 4294967295) : bits .and .u32 (x : Int) 255 = ((x : Int) % 256) := by
  have := u32_and_nat x 255 (by omega) (by omega)
  rw [show x &&& 255 = x % 2 ^ 8 from Nat.and_two_pow_sub_one_eq_mod x 8] at this
  simpa using this
theorem pop_parts (x : Nat) : Gf2.popF 32 x = Gf2.popF 8 (x / 16777216) + Gf2.popF 8 (x / 65536 % 256) + Gf2.popF 8 (x / 256 % 256) + Gf2.popF 8 (x % 256) := by
  have h1 := Gf2.popF_add 8 24 x
  have h2 := Gf2.popF_add 8 16 (x / 2 ^ 8)
  have h3 := Gf2.popF_add 8 8 (x / 2 ^ 8 / 2 ^ 8)
  rw [Nat.div_div_eq_div_mul] at h2 h3
  rw [Nat.div_div_eq_div_mul] at h3
  have h4 := Gf2.popF_mod 8 x
  have h5 := Gf2.popF_mod 8 (x / 256)
  have h6 := Gf2.popF_mod 8 (x / 65536)
  simp only [Nat.reducePow, Nat.reduceMul, Nat.reduceAdd] at h1 h2 h3 h4 h5 h6
  omega

theorem ones_any (x : Nat) (hx : x ≤ 4294967295) (w : World) :
    Calls Try.prog 52 #[.int .u32 x] w fun e w' => e = .returned (.int .i64 (Gf2.popF 32 x : Nat)) ∧ ∃ n, w' = w.drewN n := by
  have e0 : bits .and .u32 (x : Int) 255 = ((x : Int) % 256) := low255 x hx
  have e1 : bits .and .u32 ((x : Int) / 256) 255 = ((x : Int) / 256 % 256) := low255 (x / 256) (by omega)
  have e2 : bits .and .u32 ((x : Int) / 65536) 255 = ((x : Int) / 65536 % 256) := low255 (x / 65536) (by omega)
  have p0 : Lib.pop8 ((x : Int) / 16777216) = _ := pop8_nat (x / 16777216) (by omega)
  have p1 : Lib.pop8 ((x : Int) / 65536 % 256) = _ := pop8_nat (x / 65536 % 256) (by omega)
  have p2 : Lib.pop8 ((x : Int) / 256 % 256) = _ := pop8_nat (x / 256 % 256) (by omega)
  have p3 : Lib.pop8 ((x : Int) % 256) = _ := pop8_nat (x % 256) (by omega)
  have h0 : 0 ≤ (x : Int) / 16777216 := by omega
  have h1 : (x : Int) / 16777216 ≤ 255 := by omega
  have hp := pop_parts x
  have l0 := Gf2.popF_le 8 (x / 16777216)
  have l1 := Gf2.popF_le 8 (x / 65536 % 256)
  have l2 := Gf2.popF_le 8 (x / 256 % 256)
  have l3 := Gf2.popF_le 8 (x % 256)
  rw [hp]
  clear hp
  generalize Gf2.popF 8 (x / 16777216) = a at *
  generalize Gf2.popF 8 (x / 65536 % 256) = b at *
  generalize Gf2.popF 8 (x / 256 % 256) = c at *
  generalize Gf2.popF 8 (x % 256) = d at *
  have w1 : IntKind.u8.wrap ((a : Int) + b) = a + b := IntWalk.u8_in _ (by omega)
  have w2 : IntKind.u8.wrap ((a : Int) + b + c) = a + b + c := IntWalk.u8_in _ (by omega)
  have w3 : IntKind.u8.wrap ((a : Int) + b + c + d) = a + b + c + d := IntWalk.u8_in _ (by omega)
  have w4 : IntKind.i64.wrap ((a : Int) + b + c + d) = a + b + c + d := IntWalk.i64_in _ (by omega)
  go_enter Try.func52, Try.ntmps52
  simp only [fold_tab]
  go_wp2
  go_quiet (fail)
  go_wp2_with fail
  go_ret
  exact ⟨by simp, _, rfl⟩
end Go.Proofs.Ytpmnbdkncmjafaa
