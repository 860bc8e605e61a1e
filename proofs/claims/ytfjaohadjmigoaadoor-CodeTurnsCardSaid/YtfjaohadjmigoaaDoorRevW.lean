/- math/bits.Reverse64, ReverseBytes64 and poly.Reverse, walked. -/
import Derived.Test.YtfjaohadjmigoaaDoorRows
import Derived.Test.YtfjaohadjmigoaaDoorGf2
import Derived.Test.YtfjaohadjmigoaaDoorWord
import Derived.Test.YtfjaohadjmigoaaDoorLong
import Derived.Test.YtfjaohadjmigoaaDoorPoly
import Derived.Test.YtfjaohadjmigoaaDoorMul
import Derived.Test.YtfjaohadjmigoaaDoorDiv
import Derived.Test.YtfjaohadjmigoaaDoorRef2W
import Derived.Test.YtfjaohadjmigoaaDoorRef2
import Derived.Test.YtfjaohadjmigoaaDoorCheckF
import Derived.Test.YtfjaohadjmigoaaDoorEval
import Derived.Test.YtfjaohadjmigoaaDoorCode
import Derived.Test.YtfjaohadjmigoaaDoorRCheck
import Derived.Test.YtfjaohadjmigoaaDoorNames
import Derived.Test.YtfjaohadjmigoaaDoorNamed
import Derived.Test.YtfjaohadjmigoaaDoorEq
import Derived.Test.YtfjaohadjmigoaaDoorKnows
import Derived.Test.YtfjaohadjmigoaaDoorPop
import Derived.Test.YtfjaohadjmigoaaDoorOnes
import Derived.Test.YtfjaohadjmigoaaDoorRight1
import Derived.Test.YtfjaohadjmigoaaDoorBytes
import Derived.Test.YtfjaohadjmigoaaDoorCodeB
import Derived.Test.YtfjaohadjmigoaaDoorRevM
import Derived.Test.YtfjaohadjmigoaaDoorRevC
import Derived.Test.YtfjaohadjmigoaaDoorRevK
namespace Go.Proofs.YtfjaohadjmigoaaDoor
open Go.RowKit

theorem key_swp (k m x : Nat) (hx : x ≤ 18446744073709551615) (hm : m ≤ 18446744073709551615) :
    bits .or .u64 (bits .and .u64 ((x : Int) / ((2 ^ k : Nat) : Int)) (m : Int)) (IntKind.u64.wrap (bits .and .u64 (x : Int) (m : Int) * ((2 ^ k : Nat) : Int))) = ((Rev.swp k m x : Nat) : Int) := by
  have h1 : (x : Int) / ((2 ^ k : Nat) : Int) = ((x / 2 ^ k : Nat) : Int) := by simp
  have h2 : x / 2 ^ k ≤ 18446744073709551615 := Nat.le_trans (Nat.div_le_self _ _) hx
  have h3 : x / 2 ^ k &&& m ≤ 18446744073709551615 := Nat.le_trans Nat.and_le_right hm
  rw [h1, and64 h2 hm, and64 hx hm]
  have h4 := shlI64 (x &&& m) k
  rw [show ((2 ^ k : Nat) : Int) = (2 : Int) ^ k by simp, h4, or64 h3 (shl64_le _ _)]
  rfl
theorem key_hlf (x : Nat) (hx : x ≤ 18446744073709551615) :
    bits .or .u64 ((x : Int) / 4294967296) (IntKind.u64.wrap ((x : Int) * 4294967296)) = ((Rev.hlf x : Nat) : Int) := by
  have h1 : (x : Int) / 4294967296 = ((x / 2 ^ 32 : Nat) : Int) := by simp
  have h2 : x / 2 ^ 32 ≤ 18446744073709551615 := Nat.le_trans (Nat.div_le_self _ _) hx
  have h4 := shlI64 x 32
  rw [show (2 : Int) ^ 32 = 4294967296 from rfl] at h4
  rw [h1, h4, or64 h2 (shl64_le _ _)]
  rfl
theorem swp_le (k m x : Nat) (hm : m ≤ 18446744073709551615) : Rev.swp k m x ≤ 18446744073709551615 := by
  have := Rev.swp_lt (k := k) (x := x) (show m < 2 ^ 64 by omega)
  omega
theorem key_1 (x : Nat) (hx : x ≤ 18446744073709551615) : bits .or .u64 (bits .and .u64 ((x : Int) / 2) 6148914691236517205) (IntKind.u64.wrap (bits .and .u64 (x : Int) 6148914691236517205 * 2)) = ((Rev.swp 1 Rev.m0 x : Nat) : Int) := key_swp 1 Rev.m0 x hx (by decide)
theorem key_2 (x : Nat) (hx : x ≤ 18446744073709551615) : bits .or .u64 (bits .and .u64 ((x : Int) / 4) 3689348814741910323) (IntKind.u64.wrap (bits .and .u64 (x : Int) 3689348814741910323 * 4)) = ((Rev.swp 2 Rev.m1 x : Nat) : Int) := key_swp 2 Rev.m1 x hx (by decide)
theorem key_4 (x : Nat) (hx : x ≤ 18446744073709551615) : bits .or .u64 (bits .and .u64 ((x : Int) / 16) 1085102592571150095) (IntKind.u64.wrap (bits .and .u64 (x : Int) 1085102592571150095 * 16)) = ((Rev.swp 4 Rev.m2 x : Nat) : Int) := key_swp 4 Rev.m2 x hx (by decide)
theorem key_8 (x : Nat) (hx : x ≤ 18446744073709551615) : bits .or .u64 (bits .and .u64 ((x : Int) / 256) 71777214294589695) (IntKind.u64.wrap (bits .and .u64 (x : Int) 71777214294589695 * 256)) = ((Rev.swp 8 Rev.m3 x : Nat) : Int) := key_swp 8 Rev.m3 x hx (by decide)
theorem key_16 (x : Nat) (hx : x ≤ 18446744073709551615) : bits .or .u64 (bits .and .u64 ((x : Int) / 65536) 281470681808895) (IntKind.u64.wrap (bits .and .u64 (x : Int) 281470681808895 * 65536)) = ((Rev.swp 16 Rev.m4 x : Nat) : Int) := key_swp 16 Rev.m4 x hx (by decide)
set_option maxHeartbeats 1000000 in
theorem bytes64_any (x : Nat) (hx : x ≤ 18446744073709551615) (w : World) :
    Calls Tryd.prog 45 #[.int .u64 x] w fun e w' => e = .returned (.int .u64 (Rev.hlf (Rev.swp 16 Rev.m4 (Rev.swp 8 Rev.m3 x)) : Nat)) ∧ w = w' := by
  have k8 := key_8 x hx
  have l8 := swp_le 8 Rev.m3 x (by decide)
  generalize Rev.swp 8 Rev.m3 x = y8 at *
  have k16 := key_16 y8 l8
  have l16 := swp_le 16 Rev.m4 y8 (by decide)
  generalize Rev.swp 16 Rev.m4 y8 = y16 at *
  have kh := key_hlf y16 l16
  generalize Rev.hlf y16 = r at *
  go_enter Tryd.func45, Tryd.ntmps45
  go_wp2_with fail
  go_ret
  exact ⟨rfl, rfl⟩
set_option maxHeartbeats 1000000 in
theorem rev64_any (x : Nat) (hx : x ≤ 18446744073709551615) (w : World) :
    Calls Tryd.prog 30 #[.int .u64 x] w fun e w' => e = .returned (.int .u64 (Rev.r64 x : Nat)) ∧ w = w' := by
  unfold Rev.r64
  have k1 := key_1 x hx
  have l1 := swp_le 1 Rev.m0 x (by decide)
  generalize Rev.swp 1 Rev.m0 x = y1 at *
  have k2 := key_2 y1 l1
  have l2 := swp_le 2 Rev.m1 y1 (by decide)
  generalize Rev.swp 2 Rev.m1 y1 = y2 at *
  have k4 := key_4 y2 l2
  have l4 := swp_le 4 Rev.m2 y2 (by decide)
  generalize Rev.swp 4 Rev.m2 y2 = y4 at *
  have HB := hide (bytes64_any y4 l4)
  generalize Rev.hlf (Rev.swp 16 Rev.m4 (Rev.swp 8 Rev.m3 y4)) = r at *
  go_enter Tryd.func30, Tryd.ntmps30
  go_wp2_with fail
  refine (HB.out _).mono ?_
  rintro e w' ⟨rfl, rfl⟩
  go_wp2_with fail
  go_ret
  exact ⟨rfl, rfl⟩
set_option maxHeartbeats 1000000 in
theorem prev_ok (a n : Nat) (hn : n ≤ 63) (ha : Gf2.len a ≤ n + 1) (h64 : a ≤ 18446744073709551615) (w : World) :
    Calls Tryd.prog 16 #[.int .u64 a, .int .i64 n] w fun e w' => e = .returned (.tuple #[.int .u64 (Rev.revP n a : Nat), .int .i64 0]) ∧ w = w' := by
  have HD := hide (degree_any a h64)
  have HR := hide (rev64_any a h64)
  have d1 : decide ((n : Int) < 0) = false := decide_eq_false (by omega)
  have d2 : decide ((63 : Int) < n) = false := decide_eq_false (by omega)
  have d3 : decide ((n : Int) < (Gf2.len a : Int) - 1) = false := decide_eq_false (by omega)
  have hs : ((63 : Int) - n) = ((63 - n : Nat) : Int) := by omega
  have hsh : ((Rev.r64 a : Nat) : Int) / 2 ^ (63 - n) = ((Rev.revP n a : Nat) : Int) := by rw [← Rev.r64_shr hn]; simp
  generalize Rev.r64 a = r at *
  generalize Rev.revP n a = rp at *
  generalize Gf2.len a = la at *
  go_enter Tryd.func16, Tryd.ntmps16
  go_wp2_with fail
  refine (HD.out _).mono ?_
  rintro e w' ⟨rfl, rfl⟩
  go_wp2_with fail
  refine (HR.out _).mono ?_
  rintro e w' ⟨rfl, rfl⟩
  go_wp2_with (first | rw [hs] | rw [hsh] | go_in)
  go_ret2
  exact ⟨rfl, rfl⟩
end Go.Proofs.YtfjaohadjmigoaaDoor
