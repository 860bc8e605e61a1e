/- trellis.step, walked. -/
import Derived.Test.YtpmnbdkncmjafaaRows
import Derived.Test.YtpmnbdkncmjafaaRCheck
import Derived.Test.YtpmnbdkncmjafaaOnes
import Derived.Deep.RegionWith
namespace Go.Proofs.Ytpmnbdkncmjafaa
open Go.RowKit

/-- a step's symbol -/
def outF (w g : Nat) : Nat := Gf2.par (w &&& g)
theorem outF_le (w g : Nat) : outF w g ≤ 1 := Gf2.par_le _
theorem or_bit {s x : Nat} (hs : s ≤ 2147483647) (hx : x ≤ 1) : bits .or .u32 ((s : Int) * 2) (x : Int) = ((2 * s + x : Nat) : Int) := by
  have h := or32 (a := 2 * s) (b := x) (by omega) (by omega)
  have e : 2 * s ||| x = 2 * s + x := by
    have := Nat.two_pow_add_eq_or_of_lt (i := 1) (b := x) (by omega) s
    simpa using this.symm
  rw [e] at h
  rw [← h]
  congr 1
  push_cast
  omega
theorem one_bit (n : Nat) : bits .and .i64 (n : Int) 1 % 256 = ((n % 2 : Nat) : Int) := by
  have h1 : (BitVec.ofInt 64 1).toNat = 2 ^ 1 - 1 := by decide
  have key : (BitVec.ofInt 64 (n : Int) &&& BitVec.ofInt 64 1).toNat = ((n : Int) % ((2 ^ 64 : Nat) : Int)).toNat % 2 ^ 1 := by
    rw [BitVec.toNat_and, BitVec.toNat_ofInt, h1, Nat.and_two_pow_sub_one_eq_mod]
  show IntKind.i64.wrap ((BitVec.ofInt 64 (n : Int) &&& BitVec.ofInt 64 1).toNat : Nat) % 256 = ((n % 2 : Nat) : Int)
  rw [key, IntKind.wrap_i64]
  omega
theorem mask_n (m n : Nat) (hm : m ≤ 4294967295) (hn : 2 ≤ n ∧ n ≤ 31) : bits .and .u32 (m : Int) (IntKind.u32.wrap (IntKind.u32.wrap (2 ^ n) - 1)) = ((m % 2 ^ n : Nat) : Int) := by
  have h2 : 2 ^ n ≤ 2 ^ 31 := Nat.pow_le_pow_right (by omega) (by omega)
  have h3 : 1 ≤ 2 ^ n := Nat.one_le_two_pow
  have e : (2 : Int) ^ n = ((2 ^ n : Nat) : Int) := by simp
  rw [e, IntWalk.u32_in ((2 ^ n : Nat) : Int) (by omega), IntWalk.u32_in (((2 ^ n : Nat) : Int) - 1) (by omega)]
  have e2 : ((2 ^ n : Nat) : Int) - 1 = ((2 ^ n - 1 : Nat) : Int) := by omega
  rw [e2, and32 hm (by omega), Nat.and_two_pow_sub_one_eq_mod]
theorem set_drewN (w : World) (j : Nat) (p : Addr) (v : Value) : (w.drewN j).setCell p v = (w.setCell p v).drewN j := rfl

set_option linter.unusedVariables false in
set_option maxHeartbeats 1000000 in
theorem step_two (n a b c s x : Nat) (hn : 2 ≤ n ∧ n ≤ 31) (hA : a ≤ 4294967295) (hB : b ≤ 4294967295) (hC : c ≤ 4294967295) (hs : s ≤ 2147483647) (hx : x ≤ 1) (w : World) :
    Calls Try.prog 35 #[.agg #[.int .i64 (n + 1), .int .i64 2, .int .u32 a, .int .u32 b, .int .u32 c], .int .u32 s, .int .u8 x] w fun e w' => e = .returned (.tuple #[.int .u32 ((2 * s + x) % 2 ^ n : Nat), .agg #[.int .u8 (outF (2 * s + x) a), .int .u8 (outF (2 * s + x) b), .int .u8 0]]) ∧ Below w.heap.size w w' := by
  have eor := or_bit hs hx
  have hm : 2 * s + x ≤ 4294967295 := by omega
  generalize 2 * s + x = m at *
  have ea := and32 hm hA
  have la : m &&& a ≤ 4294967295 := Nat.le_trans Nat.and_le_left hm
  have HOa := hide (ones_any (m &&& a) la)
  have HBa := hide (show bits .and .i64 (Gf2.popF 32 (m &&& a) : Nat) 1 % 256 = (outF m a : Nat) from one_bit _)
  have eb := and32 hm hB
  have lb : m &&& b ≤ 4294967295 := Nat.le_trans Nat.and_le_left hm
  have HOb := hide (ones_any (m &&& b) lb)
  have HBb := hide (show bits .and .i64 (Gf2.popF 32 (m &&& b) : Nat) 1 % 256 = (outF m b : Nat) from one_bit _)
  have HM := hide (mask_n m n hm hn)
  have wn : IntKind.i64.wrap (n : Int) = n := IntWalk.i64_in _ (by omega)
  go_enter Try.func35, Try.ntmps35
  go_wp2_with fail
  go_loopw [18] (fun i u => ∃ j : Nat,
    (i = .int .i64 0 ∧ u = ((((w.alloc (.cells #[.int .i64 (n + 1), .int .i64 2, .int .u32 a, .int .u32 b, .int .u32 c] 25)).alloc (.cells #[.int .u8 0, .int .u8 0, .int .u8 0] 26)).alloc (.cells #[.int .u8 0, .int .u8 0, .int .u8 0] 26)).drewN j)) ∨
    (i = .int .i64 1 ∧ u = ((((w.alloc (.cells #[.int .i64 (n + 1), .int .i64 2, .int .u32 a, .int .u32 b, .int .u32 c] 25)).alloc (.cells #[.int .u8 0, .int .u8 0, .int .u8 0] 26)).alloc (.cells #[.int .u8 (outF m a), .int .u8 0, .int .u8 0] 26)).drewN j)) ∨
    (i = .int .i64 2 ∧ u = ((((w.alloc (.cells #[.int .i64 (n + 1), .int .i64 2, .int .u32 a, .int .u32 b, .int .u32 c] 25)).alloc (.cells #[.int .u8 0, .int .u8 0, .int .u8 0] 26)).alloc (.cells #[.int .u8 (outF m a), .int .u8 (outF m b), .int .u8 0] 26)).drewN j))) (fun i _ => 2 - (intOf i).toNat)
  case atStart => exact ⟨0, .inl ⟨rfl, rfl⟩⟩
  case round =>
    obtain ⟨j, hrel⟩ := hrel
    rcases hrel with ⟨rfl, rfl⟩ | ⟨rfl, rfl⟩ | ⟨rfl, rfl⟩
    · go_wp2_with fail
      refine (HOa.out _).mono ?_
      rintro e w' ⟨rfl, k, rfl⟩
      go_wp2_with fail
      go_roundw
      case rel =>
        refine ⟨j + k, .inr (.inl ⟨rfl, ?_⟩)⟩
        rw [HBa.out, set_drewN]
        simp [go_sem]
      case measure => simp [intOf]
    · go_wp2_with fail
      refine (HOb.out _).mono ?_
      rintro e w' ⟨rfl, k, rfl⟩
      go_wp2_with fail
      go_roundw
      case rel =>
        refine ⟨j + k, .inr (.inr (⟨rfl, ?_⟩))⟩
        rw [HBb.out, set_drewN]
        simp [go_sem]
      case measure => simp [intOf]
    · go_wp2_with fail
      go_region_with (fail)
      all_goals
        rw [HM.out]
        go_wp2_with fail
        refine bodyPost_ret (v := .tuple #[.int .u32 (m % 2 ^ n : Nat), .agg #[.int .u8 (outF m a), .int .u8 (outF m b), .int .u8 0]]) (by simp [results, Try.results35, go_sem]) rfl ⟨rfl, ?_⟩
        exact ((((below_drewN (((Below.refl w.heap.size w).alloc (Nat.le_refl _) _ |>.alloc (by simp) _).alloc (by simp; omega) _) _).setCell (by simp) _).setCell (by simp) _).setCell (by simp) _)

set_option linter.unusedVariables false in
set_option maxHeartbeats 1000000 in
theorem step_three (n a b c s x : Nat) (hn : 2 ≤ n ∧ n ≤ 31) (hA : a ≤ 4294967295) (hB : b ≤ 4294967295) (hC : c ≤ 4294967295) (hs : s ≤ 2147483647) (hx : x ≤ 1) (w : World) :
    Calls Try.prog 35 #[.agg #[.int .i64 (n + 1), .int .i64 3, .int .u32 a, .int .u32 b, .int .u32 c], .int .u32 s, .int .u8 x] w fun e w' => e = .returned (.tuple #[.int .u32 ((2 * s + x) % 2 ^ n : Nat), .agg #[.int .u8 (outF (2 * s + x) a), .int .u8 (outF (2 * s + x) b), .int .u8 (outF (2 * s + x) c)]]) ∧ Below w.heap.size w w' := by
  have eor := or_bit hs hx
  have hm : 2 * s + x ≤ 4294967295 := by omega
  generalize 2 * s + x = m at *
  have ea := and32 hm hA
  have la : m &&& a ≤ 4294967295 := Nat.le_trans Nat.and_le_left hm
  have HOa := hide (ones_any (m &&& a) la)
  have HBa := hide (show bits .and .i64 (Gf2.popF 32 (m &&& a) : Nat) 1 % 256 = (outF m a : Nat) from one_bit _)
  have eb := and32 hm hB
  have lb : m &&& b ≤ 4294967295 := Nat.le_trans Nat.and_le_left hm
  have HOb := hide (ones_any (m &&& b) lb)
  have HBb := hide (show bits .and .i64 (Gf2.popF 32 (m &&& b) : Nat) 1 % 256 = (outF m b : Nat) from one_bit _)
  have ec := and32 hm hC
  have lc : m &&& c ≤ 4294967295 := Nat.le_trans Nat.and_le_left hm
  have HOc := hide (ones_any (m &&& c) lc)
  have HBc := hide (show bits .and .i64 (Gf2.popF 32 (m &&& c) : Nat) 1 % 256 = (outF m c : Nat) from one_bit _)
  have HM := hide (mask_n m n hm hn)
  have wn : IntKind.i64.wrap (n : Int) = n := IntWalk.i64_in _ (by omega)
  go_enter Try.func35, Try.ntmps35
  go_wp2_with fail
  go_loopw [18] (fun i u => ∃ j : Nat,
    (i = .int .i64 0 ∧ u = ((((w.alloc (.cells #[.int .i64 (n + 1), .int .i64 3, .int .u32 a, .int .u32 b, .int .u32 c] 25)).alloc (.cells #[.int .u8 0, .int .u8 0, .int .u8 0] 26)).alloc (.cells #[.int .u8 0, .int .u8 0, .int .u8 0] 26)).drewN j)) ∨
    (i = .int .i64 1 ∧ u = ((((w.alloc (.cells #[.int .i64 (n + 1), .int .i64 3, .int .u32 a, .int .u32 b, .int .u32 c] 25)).alloc (.cells #[.int .u8 0, .int .u8 0, .int .u8 0] 26)).alloc (.cells #[.int .u8 (outF m a), .int .u8 0, .int .u8 0] 26)).drewN j)) ∨
    (i = .int .i64 2 ∧ u = ((((w.alloc (.cells #[.int .i64 (n + 1), .int .i64 3, .int .u32 a, .int .u32 b, .int .u32 c] 25)).alloc (.cells #[.int .u8 0, .int .u8 0, .int .u8 0] 26)).alloc (.cells #[.int .u8 (outF m a), .int .u8 (outF m b), .int .u8 0] 26)).drewN j)) ∨
    (i = .int .i64 3 ∧ u = ((((w.alloc (.cells #[.int .i64 (n + 1), .int .i64 3, .int .u32 a, .int .u32 b, .int .u32 c] 25)).alloc (.cells #[.int .u8 0, .int .u8 0, .int .u8 0] 26)).alloc (.cells #[.int .u8 (outF m a), .int .u8 (outF m b), .int .u8 (outF m c)] 26)).drewN j))) (fun i _ => 3 - (intOf i).toNat)
  case atStart => exact ⟨0, .inl ⟨rfl, rfl⟩⟩
  case round =>
    obtain ⟨j, hrel⟩ := hrel
    rcases hrel with ⟨rfl, rfl⟩ | ⟨rfl, rfl⟩ | ⟨rfl, rfl⟩ | ⟨rfl, rfl⟩
    · go_wp2_with fail
      refine (HOa.out _).mono ?_
      rintro e w' ⟨rfl, k, rfl⟩
      go_wp2_with fail
      go_roundw
      case rel =>
        refine ⟨j + k, .inr (.inl ⟨rfl, ?_⟩)⟩
        rw [HBa.out, set_drewN]
        simp [go_sem]
      case measure => simp [intOf]
    · go_wp2_with fail
      refine (HOb.out _).mono ?_
      rintro e w' ⟨rfl, k, rfl⟩
      go_wp2_with fail
      go_roundw
      case rel =>
        refine ⟨j + k, .inr (.inr (.inl ⟨rfl, ?_⟩))⟩
        rw [HBb.out, set_drewN]
        simp [go_sem]
      case measure => simp [intOf]
    · go_wp2_with fail
      refine (HOc.out _).mono ?_
      rintro e w' ⟨rfl, k, rfl⟩
      go_wp2_with fail
      go_roundw
      case rel =>
        refine ⟨j + k, .inr (.inr (.inr (⟨rfl, ?_⟩)))⟩
        rw [HBc.out, set_drewN]
        simp [go_sem]
      case measure => simp [intOf]
    · go_wp2_with fail
      go_region_with (fail)
      all_goals
        rw [HM.out]
        go_wp2_with fail
        refine bodyPost_ret (v := .tuple #[.int .u32 (m % 2 ^ n : Nat), .agg #[.int .u8 (outF m a), .int .u8 (outF m b), .int .u8 (outF m c)]]) (by simp [results, Try.results35, go_sem]) rfl ⟨rfl, ?_⟩
        exact ((((below_drewN (((Below.refl w.heap.size w).alloc (Nat.le_refl _) _ |>.alloc (by simp) _).alloc (by simp; omega) _) _).setCell (by simp) _).setCell (by simp) _).setCell (by simp) _)

/-- the third symbol -/
def third (R : Int) (x : Nat) : Nat := if R = 2 then 0 else x
theorem step_any (n a b c s x : Nat) (R : Int) (hR : R = 2 ∨ R = 3) (hn : 2 ≤ n ∧ n ≤ 31) (hA : a ≤ 4294967295) (hB : b ≤ 4294967295) (hC : c ≤ 4294967295) (hs : s ≤ 2147483647) (hx : x ≤ 1) (w : World) :
    Calls Try.prog 35 #[.agg #[.int .i64 (n + 1), .int .i64 R, .int .u32 a, .int .u32 b, .int .u32 c], .int .u32 s, .int .u8 x] w fun e w' => e = .returned (.tuple #[.int .u32 ((2 * s + x) % 2 ^ n : Nat), .agg #[.int .u8 (outF (2 * s + x) a), .int .u8 (outF (2 * s + x) b), .int .u8 (third R (outF (2 * s + x) c))]]) ∧ Below w.heap.size w w' := by
  rcases hR with rfl | rfl
  · exact step_two n a b c s x hn hA hB hC hs hx w
  · exact step_three n a b c s x hn hA hB hC hs hx w
end Go.Proofs.Ytpmnbdkncmjafaa
