/- trellis.step, walked. -/
import Derived.Test.YtpmnbdkncmjafaaRows
import Derived.Test.YtpmnbdkncmjafaaRCheck
import Derived.Test.YtpmnbdkncmjafaaOnes
import Derived.Test.YtpmnbdkncmjafaaSym
import Derived.Deep.RegionWith
namespace Go.Proofs.Ytpmnbdkncmjafaa
open Go.RowKit


set_option linter.unusedVariables false in
set_option maxHeartbeats 1000000 in
theorem step_two (n a b c s x : Nat) (hn : 2 ≤ n ∧ n ≤ 31) (hA : a ≤ 4294967295) (hB : b ≤ 4294967295) (hC : c ≤ 4294967295) (hs : s ≤ 2147483647) (hx : x ≤ 1) (w : World) :
    Calls Try.prog 35 #[.agg #[.int .i64 (n + 1), .int .i64 2, .int .u32 a, .int .u32 b, .int .u32 c], .int .u32 s, .int .u8 x] w fun e w' => e = .returned (.tuple #[.int .u32 ((2 * s + x) % 2 ^ n : Nat), .agg #[.int .u8 (outF (2 * s + x) a), .int .u8 (outF (2 * s + x) b), .int .u8 0]]) ∧ Below w.heap.size w w' := by
  have eor := or_bit hs hx
  have hm : 2 * s + x ≤ 4294967295 := by omega
  generalize 2 * s + x = m at *
  have ea := and32 hm hA
  have la : m &&& a ≤ 4294967295 := Nat.le_trans Nat.and_le_left hm
  have HOa := hide (ones_any (m &&& a) la)
  have HBa := hide (show bits .and .i64 (Gf2.popF 32 (m &&& a) : Nat) 1 % 256 = (outF m a : Nat) from one_bit _)
  have eb := and32 hm hB
  have lb : m &&& b ≤ 4294967295 := Nat.le_trans Nat.and_le_left hm
  have HOb := hide (ones_any (m &&& b) lb)
  have HBb := hide (show bits .and .i64 (Gf2.popF 32 (m &&& b) : Nat) 1 % 256 = (outF m b : Nat) from one_bit _)
  have HM := hide (mask_n m n hm hn)
  have wn : IntKind.i64.wrap (n : Int) = n := IntWalk.i64_in _ (by omega)
  go_enter Try.func35, Try.ntmps35
  go_wp2_with fail
  go_loopw [18] (fun i u => ∃ j : Nat,
    (i = .int .i64 0 ∧ u = ((((w.alloc (.cells #[.int .i64 (n + 1), .int .i64 2, .int .u32 a, .int .u32 b, .int .u32 c] 25)).alloc (.cells #[.int .u8 0, .int .u8 0, .int .u8 0] 26)).alloc (.cells #[.int .u8 0, .int .u8 0, .int .u8 0] 26)).drewN j)) ∨
    (i = .int .i64 1 ∧ u = ((((w.alloc (.cells #[.int .i64 (n + 1), .int .i64 2, .int .u32 a, .int .u32 b, .int .u32 c] 25)).alloc (.cells #[.int .u8 0, .int .u8 0, .int .u8 0] 26)).alloc (.cells #[.int .u8 (outF m a), .int .u8 0, .int .u8 0] 26)).drewN j)) ∨
    (i = .int .i64 2 ∧ u = ((((w.alloc (.cells #[.int .i64 (n + 1), .int .i64 2, .int .u32 a, .int .u32 b, .int .u32 c] 25)).alloc (.cells #[.int .u8 0, .int .u8 0, .int .u8 0] 26)).alloc (.cells #[.int .u8 (outF m a), .int .u8 (outF m b), .int .u8 0] 26)).drewN j))) (fun i _ => 2 - (intOf i).toNat)
  case atStart => exact ⟨0, .inl ⟨rfl, rfl⟩⟩
  case round =>
    obtain ⟨j, hrel⟩ := hrel
    rcases hrel with ⟨rfl, rfl⟩ | ⟨rfl, rfl⟩ | ⟨rfl, rfl⟩
    · go_wp2_with fail
      refine (HOa.out _).mono ?_
      rintro e w' ⟨rfl, k, rfl⟩
      go_wp2_with fail
      go_roundw
      case rel =>
        refine ⟨j + k, .inr (.inl ⟨rfl, ?_⟩)⟩
        rw [HBa.out, set_drewN]
        simp [go_sem]
      case measure => simp [intOf]
    · go_wp2_with fail
      refine (HOb.out _).mono ?_
      rintro e w' ⟨rfl, k, rfl⟩
      go_wp2_with fail
      go_roundw
      case rel =>
        refine ⟨j + k, .inr (.inr (⟨rfl, ?_⟩))⟩
        rw [HBb.out, set_drewN]
        simp [go_sem]
      case measure => simp [intOf]
    · go_wp2_with fail
      go_region_with (fail)
      all_goals
        rw [HM.out]
        go_wp2_with fail
        refine bodyPost_ret (v := .tuple #[.int .u32 (m % 2 ^ n : Nat), .agg #[.int .u8 (outF m a), .int .u8 (outF m b), .int .u8 0]]) (by simp [results, Try.results35, go_sem]) rfl ⟨rfl, ?_⟩
        exact ((((below_drewN (((Below.refl w.heap.size w).alloc (Nat.le_refl _) _ |>.alloc (by simp) _).alloc (by simp; omega) _) _).setCell (by simp) _).setCell (by simp) _).setCell (by simp) _)

set_option linter.unusedVariables false in
set_option maxHeartbeats 1000000 in
theorem step_three (n a b c s x : Nat) (hn : 2 ≤ n ∧ n ≤ 31) (hA : a ≤ 4294967295) (hB : b ≤ 4294967295) (hC : c ≤ 4294967295) (hs : s ≤ 2147483647) (hx : x ≤ 1) (w : World) :
    Calls Try.prog 35 #[.agg #[.int .i64 (n + 1), .int .i64 3, .int .u32 a, .int .u32 b, .int .u32 c], .int .u32 s, .int .u8 x] w fun e w' => e = .returned (.tuple #[.int .u32 ((2 * s + x) % 2 ^ n : Nat), .agg #[.int .u8 (outF (2 * s + x) a), .int .u8 (outF (2 * s + x) b), .int .u8 (outF (2 * s + x) c)]]) ∧ Below w.heap.size w w' := by
  have eor := or_bit hs hx
  have hm : 2 * s + x ≤ 4294967295 := by omega
  generalize 2 * s + x = m at *
  have ea := and32 hm hA
  have la : m &&& a ≤ 4294967295 := Nat.le_trans Nat.and_le_left hm
  have HOa := hide (ones_any (m &&& a) la)
  have HBa := hide (show bits .and .i64 (Gf2.popF 32 (m &&& a) : Nat) 1 % 256 = (outF m a : Nat) from one_bit _)
  have eb := and32 hm hB
  have lb : m &&& b ≤ 4294967295 := Nat.le_trans Nat.and_le_left hm
  have HOb := hide (ones_any (m &&& b) lb)
  have HBb := hide (show bits .and .i64 (Gf2.popF 32 (m &&& b) : Nat) 1 % 256 = (outF m b : Nat) from one_bit _)
  have ec := and32 hm hC
  have lc : m &&& c ≤ 4294967295 := Nat.le_trans Nat.and_le_left hm
  have HOc := hide (ones_any (m &&& c) lc)
  have HBc := hide (show bits .and .i64 (Gf2.popF 32 (m &&& c) : Nat) 1 % 256 = (outF m c : Nat) from one_bit _)
  have HM := hide (mask_n m n hm hn)
  have wn : IntKind.i64.wrap (n : Int) = n := IntWalk.i64_in _ (by omega)
  go_enter Try.func35, Try.ntmps35
  go_wp2_with fail
  go_loopw [18] (fun i u => ∃ j : Nat,
    (i = .int .i64 0 ∧ u = ((((w.alloc (.cells #[.int .i64 (n + 1), .int .i64 3, .int .u32 a, .int .u32 b, .int .u32 c] 25)).alloc (.cells #[.int .u8 0, .int .u8 0, .int .u8 0] 26)).alloc (.cells #[.int .u8 0, .int .u8 0, .int .u8 0] 26)).drewN j)) ∨
    (i = .int .i64 1 ∧ u = ((((w.alloc (.cells #[.int .i64 (n + 1), .int .i64 3, .int .u32 a, .int .u32 b, .int .u32 c] 25)).alloc (.cells #[.int .u8 0, .int .u8 0, .int .u8 0] 26)).alloc (.cells #[.int .u8 (outF m a), .int .u8 0, .int .u8 0] 26)).drewN j)) ∨
    (i = .int .i64 2 ∧ u = ((((w.alloc (.cells #[.int .i64 (n + 1), .int .i64 3, .int .u32 a, .int .u32 b, .int .u32 c] 25)).alloc (.cells #[.int .u8 0, .int .u8 0, .int .u8 0] 26)).alloc (.cells #[.int .u8 (outF m a), .int .u8 (outF m b), .int .u8 0] 26)).drewN j)) ∨
    (i = .int .i64 3 ∧ u = ((((w.alloc (.cells #[.int .i64 (n + 1), .int .i64 3, .int .u32 a, .int .u32 b, .int .u32 c] 25)).alloc (.cells #[.int .u8 0, .int .u8 0, .int .u8 0] 26)).alloc (.cells #[.int .u8 (outF m a), .int .u8 (outF m b), .int .u8 (outF m c)] 26)).drewN j))) (fun i _ => 3 - (intOf i).toNat)
  case atStart => exact ⟨0, .inl ⟨rfl, rfl⟩⟩
  case round =>
    obtain ⟨j, hrel⟩ := hrel
    rcases hrel with ⟨rfl, rfl⟩ | ⟨rfl, rfl⟩ | ⟨rfl, rfl⟩ | ⟨rfl, rfl⟩
    · go_wp2_with fail
      refine (HOa.out _).mono ?_
      rintro e w' ⟨rfl, k, rfl⟩
      go_wp2_with fail
      go_roundw
      case rel =>
        refine ⟨j + k, .inr (.inl ⟨rfl, ?_⟩)⟩
        rw [HBa.out, set_drewN]
        simp [go_sem]
      case measure => simp [intOf]
    · go_wp2_with fail
      refine (HOb.out _).mono ?_
      rintro e w' ⟨rfl, k, rfl⟩
      go_wp2_with fail
      go_roundw
      case rel =>
        refine ⟨j + k, .inr (.inr (.inl ⟨rfl, ?_⟩))⟩
        rw [HBb.out, set_drewN]
        simp [go_sem]
      case measure => simp [intOf]
    · go_wp2_with fail
      refine (HOc.out _).mono ?_
      rintro e w' ⟨rfl, k, rfl⟩
      go_wp2_with fail
      go_roundw
      case rel =>
        refine ⟨j + k, .inr (.inr (.inr (⟨rfl, ?_⟩)))⟩
        rw [HBc.out, set_drewN]
        simp [go_sem]
      case measure => simp [intOf]
    · go_wp2_with fail
      go_region_with (fail)
      all_goals
        rw [HM.out]
        go_wp2_with fail
        refine bodyPost_ret (v := .tuple #[.int .u32 (m % 2 ^ n : Nat), .agg #[.int .u8 (outF m a), .int .u8 (outF m b), .int .u8 (outF m c)]]) (by simp [results, Try.results35, go_sem]) rfl ⟨rfl, ?_⟩
        exact ((((below_drewN (((Below.refl w.heap.size w).alloc (Nat.le_refl _) _ |>.alloc (by simp) _).alloc (by simp; omega) _) _).setCell (by simp) _).setCell (by simp) _).setCell (by simp) _)

theorem step_any (n a b c s x : Nat) (R : Int) (hR : R = 2 ∨ R = 3) (hn : 2 ≤ n ∧ n ≤ 31) (hA : a ≤ 4294967295) (hB : b ≤ 4294967295) (hC : c ≤ 4294967295) (hs : s ≤ 2147483647) (hx : x ≤ 1) (w : World) :
    Calls Try.prog 35 #[.agg #[.int .i64 (n + 1), .int .i64 R, .int .u32 a, .int .u32 b, .int .u32 c], .int .u32 s, .int .u8 x] w fun e w' => e = .returned (.tuple #[.int .u32 ((2 * s + x) % 2 ^ n : Nat), .agg #[.int .u8 (outF (2 * s + x) a), .int .u8 (outF (2 * s + x) b), .int .u8 (third R (outF (2 * s + x) c))]]) ∧ Below w.heap.size w w' := by
  rcases hR with rfl | rfl
  · exact step_two n a b c s x hn hA hB hC hs hx w
  · exact step_three n a b c s x hn hA hB hC hs hx w
end Go.Proofs.Ytpmnbdkncmjafaa
