/- outpostref07.Out, Next, Prior, walked. -/
import Derived.Test.YtpmnbdkncmjafaaRows
import Derived.Test.YtpmnbdkncmjafaaParity
namespace Go.Proofs.Ytpmnbdkncmjafaa
open Go.RowKit

set_option linter.unusedVariables false in
set_option maxHeartbeats 1000000 in
theorem out_two (n : Int) (a b c m : Nat) (hm : m ≤ 4294967295) (hA : a ≤ 4294967295) (hB : b ≤ 4294967295) (hC : c ≤ 4294967295) (w : World) :
    Calls Try.prog 53 #[.agg #[.int .i64 (n + 1), .int .i64 2, .int .u32 a, .int .u32 b, .int .u32 c], .int .u32 m] w fun e w' => e = .returned (.agg #[.int .u8 (outF m a), .int .u8 (outF m b), .int .u8 0]) ∧ Below w.heap.size w w' := by
  have ea := and32 hm hA
  have HOa := hide (parity_any (m &&& a) (Nat.le_trans Nat.and_le_left hm))
  have eb := and32 hm hB
  have HOb := hide (parity_any (m &&& b) (Nat.le_trans Nat.and_le_left hm))
  go_enter Try.func53, Try.ntmps53
  go_wp2_with fail
  go_loopw [6] (fun i u => ∃ j : Nat,
    (i = .int .i64 0 ∧ u = ((((w.alloc (.cells #[.int .i64 (n + 1), .int .i64 2, .int .u32 a, .int .u32 b, .int .u32 c] 25)).alloc (.cells #[.int .u8 0, .int .u8 0, .int .u8 0] 26)).alloc (.cells #[.int .u8 0, .int .u8 0, .int .u8 0] 26)).drewN j)) ∨
    (i = .int .i64 1 ∧ u = ((((w.alloc (.cells #[.int .i64 (n + 1), .int .i64 2, .int .u32 a, .int .u32 b, .int .u32 c] 25)).alloc (.cells #[.int .u8 0, .int .u8 0, .int .u8 0] 26)).alloc (.cells #[.int .u8 (outF m a), .int .u8 0, .int .u8 0] 26)).drewN j)) ∨
    (i = .int .i64 2 ∧ u = ((((w.alloc (.cells #[.int .i64 (n + 1), .int .i64 2, .int .u32 a, .int .u32 b, .int .u32 c] 25)).alloc (.cells #[.int .u8 0, .int .u8 0, .int .u8 0] 26)).alloc (.cells #[.int .u8 (outF m a), .int .u8 (outF m b), .int .u8 0] 26)).drewN j))) (fun i _ => 2 - (intOf i).toNat)
  case atStart => exact ⟨0, .inl ⟨rfl, rfl⟩⟩
  case round =>
    obtain ⟨j, hrel⟩ := hrel
    rcases hrel with ⟨rfl, rfl⟩ | ⟨rfl, rfl⟩ | ⟨rfl, rfl⟩
    · go_wp2_with fail
      refine (HOa.out _).mono ?_
      rintro e w' ⟨rfl, rfl⟩
      go_wp2_with fail
      go_roundw
      case rel =>
        refine ⟨j, .inr (.inl ⟨rfl, ?_⟩)⟩
        rw [set_drewN]
        simp [go_sem, outF]
      case measure => simp [intOf]
    · go_wp2_with fail
      refine (HOb.out _).mono ?_
      rintro e w' ⟨rfl, rfl⟩
      go_wp2_with fail
      go_roundw
      case rel =>
        refine ⟨j, .inr (.inr (⟨rfl, ?_⟩))⟩
        rw [set_drewN]
        simp [go_sem, outF]
      case measure => simp [intOf]
    · go_wp2_with fail
      refine bodyPost_ret (v := .agg #[.int .u8 (outF m a), .int .u8 (outF m b), .int .u8 0]) (by simp [results, Try.results53, go_sem]) rfl ⟨rfl, ?_⟩
      exact ((((below_drewN (((Below.refl w.heap.size w).alloc (Nat.le_refl _) _ |>.alloc (by simp) _).alloc (by simp; omega) _) _).setCell (by simp) _).setCell (by simp) _).setCell (by simp) _)

set_option linter.unusedVariables false in
set_option maxHeartbeats 1000000 in
theorem out_three (n : Int) (a b c m : Nat) (hm : m ≤ 4294967295) (hA : a ≤ 4294967295) (hB : b ≤ 4294967295) (hC : c ≤ 4294967295) (w : World) :
    Calls Try.prog 53 #[.agg #[.int .i64 (n + 1), .int .i64 3, .int .u32 a, .int .u32 b, .int .u32 c], .int .u32 m] w fun e w' => e = .returned (.agg #[.int .u8 (outF m a), .int .u8 (outF m b), .int .u8 (outF m c)]) ∧ Below w.heap.size w w' := by
  have ea := and32 hm hA
  have HOa := hide (parity_any (m &&& a) (Nat.le_trans Nat.and_le_left hm))
  have eb := and32 hm hB
  have HOb := hide (parity_any (m &&& b) (Nat.le_trans Nat.and_le_left hm))
  have ec := and32 hm hC
  have HOc := hide (parity_any (m &&& c) (Nat.le_trans Nat.and_le_left hm))
  go_enter Try.func53, Try.ntmps53
  go_wp2_with fail
  go_loopw [6] (fun i u => ∃ j : Nat,
    (i = .int .i64 0 ∧ u = ((((w.alloc (.cells #[.int .i64 (n + 1), .int .i64 3, .int .u32 a, .int .u32 b, .int .u32 c] 25)).alloc (.cells #[.int .u8 0, .int .u8 0, .int .u8 0] 26)).alloc (.cells #[.int .u8 0, .int .u8 0, .int .u8 0] 26)).drewN j)) ∨
    (i = .int .i64 1 ∧ u = ((((w.alloc (.cells #[.int .i64 (n + 1), .int .i64 3, .int .u32 a, .int .u32 b, .int .u32 c] 25)).alloc (.cells #[.int .u8 0, .int .u8 0, .int .u8 0] 26)).alloc (.cells #[.int .u8 (outF m a), .int .u8 0, .int .u8 0] 26)).drewN j)) ∨
    (i = .int .i64 2 ∧ u = ((((w.alloc (.cells #[.int .i64 (n + 1), .int .i64 3, .int .u32 a, .int .u32 b, .int .u32 c] 25)).alloc (.cells #[.int .u8 0, .int .u8 0, .int .u8 0] 26)).alloc (.cells #[.int .u8 (outF m a), .int .u8 (outF m b), .int .u8 0] 26)).drewN j)) ∨
    (i = .int .i64 3 ∧ u = ((((w.alloc (.cells #[.int .i64 (n + 1), .int .i64 3, .int .u32 a, .int .u32 b, .int .u32 c] 25)).alloc (.cells #[.int .u8 0, .int .u8 0, .int .u8 0] 26)).alloc (.cells #[.int .u8 (outF m a), .int .u8 (outF m b), .int .u8 (outF m c)] 26)).drewN j))) (fun i _ => 3 - (intOf i).toNat)
  case atStart => exact ⟨0, .inl ⟨rfl, rfl⟩⟩
  case round =>
    obtain ⟨j, hrel⟩ := hrel
    rcases hrel with ⟨rfl, rfl⟩ | ⟨rfl, rfl⟩ | ⟨rfl, rfl⟩ | ⟨rfl, rfl⟩
    · go_wp2_with fail
      refine (HOa.out _).mono ?_
      rintro e w' ⟨rfl, rfl⟩
      go_wp2_with fail
      go_roundw
      case rel =>
        refine ⟨j, .inr (.inl ⟨rfl, ?_⟩)⟩
        rw [set_drewN]
        simp [go_sem, outF]
      case measure => simp [intOf]
    · go_wp2_with fail
      refine (HOb.out _).mono ?_
      rintro e w' ⟨rfl, rfl⟩
      go_wp2_with fail
      go_roundw
      case rel =>
        refine ⟨j, .inr (.inr (.inl ⟨rfl, ?_⟩))⟩
        rw [set_drewN]
        simp [go_sem, outF]
      case measure => simp [intOf]
    · go_wp2_with fail
      refine (HOc.out _).mono ?_
      rintro e w' ⟨rfl, rfl⟩
      go_wp2_with fail
      go_roundw
      case rel =>
        refine ⟨j, .inr (.inr (.inr (⟨rfl, ?_⟩)))⟩
        rw [set_drewN]
        simp [go_sem, outF]
      case measure => simp [intOf]
    · go_wp2_with fail
      refine bodyPost_ret (v := .agg #[.int .u8 (outF m a), .int .u8 (outF m b), .int .u8 (outF m c)]) (by simp [results, Try.results53, go_sem]) rfl ⟨rfl, ?_⟩
      exact ((((below_drewN (((Below.refl w.heap.size w).alloc (Nat.le_refl _) _ |>.alloc (by simp) _).alloc (by simp; omega) _) _).setCell (by simp) _).setCell (by simp) _).setCell (by simp) _)

theorem bfrozen {W w1 : World} {B : Nat} (hb : Below B W w1) {b o : Nat} (h : b < B) (hf : W.frozen? ⟨b, o, none⟩ = false) : w1.frozen? ⟨b, o, none⟩ = false := (hb.frozen (p := ⟨b, o, none⟩) h).trans hf
theorem below_drewL {w w' : World} {B : Nat} (h : Below B w.drew w') : Below B w w' := ((Below.refl B w).drew).trans h
theorem next_mod (m n : Nat) (hm : m ≤ 4294967295) : IntKind.u32.wrap ((m : Int).tmod (2 ^ n)) = ((m % 2 ^ n : Nat) : Int) := by
  have e : (2 : Int) ^ n = ((2 ^ n : Nat) : Int) := by simp
  have h := Nat.mod_le m (2 ^ n)
  rw [e, ← Int.ofNat_tmod]
  exact IntWalk.u32_in _ (by omega)

theorem out_any (n : Int) (a b c m : Nat) (R : Int) (hR : R = 2 ∨ R = 3) (hm : m ≤ 4294967295) (hA : a ≤ 4294967295) (hB : b ≤ 4294967295) (hC : c ≤ 4294967295) (w : World) :
    Calls Try.prog 53 #[.agg #[.int .i64 (n + 1), .int .i64 R, .int .u32 a, .int .u32 b, .int .u32 c], .int .u32 m] w fun e w' => e = .returned (.agg #[.int .u8 (outF m a), .int .u8 (outF m b), .int .u8 (third R (outF m c))]) ∧ Below w.heap.size w w' := by
  rcases hR with rfl | rfl
  · exact out_two n a b c m hm hA hB hC w
  · exact out_three n a b c m hm hA hB hC w

set_option linter.unusedVariables false in
set_option maxHeartbeats 1000000 in
theorem next_any (n a b c s x : Nat) (R : Int) (hR : R = 2 ∨ R = 3) (hn : 2 ≤ n ∧ n ≤ 31) (hA : a ≤ 4294967295) (hB : b ≤ 4294967295) (hC : c ≤ 4294967295) (hs : s ≤ 2147483647) (hx : x ≤ 1) (w : World) :
    Calls Try.prog 37 #[.agg #[.int .i64 (n + 1), .int .i64 R, .int .u32 a, .int .u32 b, .int .u32 c], .int .u32 s, .int .u8 x] w fun e w' => e = .returned (.tuple #[.int .u32 ((2 * s + x) % 2 ^ n : Nat), .agg #[.int .u8 (outF (2 * s + x) a), .int .u8 (outF (2 * s + x) b), .int .u8 (third R (outF (2 * s + x) c))]]) ∧ Below w.heap.size w w' := by
  have HO := hide fun w => out_any n a b c (2 * s + x) R hR (by omega) hA hB hC w
  have em : ((2 : Int) * s + x) = ((2 * s + x : Nat) : Int) := by omega
  have hm : 2 * s + x ≤ 4294967295 := by omega
  have HE := hide em
  clear em
  generalize 2 * s + x = m at *
  have hp1 : 2 ^ n ≤ 2 ^ 31 := Nat.pow_le_pow_right (by omega) (by omega)
  have hp2 : 1 ≤ 2 ^ n := Nat.one_le_two_pow
  have HV := hide (next_mod m n hm)
  have w2 : IntKind.u64.wrap ((2 : Int) ^ n) = 2 ^ n := by
    have e : (2 : Int) ^ n = ((2 ^ n : Nat) : Int) := by simp
    rw [e]; exact IntWalk.u64_in _ (by omega)
  have w3 : ((2 : Int) ^ n == 0) = false := by
    have e : (2 : Int) ^ n = ((2 ^ n : Nat) : Int) := by simp
    rw [e, beq_eq_false_iff_ne]; omega
  have w4 : ¬ (2 : Int) ^ n = 0 := by simpa using w3
  have wn : IntKind.i64.wrap (n : Int) = n := IntWalk.i64_in _ (by omega)
  have wu : IntKind.u64.wrap (n : Int) = n := IntWalk.u64_in _ (by omega)
  have wm : IntKind.u64.wrap (m : Int) = m := IntWalk.u64_in _ (by omega)
  clear hp1 hp2
  go_enter Try.func37, Try.ntmps37
  go_wp2_with fail
  rw [HE.out]
  go_region_with (go_at_call 53; refine (HO.out _).mono ?_; rintro e w1 ⟨rfl, hb1⟩; have c0 := bcell hb1 (b := w.heap.size) (o := 0) (v := .int .i64 (n + 1)) (by simp; omega) (by simp [go_sem]); have r0 := bcell hb1 (b := w.heap.size + 1) (o := 0) (v := .int .u8 0) (by simp) (by simp [go_sem]); have r1 := bcell hb1 (b := w.heap.size + 1) (o := 1) (v := .int .u8 0) (by simp) (by simp [go_sem]); have r2 := bcell hb1 (b := w.heap.size + 1) (o := 2) (v := .int .u8 0) (by simp) (by simp [go_sem]); have f0 := bfrozen hb1 (b := w.heap.size + 1) (o := 0) (by simp) (by simp [go_sem]); have f1 := bfrozen hb1 (b := w.heap.size + 1) (o := 1) (by simp) (by simp [go_sem]); have f2 := bfrozen hb1 (b := w.heap.size + 1) (o := 2) (by simp) (by simp [go_sem]); have hz1 : w.heap.size + 1 < w1.heap.size := by have := hb1.size; simp at this; omega)
  all_goals
    rw [HV.out]
    go_wp2_with fail
    refine bodyPost_ret (v := .tuple #[.int .u32 (m % 2 ^ n : Nat), .agg #[.int .u8 (outF m a), .int .u8 (outF m b), .int .u8 (third R (outF m c))]]) (by simp [results, Try.results37, go_sem, r0, r1, r2]) rfl ⟨rfl, ?_⟩
    first
      | exact (((below_two (below_drewL (by assumption))).setCell (by simp) _).setCell (by simp) _).setCell (by simp) _
      | exact ((((below_two (by assumption))).setCell (by simp) _).setCell (by simp) _).setCell (by simp) _
end Go.Proofs.Ytpmnbdkncmjafaa
