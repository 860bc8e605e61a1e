/- outpostref05.Systematic and Look; code.Systematic and Look of a code that may not be. -/
import Derived.Test.YtfjaohadjmigoaaDoorRows
import Derived.Test.YtfjaohadjmigoaaDoorSysW
namespace Go.Proofs.YtfjaohadjmigoaaDoor
open Go.RowKit

set_option maxHeartbeats 1000000 in
theorem sys_bad (K R : Int) (a b c : Nat) (hA : a ≤ 4294967295) (hB : b ≤ 4294967295) (hC : c ≤ 4294967295) (hne : checkF K R a b c ≠ 0) (w : World) :
    Calls Tryd.prog 9 #[.agg #[.int .i64 K, .int .i64 R, .int .u32 a, .int .u32 b, .int .u32 c]] w fun e w' => e = .returned (.tuple #[.bool false, .int .i64 (checkF K R a b c)]) ∧ Below w.heap.size w w' := by
  have HC := hide (check_any K R a b c hA hB hC)
  have hb := nzBne hne
  generalize checkF K R a b c = cf at *
  clear hne
  go_enter Tryd.func9, Tryd.ntmps9
  go_wp2_with fail
  refine (HC.out _).mono ?_
  rintro e w1 ⟨rfl, hb1⟩
  go_wp2_with fail
  go_ret2
  exact ⟨rfl, below_one hb1⟩
set_option maxHeartbeats 1000000 in
theorem look_bad (K R : Int) (a b c : Nat) (hA : a ≤ 4294967295) (hB : b ≤ 4294967295) (hC : c ≤ 4294967295) (hne : checkF K R a b c ≠ 0) (w : World) :
    Calls Tryd.prog 10 #[.agg #[.int .i64 K, .int .i64 R, .int .u32 a, .int .u32 b, .int .u32 c]] w fun e w' => e = .returned (.tuple #[.int .i64 0, .bool false, .int .i64 (checkF K R a b c)]) ∧ Below w.heap.size w w' := by
  have HC := hide (check_any K R a b c hA hB hC)
  have hb := nzBne hne
  generalize checkF K R a b c = cf at *
  clear hne
  go_enter Tryd.func10, Tryd.ntmps10
  go_wp2_with fail
  refine (HC.out _).mono ?_
  rintro e w1 ⟨rfl, hb1⟩
  go_wp2_with fail
  go_ret3
  exact ⟨rfl, below_one hb1⟩
set_option maxHeartbeats 1000000 in
theorem rsys_bad (K R : Int) (a b c : Nat) (hA : a ≤ 4294967295) (hB : b ≤ 4294967295) (hC : c ≤ 4294967295) (hne : checkF K R a b c ≠ 0) (w : World) :
    Calls Tryd.prog 14 #[.agg #[.int .i64 K, .int .i64 R, .int .u32 a, .int .u32 b, .int .u32 c]] w fun e w' => e = .returned (.tuple #[.bool false, .int .i64 (checkF K R a b c)]) ∧ Below w.heap.size w w' := by
  have HC := hide (rcheck_any K R a b c hA hB hC)
  have hb := nzBne hne
  generalize checkF K R a b c = cf at *
  clear hne
  go_enter Tryd.func14, Tryd.ntmps14
  go_wp2_with fail
  refine (HC.out _).mono ?_
  rintro e w1 ⟨rfl, hb1⟩
  go_wp2_with fail
  go_ret2
  exact ⟨rfl, below_one hb1⟩
set_option maxHeartbeats 1000000 in
theorem rlook_bad (K R : Int) (a b c : Nat) (hA : a ≤ 4294967295) (hB : b ≤ 4294967295) (hC : c ≤ 4294967295) (hne : checkF K R a b c ≠ 0) (w : World) :
    Calls Tryd.prog 15 #[.agg #[.int .i64 K, .int .i64 R, .int .u32 a, .int .u32 b, .int .u32 c]] w fun e w' => e = .returned (.tuple #[.int .i64 0, .bool false, .int .i64 (checkF K R a b c)]) ∧ Below w.heap.size w w' := by
  have HC := hide (rcheck_any K R a b c hA hB hC)
  have hb := nzBne hne
  generalize checkF K R a b c = cf at *
  clear hne
  go_enter Tryd.func15, Tryd.ntmps15
  go_wp2_with fail
  refine (HC.out _).mono ?_
  rintro e w1 ⟨rfl, hb1⟩
  go_wp2_with fail
  go_ret3
  exact ⟨rfl, below_one hb1⟩

/-- none of the first k generators is 1 -/
def NoOne (a b c k : Nat) : Prop := (0 < k → a ≠ 1) ∧ (1 < k → b ≠ 1) ∧ (2 < k → c ≠ 1)
set_option maxHeartbeats 1000000 in
theorem rsys_good (K : Int) (r a b c : Nat) (hr : r = 2 ∨ r = 3) (hc0 : r = 3 ∨ c = 0) (hA : a ≤ 4294967295) (hB : b ≤ 4294967295) (hC : c ≤ 4294967295) (hck : checkF K r a b c = 0) (w : World) :
    Calls Tryd.prog 14 #[.agg #[.int .i64 K, .int .i64 r, .int .u32 a, .int .u32 b, .int .u32 c]] w fun e w' => e = .returned (.tuple #[.bool (sysB a b c), .int .i64 0]) ∧ Below w.heap.size w w' := by
  have HC := hide (rcheck_any K r a b c hA hB hC)
  rw [hck] at HC
  clear hck
  go_enter Tryd.func14, Tryd.ntmps14
  go_wp2_with fail
  have hcb := hide (CodeB.new w K r a b c)
  have hcl := hide (CodeB.new w K r a b c).lt
  refine (HC.out _).mono ?_
  rintro e w1 ⟨rfl, hb1⟩
  obtain ⟨s0, s1, s2, s3, s4⟩ := (hcb.out.keep hb1 hcl.out).cells
  have HB1 := hide (below_one hb1)
  clear hb1 hcb hcl
  go_wp2_with fail
  go_loop [5] (fun i => ∃ k : Nat, k ≤ r ∧ i = .int .i64 k ∧ Hid (NoOne a b c k)) (fun i => r - (intOf i).toNat)
  case atStart => exact ⟨0, by omega, rfl, hide ⟨fun h => absurd h (by omega), fun h => absurd h (by omega), fun h => absurd h (by omega)⟩⟩
  case round =>
    obtain ⟨k, hk, rfl, HNO⟩ := hrel
    by_cases hkn : k = r
    · have hE := hide (show sysB a b c = false by
        obtain ⟨g0, g1, g2⟩ := HNO.out
        have h3 : c ≠ 1 := by rcases hc0 with h | h <;> first | exact g2 (by omega) | omega
        simp [sysB, g0 (by omega), g1 (by omega), h3])
      have hlt : ¬ (k : Int) < r := by omega
      clear hkn
      go_wp2_with fail
      go_ret2
      exact ⟨by simp [hE.out], HB1.out⟩
    · have hk3 : k = 0 ∨ k = 1 ∨ k = 2 := by omega
      have hlt : (k : Int) < r := by omega
      rcases hk3 with rfl | rfl | rfl
      · by_cases h1 : a = 1
        · have hE := hide (show sysB a b c = true by simp [sysB, h1])
          have ht : ((a : Int) == 1) = true := by rw [beq_iff_eq]; omega
          clear h1 hkn
          go_wp2_with fail
          go_ret2
          exact ⟨by simp [hE.out], HB1.out⟩
        · have ht : ((a : Int) == 1) = false := by rw [beq_eq_false_iff_ne]; omega
          have HN := hide (show NoOne a b c 1 from ⟨fun _ => h1, fun h => absurd h (by omega), fun h => absurd h (by omega)⟩)
          clear h1 hkn
          go_wp2_with fail
          go_round
          case rel => exact ⟨1, by omega, rfl, HN⟩
          case measure => simp [intOf]; omega
      · by_cases h1 : b = 1
        · have hE := hide (show sysB a b c = true by simp [sysB, h1])
          have ht : ((b : Int) == 1) = true := by rw [beq_iff_eq]; omega
          clear h1 hkn
          go_wp2_with fail
          go_ret2
          exact ⟨by simp [hE.out], HB1.out⟩
        · have ht : ((b : Int) == 1) = false := by rw [beq_eq_false_iff_ne]; omega
          have HN := hide (show NoOne a b c 2 from ⟨fun _ => HNO.out.1 (by omega), fun _ => h1, fun h => absurd h (by omega)⟩)
          clear h1 hkn
          go_wp2_with fail
          go_round
          case rel => exact ⟨2, by omega, rfl, HN⟩
          case measure => simp [intOf]; omega
      · by_cases h1 : c = 1
        · have hE := hide (show sysB a b c = true by simp [sysB, h1])
          have ht : ((c : Int) == 1) = true := by rw [beq_iff_eq]; omega
          clear h1 hkn
          go_wp2_with fail
          go_ret2
          exact ⟨by simp [hE.out], HB1.out⟩
        · have ht : ((c : Int) == 1) = false := by rw [beq_eq_false_iff_ne]; omega
          have HN := hide (show NoOne a b c 3 from ⟨fun _ => HNO.out.1 (by omega), fun _ => HNO.out.2.1 (by omega), fun _ => h1⟩)
          clear h1 hkn
          go_wp2_with fail
          go_round
          case rel => exact ⟨3, by omega, rfl, HN⟩
          case measure => simp [intOf]; omega
theorem pow_wrap {j : Nat} (hj : j < 32) : IntKind.u64.wrap ((2 : Int) ^ j) = ((2 ^ j : Nat) : Int) := by
  have h : 2 ^ j ≤ 2 ^ 31 := Nat.pow_le_pow_right (by omega) (by omega)
  rw [show ((2 : Int) ^ j) = ((2 ^ j : Nat) : Int) by simp]
  generalize 2 ^ j = z at *
  exact IntWalk.u64_in _ ⟨by omega, by omega⟩
set_option maxHeartbeats 1000000 in
theorem rlook_no (K R : Int) (a b c : Nat) (hA : a ≤ 4294967295) (hB : b ≤ 4294967295) (hC : c ≤ 4294967295) (hck : checkF K R a b c = 0) (hs : Gf2.popF 32 (a ^^^ b ^^^ c) ≠ 1) (w : World) :
    Calls Tryd.prog 15 #[.agg #[.int .i64 K, .int .i64 R, .int .u32 a, .int .u32 b, .int .u32 c]] w fun e w' => e = .returned (.tuple #[.int .i64 0, .bool false, .int .i64 0]) ∧ Below w.heap.size w w' := by
  have HC := hide (rcheck_any K R a b c hA hB hC)
  rw [hck] at HC
  have hab : a ^^^ b ≤ 4294967295 := xor_le32 hA hB
  have x1 := xor32 hA hB
  have x2 := xor32 hab hC
  have hsl := xor_le32 hab hC
  generalize a ^^^ b ^^^ c = s at *
  generalize a ^^^ b = ab at *
  have hsw : IntKind.u64.wrap (s : Int) = s := IntWalk.u64_in _ ⟨by omega, by omega⟩
  have HNE := hide fun (j : Nat) (hj : j < 32) => show ((s : Int) == IntKind.u64.wrap (2 ^ j)) = false by
    rw [pow_wrap hj, beq_eq_false_iff_ne]
    intro e
    have e2 : s = 2 ^ j := by omega
    exact hs (by rw [e2]; exact Gf2.popF_pow 32 j hj)
  clear hck hs
  go_enter Tryd.func15, Tryd.ntmps15
  go_wp2_with fail
  have hcb := hide (CodeB.new w K R a b c)
  have hcl := hide (CodeB.new w K R a b c).lt
  refine (HC.out _).mono ?_
  rintro e w1 ⟨rfl, hb1⟩
  obtain ⟨s0, s1, s2, s3, s4⟩ := (hcb.out.keep hb1 hcl.out).cells
  have HB1 := hide (below_one hb1)
  clear hb1 hcb hcl
  go_wp2_with fail
  go_loop [7] (fun i => ∃ k : Nat, k ≤ 32 ∧ i = .int .i64 k) (fun i => 32 - (intOf i).toNat)
  case atStart => exact ⟨0, by omega, rfl⟩
  case round =>
    obtain ⟨k, hk, rfl⟩ := hrel
    by_cases hkn : k = 32
    · have hlt : ¬ (k : Int) < 32 := by omega
      clear hkn
      go_wp2_with fail
      go_ret3
      exact ⟨rfl, HB1.out⟩
    · have hkw : IntKind.u64.wrap (k : Int) = k := IntWalk.u64_in _ ⟨by omega, by omega⟩
      have hlt : (k : Int) < 32 := by omega
      have hne := HNE.out k (by omega)
      clear hkn
      go_wp2_with fail
      go_round
      case rel => exact ⟨k + 1, by omega, by go_num⟩
      case measure => simp [intOf]; omega
set_option maxHeartbeats 1000000 in
theorem rlook_yes (K R : Int) (a b c i : Nat) (hA : a ≤ 4294967295) (hB : b ≤ 4294967295) (hC : c ≤ 4294967295) (hck : checkF K R a b c = 0) (hi : i < 32) (hs : a ^^^ b ^^^ c = 2 ^ i) (w : World) :
    Calls Tryd.prog 15 #[.agg #[.int .i64 K, .int .i64 R, .int .u32 a, .int .u32 b, .int .u32 c]] w fun e w' => e = .returned (.tuple #[.int .i64 i, .bool true, .int .i64 0]) ∧ Below w.heap.size w w' := by
  have HC := hide (rcheck_any K R a b c hA hB hC)
  rw [hck] at HC
  have hab : a ^^^ b ≤ 4294967295 := xor_le32 hA hB
  have x1 := xor32 hA hB
  have x2 := xor32 hab hC
  have hsl := xor_le32 hab hC
  generalize a ^^^ b ^^^ c = s at *
  generalize a ^^^ b = ab at *
  have hsw : IntKind.u64.wrap (s : Int) = s := IntWalk.u64_in _ ⟨by omega, by omega⟩
  have HNE := hide fun (j : Nat) (hj : j < i) => show ((s : Int) == IntKind.u64.wrap (2 ^ j)) = false by
    rw [pow_wrap (by omega), beq_eq_false_iff_ne]
    intro e
    have e2 : s = 2 ^ j := by omega
    rw [hs] at e2
    have := Nat.pow_lt_pow_right (a := 2) (by omega) hj
    omega
  have HYE := hide (show ((s : Int) == IntKind.u64.wrap (2 ^ i)) = true by rw [pow_wrap hi, beq_iff_eq, hs])
  clear hck hs
  go_enter Tryd.func15, Tryd.ntmps15
  go_wp2_with fail
  have hcb := hide (CodeB.new w K R a b c)
  have hcl := hide (CodeB.new w K R a b c).lt
  refine (HC.out _).mono ?_
  rintro e w1 ⟨rfl, hb1⟩
  obtain ⟨s0, s1, s2, s3, s4⟩ := (hcb.out.keep hb1 hcl.out).cells
  have HB1 := hide (below_one hb1)
  clear hb1 hcb hcl
  go_wp2_with fail
  go_loop [7] (fun v => ∃ k : Nat, k ≤ i ∧ v = .int .i64 k) (fun v => i - (intOf v).toNat)
  case atStart => exact ⟨0, by omega, rfl⟩
  case round =>
    obtain ⟨k, hk, rfl⟩ := hrel
    by_cases hkn : k = i
    · subst hkn
      have hkw : IntKind.u64.wrap (k : Int) = k := IntWalk.u64_in _ ⟨by omega, by omega⟩
      have hlt : (k : Int) < 32 := by omega
      have hye := HYE.out
      go_wp2_with fail
      go_ret3
      exact ⟨rfl, HB1.out⟩
    · have hkw : IntKind.u64.wrap (k : Int) = k := IntWalk.u64_in _ ⟨by omega, by omega⟩
      have hlt : (k : Int) < 32 := by have := hi; omega
      have hne := HNE.out k (by omega)
      have hk2 : k + 1 ≤ i := by omega
      clear hkn
      go_wp2_with fail
      go_round
      case rel => exact ⟨k + 1, by omega, by go_num⟩
      case measure => simp [intOf]; omega
end Go.Proofs.YtfjaohadjmigoaaDoor
