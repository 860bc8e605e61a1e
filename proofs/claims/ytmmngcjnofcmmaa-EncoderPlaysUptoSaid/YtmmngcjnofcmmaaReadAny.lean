/- encoder.read, Invert and Member of whatever input, walked. -/
import Derived.Test.YtmmngcjnofcmmaaRows

import Derived.Test.YtmmngcjnofcmmaaEncode
namespace Go.Proofs.Ytmmngcjnofcmmaa
open Go.RowKit

set_option maxHeartbeats 1000000 in
theorem read_check (K R : Int) (a b c : Nat) (hA : a ≤ 4294967295) (hB : b ≤ 4294967295) (hC : c ≤ 4294967295) (hne : checkF K R a b c ≠ 0) (x : Value) (w : World) :
    Calls Try.prog 43 #[.agg #[.int .i64 K, .int .i64 R, .int .u32 a, .int .u32 b, .int .u32 c], x] w fun e w' => e = .returned (.tuple #[.slice none 0 0, .bool false, .int .i64 (checkF K R a b c)]) ∧ Below w.heap.size w w' := by
  have HN := hide (new_bad K R a b c hA hB hC hne)
  have hb := nzBne hne
  have hb2 := nzBeq hne
  generalize checkF K R a b c = cf at *
  clear hne
  go_enter Try.func43, Try.ntmps43
  go_wp2_with fail
  refine (HN.out _).mono ?_
  rintro e w1 ⟨rfl, hb1⟩
  go_wp2_with fail
  go_ret3
  exact ⟨rfl, below_one hb1⟩
set_option maxHeartbeats 1000000 in
theorem read_shape_two (n a b c : Nat) (hn : 2 ≤ n ∧ n ≤ 31) (hA : a ≤ 4294967295) (hB : b ≤ 4294967295) (hC : c ≤ 4294967295) (hck : checkF (n + 1) 2 a b c = 0) (ad : Option Addr) (cap : Nat) (S : List Nat) (hl : S.length ≤ 140737488351232) (hS : S.length % 2 ≠ 0 ∨ S.length / 2 < n) (w : World) :
    Calls Try.prog 43 #[.agg #[.int .i64 (n + 1), .int .i64 2, .int .u32 a, .int .u32 b, .int .u32 c], .slice ad S.length cap] w fun e w' => e = .returned (.tuple #[.slice none 0 0, .bool false, .int .i64 5]) ∧ Below w.heap.size w w' := by
  have HN := hide (new_good (n + 1) 2 a b c hA hB hC hck)
  by_cases h0 : S.length % 2 = 0
  · have hb : ((S.length : Int) % 2 != 0) = false := by rw [bne_eq_false_iff_eq]; omega
    have hd : (decide ((S.length : Int) / 2 < n)) = true := by simp; omega
    have hd2 : (S.length : Int) / 2 < n := by omega
    have hr0 : (S.length : Int) % 2 = 0 := by omega
    clear hck hS h0
    go_enter Try.func43, Try.ntmps43
    go_wp2_with fail
    refine (HN.out _).mono ?_
    rintro e w1 ⟨g, rfl, hr1, hg1, hb1⟩
    have k1 := bk hb1 w.heap.size (by simp)
    have hz1 := size_mid hb1
    clear hr1 hg1
    go_wp2_with fail
    go_ret3
    exact ⟨rfl, below_one hb1⟩
  · have hb : ((S.length : Int) % 2 != 0) = true := by rw [bne_iff_ne]; omega
    have hr0 : ¬ (S.length : Int) % 2 = 0 := by omega
    clear hck hS h0
    go_enter Try.func43, Try.ntmps43
    go_wp2_with fail
    refine (HN.out _).mono ?_
    rintro e w1 ⟨g, rfl, hr1, hg1, hb1⟩
    have k1 := bk hb1 w.heap.size (by simp)
    have hz1 := size_mid hb1
    clear hr1 hg1
    go_wp2_with fail
    go_ret3
    exact ⟨rfl, below_one hb1⟩
set_option maxHeartbeats 1000000 in
theorem read_bits_two (n a b c : Nat) (hn : 2 ≤ n ∧ n ≤ 31) (hA : a ≤ 4294967295) (hB : b ≤ 4294967295) (hC : c ≤ 4294967295) (hck : checkF (n + 1) 2 a b c = 0) (ad : Option Addr) (cap : Nat) (S : List Nat) (hl : S.length ≤ 140737488351232) (h0 : S.length % 2 = 0) (h1 : ¬ S.length / 2 < n) (hbt : ¬ Bits S) (w : World) (hx : RowA w ad S) :
    Calls Try.prog 43 #[.agg #[.int .i64 (n + 1), .int .i64 2, .int .u32 a, .int .u32 b, .int .u32 c], .slice ad S.length cap] w fun e w' => e = .returned (.tuple #[.slice none 0 0, .bool false, .int .i64 10]) ∧ Below w.heap.size w w' := by
  have HN := hide (new_good (n + 1) 2 a b c hA hB hC hck)
  have HR := hide fun w hx => erow_no ad cap S hl hbt w hx
  have HX := hide hx
  have hd : (decide ((S.length : Int) / 2 < n)) = false := by simp; omega
  have hd2 : (n : Int) ≤ (S.length : Int) / 2 := by omega
  have hr0 : (S.length : Int) % 2 = 0 := by omega
  clear hck h0 h1 hbt hx
  go_enter Try.func43, Try.ntmps43
  go_wp2_with fail
  refine (HN.out _).mono ?_
  rintro e w1 ⟨g, rfl, hr1, hg1, hb1⟩
  have k1 := bk hb1 w.heap.size (by simp)
  have hz1 := size_mid hb1
  clear hr1 hg1
  go_wp2_with fail
  refine (HR.out _ (HX.out.below (below_one hb1))).mono ?_
  rintro e w' ⟨rfl, rfl⟩
  go_wp2_with fail
  go_ret3
  exact ⟨rfl, below_one hb1⟩
set_option maxHeartbeats 1000000 in
theorem read_shape_three (n a b c : Nat) (hn : 2 ≤ n ∧ n ≤ 31) (hA : a ≤ 4294967295) (hB : b ≤ 4294967295) (hC : c ≤ 4294967295) (hck : checkF (n + 1) 3 a b c = 0) (ad : Option Addr) (cap : Nat) (S : List Nat) (hl : S.length ≤ 140737488351232) (hS : S.length % 3 ≠ 0 ∨ S.length / 3 < n) (w : World) :
    Calls Try.prog 43 #[.agg #[.int .i64 (n + 1), .int .i64 3, .int .u32 a, .int .u32 b, .int .u32 c], .slice ad S.length cap] w fun e w' => e = .returned (.tuple #[.slice none 0 0, .bool false, .int .i64 5]) ∧ Below w.heap.size w w' := by
  have HN := hide (new_good (n + 1) 3 a b c hA hB hC hck)
  by_cases h0 : S.length % 3 = 0
  · have hb : ((S.length : Int) % 3 != 0) = false := by rw [bne_eq_false_iff_eq]; omega
    have hd : (decide ((S.length : Int) / 3 < n)) = true := by simp; omega
    have hd2 : (S.length : Int) / 3 < n := by omega
    have hr0 : (S.length : Int) % 3 = 0 := by omega
    clear hck hS h0
    go_enter Try.func43, Try.ntmps43
    go_wp2_with fail
    refine (HN.out _).mono ?_
    rintro e w1 ⟨g, rfl, hr1, hg1, hb1⟩
    have k1 := bk hb1 w.heap.size (by simp)
    have hz1 := size_mid hb1
    clear hr1 hg1
    go_wp2_with fail
    go_ret3
    exact ⟨rfl, below_one hb1⟩
  · have hb : ((S.length : Int) % 3 != 0) = true := by rw [bne_iff_ne]; omega
    have hr0 : ¬ (S.length : Int) % 3 = 0 := by omega
    clear hck hS h0
    go_enter Try.func43, Try.ntmps43
    go_wp2_with fail
    refine (HN.out _).mono ?_
    rintro e w1 ⟨g, rfl, hr1, hg1, hb1⟩
    have k1 := bk hb1 w.heap.size (by simp)
    have hz1 := size_mid hb1
    clear hr1 hg1
    go_wp2_with fail
    go_ret3
    exact ⟨rfl, below_one hb1⟩
set_option maxHeartbeats 1000000 in
theorem read_bits_three (n a b c : Nat) (hn : 2 ≤ n ∧ n ≤ 31) (hA : a ≤ 4294967295) (hB : b ≤ 4294967295) (hC : c ≤ 4294967295) (hck : checkF (n + 1) 3 a b c = 0) (ad : Option Addr) (cap : Nat) (S : List Nat) (hl : S.length ≤ 140737488351232) (h0 : S.length % 3 = 0) (h1 : ¬ S.length / 3 < n) (hbt : ¬ Bits S) (w : World) (hx : RowA w ad S) :
    Calls Try.prog 43 #[.agg #[.int .i64 (n + 1), .int .i64 3, .int .u32 a, .int .u32 b, .int .u32 c], .slice ad S.length cap] w fun e w' => e = .returned (.tuple #[.slice none 0 0, .bool false, .int .i64 10]) ∧ Below w.heap.size w w' := by
  have HN := hide (new_good (n + 1) 3 a b c hA hB hC hck)
  have HR := hide fun w hx => erow_no ad cap S hl hbt w hx
  have HX := hide hx
  have hd : (decide ((S.length : Int) / 3 < n)) = false := by simp; omega
  have hd2 : (n : Int) ≤ (S.length : Int) / 3 := by omega
  have hr0 : (S.length : Int) % 3 = 0 := by omega
  clear hck h0 h1 hbt hx
  go_enter Try.func43, Try.ntmps43
  go_wp2_with fail
  refine (HN.out _).mono ?_
  rintro e w1 ⟨g, rfl, hr1, hg1, hb1⟩
  have k1 := bk hb1 w.heap.size (by simp)
  have hz1 := size_mid hb1
  clear hr1 hg1
  go_wp2_with fail
  refine (HR.out _ (HX.out.below (below_one hb1))).mono ?_
  rintro e w' ⟨rfl, rfl⟩
  go_wp2_with fail
  go_ret3
  exact ⟨rfl, below_one hb1⟩
end Go.Proofs.Ytmmngcjnofcmmaa
