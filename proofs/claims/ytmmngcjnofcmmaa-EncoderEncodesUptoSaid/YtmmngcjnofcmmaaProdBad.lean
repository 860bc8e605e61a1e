/- Product's errors: the program's and the reference's. -/
import Derived.Test.YtmmngcjnofcmmaaRows
import Derived.Test.YtmmngcjnofcmmaaProd
import Derived.Test.YtmmngcjnofcmmaaGood
namespace Go.Proofs.Ytmmngcjnofcmmaa
open Go.RowKit
set_option maxHeartbeats 400000 in
theorem product_bad (K R : Int) (a b c : Nat) (hA : a ≤ 4294967295) (hB : b ≤ 4294967295) (hC : c ≤ 4294967295) (hne : checkF K R a b c ≠ 0) (x y : Value) (w : World) :
    Calls Try.prog 34 #[.agg #[.int .i64 K, .int .i64 R, .int .u32 a, .int .u32 b, .int .u32 c], x, y] w fun e w' => e = .returned (.tuple #[.slice none 0 0, .int .i64 (checkF K R a b c)]) ∧ Below w.heap.size w w' := by
  have HN := hide (check_any K R a b c hA hB hC)
  have hb := nzBne hne
  generalize checkF K R a b c = cf at *
  clear hne
  go_enter Try.func34, Try.ntmps34
  go_wp2_with fail
  refine (HN.out _).mono ?_
  rintro e w1 ⟨rfl, hb1⟩
  go_wp2_with fail
  go_ret2
  exact ⟨rfl, below_one hb1⟩
set_option maxHeartbeats 400000 in
theorem product_arg (K R : Int) (a b c : Nat) (hA : a ≤ 4294967295) (hB : b ≤ 4294967295) (hC : c ≤ 4294967295) (hck : checkF K R a b c = 0) (x : Value) (i : Int) (hi : i < 0 ∨ R ≤ i) (w : World) :
    Calls Try.prog 34 #[.agg #[.int .i64 K, .int .i64 R, .int .u32 a, .int .u32 b, .int .u32 c], x, .int .i64 i] w fun e w' => e = .returned (.tuple #[.slice none 0 0, .int .i64 1]) ∧ Below w.heap.size w w' := by
  have HN := hide (check_any K R a b c hA hB hC)
  rw [hck] at HN
  clear hck
  by_cases h0 : i < 0
  · clear hi
    go_enter Try.func34, Try.ntmps34
    go_wp2_with fail
    refine (HN.out _).mono ?_
    rintro e w1 ⟨rfl, hb1⟩
    have q1 := ((CodeB.new w K R a b c).keep hb1 (by simp)).cells.2.1
    go_wp2_with fail
    go_ret2
    exact ⟨rfl, below_one hb1⟩
  · have h1 : R ≤ i := hi.resolve_left h0
    clear hi
    go_enter Try.func34, Try.ntmps34
    go_wp2_with fail
    refine (HN.out _).mono ?_
    rintro e w1 ⟨rfl, hb1⟩
    have q1 := ((CodeB.new w K R a b c).keep hb1 (by simp)).cells.2.1
    go_wp2_with fail
    go_ret2
    exact ⟨rfl, below_one hb1⟩
set_option maxHeartbeats 400000 in
theorem product_bit (K R : Int) (a b c : Nat) (hA : a ≤ 4294967295) (hB : b ≤ 4294967295) (hC : c ≤ 4294967295) (hck : checkF K R a b c = 0) (ad : Option Addr) (cap : Nat) (xs : List Nat) (hl : xs.length ≤ 140737488351232) (hb : ¬ Bits xs) (i : Int) (h0 : ¬ i < 0) (h1 : ¬ R ≤ i) (w : World) (hx : RowA w ad xs) :
    Calls Try.prog 34 #[.agg #[.int .i64 K, .int .i64 R, .int .u32 a, .int .u32 b, .int .u32 c], .slice ad xs.length cap, .int .i64 i] w fun e w' => e = .returned (.tuple #[.slice none 0 0, .int .i64 10]) ∧ Below w.heap.size w w' := by
  have HN := hide (check_any K R a b c hA hB hC)
  rw [hck] at HN
  have HR := hide fun w hx => erow_no ad cap xs hl hb w hx
  have HX := hide hx
  clear hx hb hck
  go_enter Try.func34, Try.ntmps34
  go_wp2_with fail
  refine (HN.out _).mono ?_
  rintro e w1 ⟨rfl, hb1⟩
  have q1 := ((CodeB.new w K R a b c).keep hb1 (by simp)).cells.2.1
  go_wp2_with fail
  refine (HR.out _ (HX.out.below (below_one hb1))).mono ?_
  rintro e w' ⟨rfl, rfl⟩
  go_wp2_with fail
  go_ret2
  exact ⟨rfl, below_one hb1⟩
set_option maxHeartbeats 400000 in
theorem rproduct_bad (K R : Int) (a b c : Nat) (hA : a ≤ 4294967295) (hB : b ≤ 4294967295) (hC : c ≤ 4294967295) (hne : checkF K R a b c ≠ 0) (x y : Value) (w : World) :
    Calls Try.prog 35 #[.agg #[.int .i64 K, .int .i64 R, .int .u32 a, .int .u32 b, .int .u32 c], x, y] w fun e w' => e = .returned (.tuple #[.slice none 0 0, .int .i64 (checkF K R a b c)]) ∧ Below w.heap.size w w' := by
  have HN := hide (rcheck_any K R a b c hA hB hC)
  have hb := nzBne hne
  generalize checkF K R a b c = cf at *
  clear hne
  go_enter Try.func35, Try.ntmps35
  go_wp2_with fail
  refine (HN.out _).mono ?_
  rintro e w1 ⟨rfl, hb1⟩
  go_wp2_with fail
  go_ret2
  exact ⟨rfl, below_one hb1⟩
set_option maxHeartbeats 400000 in
theorem rproduct_arg (K R : Int) (a b c : Nat) (hA : a ≤ 4294967295) (hB : b ≤ 4294967295) (hC : c ≤ 4294967295) (hck : checkF K R a b c = 0) (x : Value) (i : Int) (hi : i < 0 ∨ R ≤ i) (w : World) :
    Calls Try.prog 35 #[.agg #[.int .i64 K, .int .i64 R, .int .u32 a, .int .u32 b, .int .u32 c], x, .int .i64 i] w fun e w' => e = .returned (.tuple #[.slice none 0 0, .int .i64 1]) ∧ Below w.heap.size w w' := by
  have HN := hide (rcheck_any K R a b c hA hB hC)
  rw [hck] at HN
  clear hck
  by_cases h0 : i < 0
  · clear hi
    go_enter Try.func35, Try.ntmps35
    go_wp2_with fail
    refine (HN.out _).mono ?_
    rintro e w1 ⟨rfl, hb1⟩
    have q1 := ((CodeB.new w K R a b c).keep hb1 (by simp)).cells.2.1
    go_wp2_with fail
    go_ret2
    exact ⟨rfl, below_one hb1⟩
  · have h1 : R ≤ i := hi.resolve_left h0
    clear hi
    go_enter Try.func35, Try.ntmps35
    go_wp2_with fail
    refine (HN.out _).mono ?_
    rintro e w1 ⟨rfl, hb1⟩
    have q1 := ((CodeB.new w K R a b c).keep hb1 (by simp)).cells.2.1
    go_wp2_with fail
    go_ret2
    exact ⟨rfl, below_one hb1⟩
set_option maxHeartbeats 400000 in
theorem rproduct_bit (K R : Int) (a b c : Nat) (hA : a ≤ 4294967295) (hB : b ≤ 4294967295) (hC : c ≤ 4294967295) (hck : checkF K R a b c = 0) (ad : Option Addr) (cap : Nat) (xs : List Nat) (hl : xs.length ≤ 140737488351232) (hb : ¬ Bits xs) (i : Int) (h0 : ¬ i < 0) (h1 : ¬ R ≤ i) (w : World) (hx : RowA w ad xs) :
    Calls Try.prog 35 #[.agg #[.int .i64 K, .int .i64 R, .int .u32 a, .int .u32 b, .int .u32 c], .slice ad xs.length cap, .int .i64 i] w fun e w' => e = .returned (.tuple #[.slice none 0 0, .int .i64 10]) ∧ Below w.heap.size w w' := by
  have HN := hide (rcheck_any K R a b c hA hB hC)
  rw [hck] at HN
  have HR := hide fun w hx => rright_no ad cap xs hl hb w hx
  have HX := hide hx
  clear hx hb hck
  go_enter Try.func35, Try.ntmps35
  go_wp2_with fail
  refine (HN.out _).mono ?_
  rintro e w1 ⟨rfl, hb1⟩
  have q1 := ((CodeB.new w K R a b c).keep hb1 (by simp)).cells.2.1
  go_wp2_with fail
  refine (HR.out _ (HX.out.below (below_one hb1))).mono ?_
  rintro e w' ⟨rfl, rfl⟩
  go_wp2_with fail
  go_ret2
  exact ⟨rfl, below_one hb1⟩
end Go.Proofs.Ytmmngcjnofcmmaa
