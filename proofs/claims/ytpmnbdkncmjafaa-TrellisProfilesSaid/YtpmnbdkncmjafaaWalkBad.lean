/- trellis.Walk where the code, the state, a bit or the length is refused. -/
import Derived.Test.YtpmnbdkncmjafaaRows
import Derived.Test.YtpmnbdkncmjafaaStepsAny
import Derived.Test.YtpmnbdkncmjafaaRowB
namespace Go.Proofs.Ytpmnbdkncmjafaa
open Go.RowKit

set_option maxHeartbeats 1000000 in
theorem walk_right (K R : Int) (a b c s : Nat) (hA : a ≤ 4294967295) (hB : b ≤ 4294967295) (hC : c ≤ 4294967295) (hs : s ≤ 4294967295) (v : Value) (hne : rightF K R a b c s 0 ≠ 0) (w : World) :
    Calls Try.prog 20 #[.agg #[.int .i64 K, .int .i64 R, .int .u32 a, .int .u32 b, .int .u32 c], .int .u32 s, v] w fun e w' => e = .returned (.tuple #[.int .u32 0, .slice none 0 0, .int .i64 (rightF K R a b c s 0)]) ∧ Below w.heap.size w w' := by
  have HC := hide (right_any K R a b c s 0 hA hB hC hs (by omega))
  have hcb := nzBne hne
  generalize rightF K R a b c s 0 = rf at *
  clear hne
  go_enter Try.func20, Try.ntmps20
  go_wp2_with fail
  refine (HC.out _).mono ?_
  rintro e w1 ⟨rfl, hb1⟩
  go_wp2_with fail
  refine bodyPost_ret (v := .tuple #[.int .u32 0, .slice none 0 0, .int .i64 rf]) (by simp [results, Try.results20, go_sem]) rfl ⟨rfl, below_one hb1⟩

theorem nat_bit {x : Nat} (h : 1 < x) : (1 : Int) < x := by omega
set_option maxHeartbeats 1000000 in
theorem walk_bit (K R : Int) (a b c s : Nat) (hA : a ≤ 4294967295) (hB : b ≤ 4294967295) (hC : c ≤ 4294967295) (hs : s ≤ 4294967295) (xs : List Nat) (bk off cap : Nat) (hr : rightF K R a b c s 0 = 0) (hbad : ¬ ∀ i, i < xs.length → xs.getD i 0 ≤ 1) (w : World) (hx : ∀ i, i < xs.length → w.cell? ⟨bk, off + i, none⟩ = some (.int .u8 (xs.getD i 0 : Nat))) (hbk : bk < w.heap.size) (hn : xs.length < 9223372036854775807) :
    Calls Try.prog 20 #[.agg #[.int .i64 K, .int .i64 R, .int .u32 a, .int .u32 b, .int .u32 c], .int .u32 s, .slice (some ⟨bk, off, none⟩) xs.length cap] w fun e w' => e = .returned (.tuple #[.int .u32 0, .slice none 0 0, .int .i64 10]) ∧ Below w.heap.size w w' := by
  have HC := hide (right_any K R a b c s 0 hA hB hC hs (by omega))
  rw [hr] at HC
  have HX := hide hx
  have HB := hide hbad
  clear hr hx hbad
  go_enter Try.func20, Try.ntmps20
  go_wp2_with fail
  refine (HC.out _).mono ?_
  rintro e w1 ⟨rfl, hb1⟩
  have hb := below_one hb1
  have HXW := hide fun i (hi : i < xs.length) => bcell hb hbk (HX.out i hi)
  go_wp2_with fail
  go_loop [24] (fun i => ∃ k : Nat, k ≤ xs.length ∧ i = .int .i64 k ∧ Hid (∀ i, i < k → xs.getD i 0 ≤ 1)) (fun i => xs.length - (intOf i).toNat)
  case atStart => exact ⟨0, by omega, rfl, hide fun i hi => absurd hi (by omega)⟩
  case round =>
    obtain ⟨k, hk, rfl, hok⟩ := hrel
    by_cases hlt : k < xs.length
    · have hck := HXW.out k hlt
      generalize hy : xs.getD k 0 = y at *
      have HY := hide hy
      clear hy
      by_cases hyb : 1 < y
      · go_wp2_with fail
        refine bodyPost_ret (v := .tuple #[.int .u32 0, .slice none 0 0, .int .i64 10]) (by simp [results, Try.results20, go_sem]) rfl ⟨rfl, hb⟩
      · go_wp2_with fail
        go_round
        case rel =>
          refine ⟨k + 1, by omega, by simp, hide fun i hi => ?_⟩
          by_cases e : i = k
          · subst e; rw [HY.out]; omega
          · exact hok.out i (by omega)
        case measure => simp [intOf]; omega
    · exfalso
      exact HB.out fun i hi => hok.out i (by omega)

set_option maxHeartbeats 1000000 in
theorem walk_size (K R : Int) (a b c s : Nat) (hA : a ≤ 4294967295) (hB : b ≤ 4294967295) (hC : c ≤ 4294967295) (hs : s ≤ 4294967295) (xs : List Nat) (bk off cap : Nat) (hr : rightF K R a b c s 0 = 0) (hgood : ∀ i, i < xs.length → xs.getD i 0 ≤ 1) (hlong : 1055 < xs.length) (w : World) (hx : ∀ i, i < xs.length → w.cell? ⟨bk, off + i, none⟩ = some (.int .u8 (xs.getD i 0 : Nat))) (hbk : bk < w.heap.size) (hn : xs.length < 9223372036854775807) :
    Calls Try.prog 20 #[.agg #[.int .i64 K, .int .i64 R, .int .u32 a, .int .u32 b, .int .u32 c], .int .u32 s, .slice (some ⟨bk, off, none⟩) xs.length cap] w fun e w' => e = .returned (.tuple #[.int .u32 0, .slice none 0 0, .int .i64 6]) ∧ Below w.heap.size w w' := by
  have HC := hide (right_any K R a b c s 0 hA hB hC hs (by omega))
  rw [hr] at HC
  have HX := hide hx
  have HB := hide hgood
  clear hr hx hgood
  go_enter Try.func20, Try.ntmps20
  go_wp2_with fail
  refine (HC.out _).mono ?_
  rintro e w1 ⟨rfl, hb1⟩
  have hb := below_one hb1
  have HXW := hide fun i (hi : i < xs.length) => bcell hb hbk (HX.out i hi)
  go_wp2_with fail
  go_loop [24] (fun i => ∃ k : Nat, k ≤ xs.length ∧ i = .int .i64 k) (fun i => xs.length - (intOf i).toNat)
  case atStart => exact ⟨0, by omega, rfl⟩
  case round =>
    obtain ⟨k, hk, rfl⟩ := hrel
    by_cases hlt : k < xs.length
    · have hck := HXW.out k hlt
      generalize hy : xs.getD k 0 = y at *
      have HY := hide hy
      clear hy
      have hyb : y ≤ 1 := by have := HB.out k hlt; rw [HY.out] at this; exact this
      · go_wp2_with fail
        go_round
        case rel =>
          exact ⟨k + 1, by omega, by simp⟩
        case measure => simp [intOf]; omega
    · go_wp2_with fail
      refine bodyPost_ret (v := .tuple #[.int .u32 0, .slice none 0 0, .int .i64 6]) (by simp [results, Try.results20, go_sem]) rfl ⟨rfl, hb⟩
end Go.Proofs.Ytpmnbdkncmjafaa
