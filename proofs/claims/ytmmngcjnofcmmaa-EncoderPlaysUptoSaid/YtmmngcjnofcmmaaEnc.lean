/- encoder.row, New, Encode, walked. -/
import Derived.Test.YtmmngcjnofcmmaaRows
import Derived.Test.YtmmngcjnofcmmaaPutC
import Derived.Test.YtmmngcjnofcmmaaRCheck
import Derived.Test.YtmmngcjnofcmmaaRight1
import Derived.Test.YtmmngcjnofcmmaaDec
namespace Go.Proofs.Ytmmngcjnofcmmaa
open Go.RowKit

def Bits (xs : List Nat) : Prop := ∀ i, i < xs.length → xs.getD i 0 ≤ 1
theorem Bits.all {xs : List Nat} (h : Bits xs) (i : Nat) : xs.getD i 0 ≤ 1 := by
  rcases Nat.lt_or_ge i xs.length with hi | hi
  · exact h i hi
  · rw [getD_far' hi]; omega
set_option maxHeartbeats 400000 in
theorem erow_yes (ad : Option Addr) (c : Nat) (xs : List Nat) (hn : xs.length ≤ 140737488351232) (hb : Bits xs) (w : World) (hx : RowA w ad xs) :
    Calls Try.prog 40 #[.slice ad xs.length c] w fun e w' => e = .returned (.bool true) ∧ w = w' := by
  have HX := hide hx
  have HB := hide hb
  clear hx hb
  go_enter Try.func40, Try.ntmps40
  go_wp2_with fail
  go_loop [7] (fun i => ∃ k : Nat, k ≤ xs.length ∧ i = .int .i64 k) (fun i => xs.length - (intOf i).toNat)
  case atStart => exact ⟨0, by omega, rfl⟩
  case round =>
    obtain ⟨k, hk, rfl⟩ := hrel
    by_cases hlt : k < xs.length
    · obtain ⟨b, off, rfl, _, hc⟩ := HX.out.at_ hlt
      have h1 := HB.out k hlt
      generalize xs.getD k 0 = y at *
      go_wp2_with fail
      go_round
      case rel => exact ⟨k + 1, by omega, by simp⟩
      case measure => simp [intOf]; omega
    · go_wp2_with fail
      go_ret
      exact ⟨rfl, rfl⟩
set_option maxHeartbeats 400000 in
theorem erow_no (ad : Option Addr) (c : Nat) (xs : List Nat) (hn : xs.length ≤ 140737488351232) (hb : ¬ Bits xs) (w : World) (hx : RowA w ad xs) :
    Calls Try.prog 40 #[.slice ad xs.length c] w fun e w' => e = .returned (.bool false) ∧ w = w' := by
  have HX := hide hx
  have HB := hide hb
  clear hx hb
  go_enter Try.func40, Try.ntmps40
  go_wp2_with fail
  go_loop [7] (fun i => ∃ k : Nat, k ≤ xs.length ∧ i = .int .i64 k ∧ Hid (∀ i, i < k → xs.getD i 0 ≤ 1)) (fun i => xs.length - (intOf i).toNat)
  case atStart => exact ⟨0, by omega, rfl, hide fun i hi => absurd hi (by omega)⟩
  case round =>
    obtain ⟨k, hk, rfl, hok⟩ := hrel
    by_cases hlt : k < xs.length
    · obtain ⟨b, off, rfl, _, hc⟩ := HX.out.at_ hlt
      generalize hy : xs.getD k 0 = y at *
      have HY := hide hy
      clear hy
      by_cases h1 : 1 < y
      · go_wp2_with fail
        go_ret
        exact ⟨rfl, rfl⟩
      · go_wp2_with fail
        go_round
        case rel =>
          refine ⟨k + 1, by omega, by simp, hide fun i hi => ?_⟩
          by_cases e : i = k
          · subst e; rw [HY.out]; omega
          · exact hok.out i (by omega)
        case measure => simp [intOf]; omega
    · exact absurd (fun i hi => hok.out i (by omega)) HB.out
set_option maxHeartbeats 400000 in
theorem new_bad (K R : Int) (a b c : Nat) (hA : a ≤ 4294967295) (hB : b ≤ 4294967295) (hC : c ≤ 4294967295) (hne : checkF K R a b c ≠ 0) (w : World) :
    Calls Try.prog 20 #[.agg #[.int .i64 K, .int .i64 R, .int .u32 a, .int .u32 b, .int .u32 c]] w fun e w' => e = .returned (.tuple #[.pointer none, .int .i64 (checkF K R a b c)]) ∧ Below w.heap.size w w' := by
  have HC := hide (check_any K R a b c hA hB hC)
  have hb := nzBne hne
  generalize checkF K R a b c = cf at *
  clear hne
  go_enter Try.func20, Try.ntmps20
  go_wp2_with fail
  refine (HC.out _).mono ?_
  rintro e w1 ⟨rfl, hb1⟩
  go_wp2_with fail
  go_ret2
  exact ⟨rfl, below_one hb1⟩
set_option maxHeartbeats 400000 in
theorem new_good (K R : Int) (a b c : Nat) (hA : a ≤ 4294967295) (hB : b ≤ 4294967295) (hC : c ≤ 4294967295) (hck : checkF K R a b c = 0) (w : World) :
    Calls Try.prog 20 #[.agg #[.int .i64 K, .int .i64 R, .int .u32 a, .int .u32 b, .int .u32 c]] w fun e w' => ∃ g, e = .returned (.tuple #[.pointer (some ⟨g, 0, none⟩), .int .i64 0]) ∧ RegB w' g K R a b c 0 ∧ w.heap.size ≤ g ∧ Below w.heap.size w w' := by
  have HC := hide (check_any K R a b c hA hB hC)
  rw [hck] at HC
  clear hck
  go_enter Try.func20, Try.ntmps20
  go_wp2_with fail
  refine (HC.out _).mono ?_
  rintro e w1 ⟨rfl, hb1⟩
  have k1 := bk hb1 w.heap.size (by simp)
  have hz := hb1.size
  simp at hz
  go_wp2_with fail
  go_ret2
  refine ⟨w1.heap.size, rfl, ⟨_, heap_alloc_new w1 _⟩, by omega, (below_one hb1).alloc (by omega) _⟩
end Go.Proofs.Ytmmngcjnofcmmaa
