/- Valid, right, levelled: loops that look at each byte, walked. -/
import Derived.Test.YtlbfndibgojbiaaRows
import Derived.Test.YtlbfndibgojbiaaMC
import Derived.Test.YtlbfndibgojbiaaMB
namespace Go.Proofs.Ytlbfndibgojbiaa
open Go.RowKit

/-- all bytes are levels -/
def Lev (L : Nat) (xs : List Nat) : Prop := ∀ i, i < xs.length → xs.getD i 0 < L
theorem Lev.all {L : Nat} {xs : List Nat} (h : Lev L xs) (h0 : 0 < L) (i : Nat) : xs.getD i 0 < L := by
  rcases Nat.lt_or_ge i xs.length with hi | hi
  · exact h i hi
  · rw [getD_far' hi]; exact h0
theorem getD8 {xs : List Nat} (h : ∀ i, i < xs.length → xs.getD i 0 ≤ 255) (i : Nat) : xs.getD i 0 ≤ 255 := by
  rcases Nat.lt_or_ge i xs.length with hi | hi
  · exact h i hi
  · rw [getD_far' hi]; omega
set_option maxHeartbeats 1000000 in
theorem valid_yes (ad : Option Addr) (c : Nat) (xs : List Nat) (hn : xs.length ≤ 140737488351232) (hb : Bits xs) (w : World) (hx : RowA w ad xs) :
    Calls Try.prog 46 #[.slice ad xs.length c] w fun e w' => e = .returned (.bool true) ∧ w = w' := by
  have HX := hide hx
  have HB := hide hb
  clear hx hb
  go_enter Try.func46, Try.ntmps46
  go_wp2_with fail
  go_loop [7] (fun i => ∃ k : Nat, k ≤ xs.length ∧ i = .int .i64 k) (fun i => xs.length - (intOf i).toNat)
  case atStart => exact ⟨0, by omega, rfl⟩
  case round =>
    obtain ⟨k, hk, rfl⟩ := hrel
    by_cases hlt : k < xs.length
    · obtain ⟨b, off, rfl, _, hc⟩ := HX.out.at_ hlt
      have h1 := HB.out k hlt
      generalize xs.getD k 0 = y at *
      go_wp2_with fail
      go_round
      case rel => exact ⟨k + 1, by omega, by simp⟩
      case measure => simp [intOf]; omega
    · go_wp2_with fail
      go_ret
      exact ⟨rfl, rfl⟩
set_option maxHeartbeats 1000000 in
theorem valid_no (ad : Option Addr) (c : Nat) (xs : List Nat) (hn : xs.length ≤ 140737488351232) (hb : ¬ Bits xs) (w : World) (hx : RowA w ad xs) :
    Calls Try.prog 46 #[.slice ad xs.length c] w fun e w' => e = .returned (.bool false) ∧ w = w' := by
  have HX := hide hx
  have HB := hide hb
  clear hx hb
  go_enter Try.func46, Try.ntmps46
  go_wp2_with fail
  go_loop [7] (fun i => ∃ k : Nat, k ≤ xs.length ∧ i = .int .i64 k ∧ Hid (∀ i, i < k → xs.getD i 0 ≤ 1)) (fun i => xs.length - (intOf i).toNat)
  case atStart => exact ⟨0, by omega, rfl, hide fun i hi => absurd hi (by omega)⟩
  case round =>
    obtain ⟨k, hk, rfl, hok⟩ := hrel
    by_cases hlt : k < xs.length
    · obtain ⟨b, off, rfl, _, hc⟩ := HX.out.at_ hlt
      generalize hy : xs.getD k 0 = y at *
      have HY := hide hy
      clear hy
      by_cases h1 : 1 < y
      · go_wp2_with fail
        go_ret
        exact ⟨rfl, rfl⟩
      · go_wp2_with fail
        go_round
        case rel =>
          refine ⟨k + 1, by omega, by simp, hide fun i hi => ?_⟩
          by_cases e : i = k
          · subst e; rw [HY.out]; omega
          · exact hok.out i (by omega)
        case measure => simp [intOf]; omega
    · exact absurd (fun i hi => hok.out i (by omega)) HB.out
set_option maxHeartbeats 1000000 in
theorem r1valid_yes (ad : Option Addr) (c : Nat) (xs : List Nat) (hn : xs.length ≤ 140737488351232) (hb : Bits xs) (w : World) (hx : RowA w ad xs) :
    Calls Try.prog 47 #[.slice ad xs.length c] w fun e w' => e = .returned (.bool true) ∧ w = w' := by
  have HX := hide hx
  have HB := hide hb
  clear hx hb
  go_enter Try.func47, Try.ntmps47
  go_wp2_with fail
  go_loop [3] (fun i => ∃ k : Nat, k ≤ xs.length ∧ i = .int .i64 k) (fun i => xs.length - (intOf i).toNat)
  case atStart => exact ⟨0, by omega, rfl⟩
  case round =>
    obtain ⟨k, hk, rfl⟩ := hrel
    by_cases hlt : k < xs.length
    · obtain ⟨b, off, rfl, _, hc⟩ := HX.out.at_ hlt
      have h1 := HB.out k hlt
      generalize xs.getD k 0 = y at *
      rcases (show y = 0 ∨ y = 1 by omega) with rfl | rfl
      all_goals
        go_wp2_with fail
        go_round
        case rel => exact ⟨k + 1, by omega, by simp⟩
        case measure => simp [intOf]; omega
    · go_wp2_with fail
      go_ret
      exact ⟨rfl, rfl⟩
set_option maxHeartbeats 1000000 in
theorem r1valid_no (ad : Option Addr) (c : Nat) (xs : List Nat) (hn : xs.length ≤ 140737488351232) (hb : ¬ Bits xs) (w : World) (hx : RowA w ad xs) :
    Calls Try.prog 47 #[.slice ad xs.length c] w fun e w' => e = .returned (.bool false) ∧ w = w' := by
  have HX := hide hx
  have HB := hide hb
  clear hx hb
  go_enter Try.func47, Try.ntmps47
  go_wp2_with fail
  go_loop [3] (fun i => ∃ k : Nat, k ≤ xs.length ∧ i = .int .i64 k ∧ Hid (∀ i, i < k → xs.getD i 0 ≤ 1)) (fun i => xs.length - (intOf i).toNat)
  case atStart => exact ⟨0, by omega, rfl, hide fun i hi => absurd hi (by omega)⟩
  case round =>
    obtain ⟨k, hk, rfl, hok⟩ := hrel
    by_cases hlt : k < xs.length
    · obtain ⟨b, off, rfl, _, hc⟩ := HX.out.at_ hlt
      generalize hy : xs.getD k 0 = y at *
      have HY := hide hy
      clear hy
      by_cases h1 : 1 < y
      · have e0 : ((y : Int) != 0) = true := nzBne (by omega)
        have e1 : ((y : Int) != 1) = true := bne_iff_ne.2 (by omega)
        go_wp2_with fail
        go_ret
        exact ⟨rfl, rfl⟩
      · obtain rfl | rfl : y = 0 ∨ y = 1 := by omega
        all_goals
          go_wp2_with fail
          go_round
          case rel =>
            refine ⟨k + 1, by omega, by simp, hide fun i hi => ?_⟩
            by_cases e : i = k
            · subst e; rw [HY.out]; omega
            · exact hok.out i (by omega)
          case measure => simp [intOf]; omega
    · exact absurd (fun i hi => hok.out i (by omega)) HB.out
set_option maxHeartbeats 1000000 in
theorem mright_yes (L : Nat) (hL : 2 ≤ L ∧ L ≤ 16) (ad : Option Addr) (c : Nat) (xs : List Nat) (hn : xs.length ≤ 140737488351232) (h8 : ∀ i, xs.getD i 0 ≤ 255) (hb : Lev L xs) (w : World) (hx : RowA w ad xs) :
    Calls Try.prog 45 #[.int .i64 L, .slice ad xs.length c] w fun e w' => e = .returned (.int .i64 0) ∧ w = w' := by
  have HX := hide hx
  have HB := hide hb
  have H8 := hide h8
  clear h8
  obtain ⟨l1, l2⟩ := hL
  clear hx hb
  go_enter Try.func45, Try.ntmps45
  go_wp2_with fail
  go_loop [15] (fun i => ∃ k : Nat, k ≤ xs.length ∧ i = .int .i64 k) (fun i => xs.length - (intOf i).toNat)
  case atStart => exact ⟨0, by omega, rfl⟩
  case round =>
    obtain ⟨k, hk, rfl⟩ := hrel
    by_cases hlt : k < xs.length
    · obtain ⟨b, off, rfl, _, hc⟩ := HX.out.at_ hlt
      have h1 := HB.out k hlt
      have h2 := H8.out k
      generalize xs.getD k 0 = y at *
      go_wp2_with fail
      go_round
      case rel => exact ⟨k + 1, by omega, by simp⟩
      case measure => simp [intOf]; omega
    · go_wp2_with fail
      go_ret
      exact ⟨rfl, rfl⟩
set_option maxHeartbeats 1000000 in
theorem mright_no (L : Nat) (hL : 2 ≤ L ∧ L ≤ 16) (ad : Option Addr) (c : Nat) (xs : List Nat) (hn : xs.length ≤ 140737488351232) (h8 : ∀ i, xs.getD i 0 ≤ 255) (hb : ¬ Lev L xs) (w : World) (hx : RowA w ad xs) :
    Calls Try.prog 45 #[.int .i64 L, .slice ad xs.length c] w fun e w' => e = .returned (.int .i64 91) ∧ w = w' := by
  have HX := hide hx
  have HB := hide hb
  have H8 := hide h8
  clear h8
  obtain ⟨l1, l2⟩ := hL
  clear hx hb
  go_enter Try.func45, Try.ntmps45
  go_wp2_with fail
  go_loop [15] (fun i => ∃ k : Nat, k ≤ xs.length ∧ i = .int .i64 k ∧ Hid (∀ i, i < k → xs.getD i 0 < L)) (fun i => xs.length - (intOf i).toNat)
  case atStart => exact ⟨0, by omega, rfl, hide fun i hi => absurd hi (by omega)⟩
  case round =>
    obtain ⟨k, hk, rfl, hok⟩ := hrel
    by_cases hlt : k < xs.length
    · obtain ⟨b, off, rfl, _, hc⟩ := HX.out.at_ hlt
      have h2 := H8.out k
      generalize hy : xs.getD k 0 = y at *
      have HY := hide hy
      clear hy
      by_cases h1 : L ≤ y
      · go_wp2_with fail
        go_ret
        exact ⟨rfl, rfl⟩
      · go_wp2_with fail
        go_round
        case rel =>
          refine ⟨k + 1, by omega, by simp, hide fun i hi => ?_⟩
          by_cases e : i = k
          · subst e; rw [HY.out]; omega
          · exact hok.out i (by omega)
        case measure => simp [intOf]; omega
    · exact absurd (fun i hi => hok.out i (by omega)) HB.out
set_option maxHeartbeats 1000000 in
theorem levelled_yes (L : Nat) (hL : 2 ≤ L ∧ L ≤ 16) (ad : Option Addr) (c : Nat) (xs : List Nat) (hn : xs.length ≤ 140737488351232) (h8 : ∀ i, xs.getD i 0 ≤ 255) (hb : Lev L xs) (w : World) (hx : RowA w ad xs) :
    Calls Try.prog 48 #[.int .i64 L, .slice ad xs.length c] w fun e w' => e = .returned (.bool true) ∧ w = w' := by
  have HX := hide hx
  have HB := hide hb
  have H8 := hide h8
  clear h8
  obtain ⟨l1, l2⟩ := hL
  clear hx hb
  go_enter Try.func48, Try.ntmps48
  go_wp2_with fail
  go_loop [5] (fun i => ∃ k : Nat, k ≤ xs.length ∧ i = .int .i64 k) (fun i => xs.length - (intOf i).toNat)
  case atStart => exact ⟨0, by omega, rfl⟩
  case round =>
    obtain ⟨k, hk, rfl⟩ := hrel
    by_cases hlt : k < xs.length
    · obtain ⟨b, off, rfl, _, hc⟩ := HX.out.at_ hlt
      have h1 := HB.out k hlt
      have h2 := H8.out k
      generalize xs.getD k 0 = y at *
      go_wp2_with fail
      go_round
      case rel => exact ⟨k + 1, by omega, by simp⟩
      case measure => simp [intOf]; omega
    · go_wp2_with fail
      go_ret
      exact ⟨rfl, rfl⟩
set_option maxHeartbeats 1000000 in
theorem levelled_no (L : Nat) (hL : 2 ≤ L ∧ L ≤ 16) (ad : Option Addr) (c : Nat) (xs : List Nat) (hn : xs.length ≤ 140737488351232) (h8 : ∀ i, xs.getD i 0 ≤ 255) (hb : ¬ Lev L xs) (w : World) (hx : RowA w ad xs) :
    Calls Try.prog 48 #[.int .i64 L, .slice ad xs.length c] w fun e w' => e = .returned (.bool false) ∧ w = w' := by
  have HX := hide hx
  have HB := hide hb
  have H8 := hide h8
  clear h8
  obtain ⟨l1, l2⟩ := hL
  clear hx hb
  go_enter Try.func48, Try.ntmps48
  go_wp2_with fail
  go_loop [5] (fun i => ∃ k : Nat, k ≤ xs.length ∧ i = .int .i64 k ∧ Hid (∀ i, i < k → xs.getD i 0 < L)) (fun i => xs.length - (intOf i).toNat)
  case atStart => exact ⟨0, by omega, rfl, hide fun i hi => absurd hi (by omega)⟩
  case round =>
    obtain ⟨k, hk, rfl, hok⟩ := hrel
    by_cases hlt : k < xs.length
    · obtain ⟨b, off, rfl, _, hc⟩ := HX.out.at_ hlt
      have h2 := H8.out k
      generalize hy : xs.getD k 0 = y at *
      have HY := hide hy
      clear hy
      by_cases h1 : L ≤ y
      · go_wp2_with fail
        go_ret
        exact ⟨rfl, rfl⟩
      · go_wp2_with fail
        go_round
        case rel =>
          refine ⟨k + 1, by omega, by simp, hide fun i hi => ?_⟩
          by_cases e : i = k
          · subst e; rw [HY.out]; omega
          · exact hok.out i (by omega)
        case measure => simp [intOf]; omega
    · exact absurd (fun i hi => hok.out i (by omega)) HB.out
set_option maxHeartbeats 1000000 in
theorem mright_arg (L : Int) (hL : L < 2 ∨ 16 < L) (x : Value) (w : World) :
    Calls Try.prog 45 #[.int .i64 L, x] w fun e w' => e = .returned (.int .i64 1) ∧ w = w' := by
  rcases hL with hL | hL
  · go_enter Try.func45, Try.ntmps45
    go_wp2_with fail
    go_ret
    exact ⟨rfl, rfl⟩
  · have h2 : ¬ L < 2 := by omega
    go_enter Try.func45, Try.ntmps45
    go_wp2_with fail
    go_ret
    exact ⟨rfl, rfl⟩
theorem mright_nil (L : Nat) (hL : 2 ≤ L ∧ L ≤ 16) (w : World) :
    Calls Try.prog 45 #[.int .i64 L, .slice none 0 0] w fun e w' => e = .returned (.int .i64 0) ∧ w = w' :=
  mright_yes L hL none 0 [] (by simp) (by simp) (fun i hi => by simp at hi) w (RowA.nil _ _)
end Go.Proofs.Ytlbfndibgojbiaa
