/- outpostref06.Right and outpostlaw06.good, walked. -/
import Derived.Test.YtmmngcjnofcmmaaRows
import Derived.Test.YtmmngcjnofcmmaaEncode
import Derived.Test.YtmmngcjnofcmmaaRCheck
namespace Go.Proofs.Ytmmngcjnofcmmaa
open Go.RowKit

set_option maxHeartbeats 400000 in
theorem rright_yes (ad : Option Addr) (c : Nat) (xs : List Nat) (hn : xs.length ≤ 140737488351232) (hb : Bits xs) (w : World) (hx : RowA w ad xs) :
    Calls Try.prog 38 #[.slice ad xs.length c] w fun e w' => e = .returned (.bool true) ∧ w = w' := by
  have HX := hide hx
  have HB := hide hb
  clear hx hb
  go_enter Try.func38, Try.ntmps38
  go_wp2_with fail
  go_loop [3] (fun i => ∃ k : Nat, k ≤ xs.length ∧ i = .int .i64 k) (fun i => xs.length - (intOf i).toNat)
  case atStart => exact ⟨0, by omega, rfl⟩
  case round =>
    obtain ⟨k, hk, rfl⟩ := hrel
    by_cases hlt : k < xs.length
    · obtain ⟨b, off, rfl, _, hc⟩ := HX.out.at_ hlt
      have h1 := HB.out k hlt
      generalize xs.getD k 0 = y at *
      go_wp2_with fail
      go_round
      case rel => exact ⟨k + 1, by omega, by simp⟩
      case measure => simp [intOf]; omega
    · go_wp2_with fail
      go_ret
      exact ⟨rfl, rfl⟩
set_option maxHeartbeats 400000 in
theorem rright_no (ad : Option Addr) (c : Nat) (xs : List Nat) (hn : xs.length ≤ 140737488351232) (hb : ¬ Bits xs) (w : World) (hx : RowA w ad xs) :
    Calls Try.prog 38 #[.slice ad xs.length c] w fun e w' => e = .returned (.bool false) ∧ w = w' := by
  have HX := hide hx
  have HB := hide hb
  clear hx hb
  go_enter Try.func38, Try.ntmps38
  go_wp2_with fail
  go_loop [3] (fun i => ∃ k : Nat, k ≤ xs.length ∧ i = .int .i64 k ∧ Hid (∀ i, i < k → xs.getD i 0 ≤ 1)) (fun i => xs.length - (intOf i).toNat)
  case atStart => exact ⟨0, by omega, rfl, hide fun i hi => absurd hi (by omega)⟩
  case round =>
    obtain ⟨k, hk, rfl, hok⟩ := hrel
    by_cases hlt : k < xs.length
    · obtain ⟨b, off, rfl, _, hc⟩ := HX.out.at_ hlt
      generalize hy : xs.getD k 0 = y at *
      have HY := hide hy
      clear hy
      by_cases h1 : 1 < y
      · go_wp2_with fail
        go_ret
        exact ⟨rfl, rfl⟩
      · go_wp2_with fail
        go_round
        case rel =>
          refine ⟨k + 1, by omega, by simp, hide fun i hi => ?_⟩
          by_cases e : i = k
          · subst e; rw [HY.out]; omega
          · exact hok.out i (by omega)
        case measure => simp [intOf]; omega
    · exact absurd (fun i hi => hok.out i (by omega)) HB.out
set_option maxHeartbeats 400000 in
theorem good_yes (K R : Int) (a b c : Nat) (hA : a ≤ 4294967295) (hB : b ≤ 4294967295) (hC : c ≤ 4294967295) (ad : Option Addr) (cap : Nat) (xs : List Nat) (hn : xs.length ≤ 140737488351232) (he : encE K R a b c xs = 0) (w : World) (hx : RowA w ad xs) :
    Calls Try.prog 12 #[.agg #[.int .i64 K, .int .i64 R, .int .u32 a, .int .u32 b, .int .u32 c], .slice ad xs.length cap] w fun e w' => e = .returned (.bool true) ∧ Below w.heap.size w w' := by
  obtain ⟨h1, h2⟩ := encE_zero he
  have HC := hide (rcheck_any K R a b c hA hB hC)
  rw [h1] at HC
  have HR := hide fun w hx => rright_yes ad cap xs hn h2 w hx
  have HX := hide hx
  clear he h1 h2 hx
  go_enter Try.func12, Try.ntmps12
  go_wp2_with fail
  refine (HC.out _).mono ?_
  rintro e w1 ⟨rfl, hb1⟩
  go_wp2_with fail
  refine (HR.out _ (HX.out.below (below_one hb1))).mono ?_
  rintro e w' ⟨rfl, rfl⟩
  go_wp2_with fail
  go_ret
  exact ⟨rfl, below_one hb1⟩
set_option maxHeartbeats 400000 in
theorem good_no (K R : Int) (a b c : Nat) (hA : a ≤ 4294967295) (hB : b ≤ 4294967295) (hC : c ≤ 4294967295) (ad : Option Addr) (cap : Nat) (xs : List Nat) (hn : xs.length ≤ 140737488351232) (he : encE K R a b c xs ≠ 0) (w : World) (hx : RowA w ad xs) :
    Calls Try.prog 12 #[.agg #[.int .i64 K, .int .i64 R, .int .u32 a, .int .u32 b, .int .u32 c], .slice ad xs.length cap] w fun e w' => e = .returned (.bool false) ∧ Below w.heap.size w w' := by
  have HC := hide (rcheck_any K R a b c hA hB hC)
  have HX := hide hx
  by_cases h1 : checkF K R a b c = 0
  · rw [h1] at HC
    have h2 : ¬ Bits xs := fun h => he (encE_good h1 h)
    have HR := hide fun w hx => rright_no ad cap xs hn h2 w hx
    clear he h1 h2 hx
    go_enter Try.func12, Try.ntmps12
    go_wp2_with fail
    refine (HC.out _).mono ?_
    rintro e w1 ⟨rfl, hb1⟩
    go_wp2_with fail
    refine (HR.out _ (HX.out.below (below_one hb1))).mono ?_
    rintro e w' ⟨rfl, rfl⟩
    go_wp2_with fail
    go_ret
    exact ⟨rfl, below_one hb1⟩
  · have hb := nzBeq h1
    generalize checkF K R a b c = cf at *
    clear he h1 hx
    go_enter Try.func12, Try.ntmps12
    go_wp2_with fail
    refine (HC.out _).mono ?_
    rintro e w1 ⟨rfl, hb1⟩
    go_wp2_with fail
    go_ret
    exact ⟨rfl, below_one hb1⟩
/-- Go's comparison of rows of bits tells them apart -/
theorem strN_inj {xs ys : List Nat} (hx : ∀ i, xs.getD i 0 ≤ 255) (hy : ∀ i, ys.getD i 0 ≤ 255) (h : (strN xs).toList = (strN ys).toList) : xs = ys := by
  have e : ∀ zs : List Nat, (strN zs).toList = zs.map fun z => UInt8.ofNat z := fun zs => by
    simp [strN, strOfNums, ByteArray.toList_eq]
  rw [e, e] at h
  have hl : xs.length = ys.length := by have := congrArg List.length h; simpa using this
  refine getD_ext hl fun i hi => ?_
  have h1 := congrArg (fun l => (l.getD i 0).toNat) h
  simp only [List.getD, List.getElem?_map, List.getElem?_eq_getElem hi, List.getElem?_eq_getElem (show i < ys.length by omega), Option.map_some, Option.getD_some] at h1
  have a1 := hx i
  have a2 := hy i
  simp only [List.getD, List.getElem?_eq_getElem hi, List.getElem?_eq_getElem (show i < ys.length by omega), Option.getD_some] at a1 a2 ⊢
  simp [UInt8.toNat_ofNat'] at h1
  omega
end Go.Proofs.Ytmmngcjnofcmmaa
