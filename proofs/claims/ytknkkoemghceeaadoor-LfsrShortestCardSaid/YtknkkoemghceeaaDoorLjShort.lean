/- The law LfsrShortest, walked: it returns true. -/
import Derived.Test.YtknkkoemghceeaaDoorRows
import Derived.Test.YtknkkoemghceeaaDoorR4Short
import Derived.Test.YtknkkoemghceeaaDoorLjGrows
import Derived.Test.YtknkkoemghceeaaDoorLfLive
namespace Go.Proofs.YtknkkoemghceeaaDoor
open Go.RowKit
open Gf2.BM

theorem lshort_size (ad : Option Addr) (cp n : Nat) (hn : 63 < n) (w : World) :
    Calls Tryd.prog 47 #[.slice ad n cp] w fun e w' => e = .returned (.tuple #[.int .i64 0, .int .u64 0, .int .i64 6]) ∧ w = w' := by
  have h : (63 : Int) < n := by omega
  clear hn
  go_enter Tryd.func47, Tryd.ntmps47
  go_wp2_with fail
  go_ret3
  exact ⟨rfl, rfl⟩
set_option maxHeartbeats 400000 in
theorem lshort_bad (ad : Option Addr) (cp : Nat) (xs : List Nat) (hl : xs.length ≤ 63) (hx : ¬ ∀ i, xs.getD i 0 ≤ 1) (w : World) (hr : RowA w ad xs) :
    Calls Tryd.prog 47 #[.slice ad xs.length cp] w fun e w' => e = .returned (.tuple #[.int .i64 0, .int .u64 0, .int .i64 10]) ∧ w = w' := by
  have HR := hide hr
  have HO := hide hx
  clear hx hr
  go_enter Tryd.func47, Tryd.ntmps47
  go_wp2_with fail
  go_loop [20] (fun i => ∃ k : Nat, k ≤ xs.length ∧ i = .int .i64 k ∧ Hid (∀ i, i < k → xs.getD i 0 ≤ 1)) (fun i => xs.length - (intOf i).toNat)
  case atStart => exact ⟨0, by omega, rfl, hide (fun i hi => by omega)⟩
  case round =>
    obtain ⟨k, hk, rfl, HS⟩ := hrel
    by_cases hlt : k < xs.length
    · obtain ⟨b, off, rfl, _, hc⟩ := HR.out.at_ hlt
      by_cases h1 : xs.getD k 0 ≤ 1
      · have HN := hide (show ∀ i, i < k + 1 → xs.getD i 0 ≤ 1 from fun i hi => by
          by_cases e : i = k
          · rw [e]; exact h1
          · exact HS.out i (by omega))
        generalize xs.getD k 0 = y at *
        go_wp2_with fail
        go_round
        case rel => exact ⟨k + 1, by omega, by simp, HN⟩
        case measure => simp [intOf]; omega
      · have h2 : (1 : Int) < ((xs.getD k 0 : Nat) : Int) := by omega
        generalize xs.getD k 0 = y at *
        clear h1
        go_wp2_with fail
        go_ret3
        exact ⟨rfl, rfl⟩
    · exact absurd (fun i => by
        by_cases e : i < xs.length
        · exact HS.out i (by omega)
        · rw [List.getD_eq_getElem?_getD, List.getElem?_eq_none (by omega)]; simp) HO.out
set_option maxHeartbeats 1000000 in
/-- both answer the same -/
theorem short_law (ad : Option Addr) (cp : Nat) (xs : List Nat) (hn : xs.length ≤ 140737488351232) (N C e : Nat) (w : World) (hr : RowA w ad xs) (ht : TabW w)
    (HP : ∀ (ad : Option Addr) (cp : Nat) (w : World), RowA w ad xs → Calls Tryd.prog 47 #[.slice ad xs.length cp] w fun e' w' => e' = .returned (.tuple #[.int .i64 N, .int .u64 C, .int .i64 e]) ∧ w = w')
    (HR : ∀ (w : World), RowA w ad xs → Calls Tryd.prog 48 #[.slice ad xs.length cp] w fun e' w' => e' = .returned (.tuple #[.int .i64 N, .int .u64 C, .int .i64 e]) ∧ Below w.heap.size w w') :
    Calls Tryd.prog 12 #[.slice ad xs.length cp] w fun e w' => e = .returned (.bool true) ∧ Below w.heap.size w w' := by
  have HX := hide hr
  have HPP := hide HP
  have HRR := hide HR
  have HL := hide (fun u (h : Below w.heap.size w u) => llive_any u (ht.below h))
  have HOW := hide (fun w hr => own_any ad cp xs hn w hr)
  have HK := hide (fun B L cap u (h : OwnedB u B L cap xs) hr => kept_any ad cp B L cap xs hn u h hr)
  clear hr HP HR ht
  generalize xs.length = n at *
  go_enter Tryd.func12, Tryd.ntmps12
  go_wp2_with fail
  refine (HOW.out _ HX.out).mono ?_
  rintro e w1 ⟨L1, c1, rfl, ho1, hb1⟩
  have HB1 := hide hb1
  have HO1 := hide ho1
  clear hb1 ho1
  go_wp2_with fail
  refine (HPP.out _ _ _ HO1.out.rowx).mono ?_
  rintro e w' ⟨rfl, rfl⟩
  go_wp2_with fail
  refine (HRR.out _ (HX.out.below HB1.out)).mono ?_
  rintro e w2 ⟨rfl, hb2⟩
  have HO2 := hide (HO1.out.below hb2)
  have HB2 := hide (below_then HB1.out hb2)
  clear hb2
  go_wp2_with fail
  refine (num_any _ _).mono ?_
  rintro e w' ⟨rfl, rfl⟩
  go_wp2_with fail
  refine (HK.out _ _ _ _ HO2.out (HX.out.below HB2.out)).mono ?_
  rintro e w' ⟨rfl, rfl⟩
  go_wp2_with fail
  refine (HL.out _ HB2.out).mono ?_
  rintro e w3 ⟨rfl, hb3⟩
  go_wp2_with fail
  go_ret
  exact ⟨rfl, below_then HB2.out hb3⟩
theorem law_shortest (ad : Option Addr) (cp : Nat) (xs : List Nat) (hn : xs.length ≤ 140737488351232) (w : World) (hr : RowA w ad xs) (ht : TabW w) :
    Calls Tryd.prog 12 #[.slice ad xs.length cp] w fun e w' => e = .returned (.bool true) ∧ Below w.heap.size w w' := by
  by_cases h : 63 < xs.length
  · exact short_law ad cp xs hn 0 0 6 w hr ht (fun ad' cp' u _ => lshort_size ad' cp' xs.length h u) (fun u _ => (rshort_size ad cp xs.length h u).mono fun e w' ⟨h1, h2⟩ => ⟨h1, by rw [← h2]; exact Below.refl _ _⟩)
  · by_cases hx : ∀ i, xs.getD i 0 ≤ 1
    · exact short_law ad cp xs hn _ _ 0 w hr ht (fun ad' cp' u hu => shortest_ok ad' cp' xs (by omega) hx u hu) (fun u hu => rshort_ok ad cp xs (by omega) hx u hu)
    · exact short_law ad cp xs hn 0 0 10 w hr ht (fun ad' cp' u hu => lshort_bad ad' cp' xs (by omega) hx u hu) (fun u hu => (rshort_bad ad cp xs (by omega) hx u hu).mono fun e w' ⟨h1, h2⟩ => ⟨h1, by rw [← h2]; exact Below.refl _ _⟩)
end Go.Proofs.YtknkkoemghceeaaDoor
