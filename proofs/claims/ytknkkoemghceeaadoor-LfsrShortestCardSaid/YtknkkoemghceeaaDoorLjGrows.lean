/- The law LfsrGrows, walked: it returns true. -/
import Derived.Test.YtknkkoemghceeaaDoorRows
import Derived.Test.YtknkkoemghceeaaDoorR4Makes
import Derived.Test.YtknkkoemghceeaaDoorLfLive
namespace Go.Proofs.YtknkkoemghceeaaDoor
open Go.RowKit
open Gf2.BM
set_option linter.unusedVariables false

theorem own_n (ad : Option Addr) (c n : Nat) (xs : List Nat) (h : xs.length = n) (hn : n ≤ 140737488351232) (w : World) (hx : RowA w ad xs) :
    Calls Tryd.prog 40 #[.slice ad n c] w fun e w' => ∃ L cap, e = .returned (.slice (some ⟨L, 0, none⟩) n cap) ∧ OwnedB w' w.heap.size L cap xs ∧ Below w.heap.size w w' := by
  subst h; exact own_any ad c xs hn w hx
theorem shortest_n (ad : Option Addr) (cp n : Nat) (xs : List Nat) (h : xs.length = n) (hl : n ≤ 63) (hx : ∀ i, xs.getD i 0 ≤ 1) (w : World) (hr : RowA w ad xs) :
    Calls Tryd.prog 47 #[.slice ad n cp] w fun e w' => e = .returned (.tuple #[.int .i64 ((run (rowN xs) n).L : Nat), .int .u64 (fin (rowN xs) n : Nat), .int .i64 0]) ∧ w = w' := by
  subst h; exact shortest_ok ad cp xs hl hx w hr
theorem grows_small (ad : Option Addr) (cp : Nat) (xs : List Nat) (hc : xs.length < 1 ∨ 63 < xs.length) (w : World) (ht : TabW w) :
    Calls Tryd.prog 13 #[.slice ad xs.length cp] w fun e w' => e = .returned (.bool true) ∧ Below w.heap.size w w' := by
  have HT := hide ht
  clear ht
  generalize xs.length = n at *
  rcases hc with h | h
  · have h1 : (n : Int) < 1 := by omega
    clear h
    go_enter Tryd.func13, Tryd.ntmps13
    go_wp2_with fail
    refine (llive_any _ HT.out).mono ?_
    rintro e w1 ⟨rfl, hb⟩
    go_wp2_with fail
    go_ret
    exact ⟨rfl, hb⟩
  · have h1 : ¬ (n : Int) < 1 := by omega
    have h2 : (63 : Int) < n := by omega
    clear h
    go_enter Tryd.func13, Tryd.ntmps13
    go_wp2_with fail
    refine (llive_any _ HT.out).mono ?_
    rintro e w1 ⟨rfl, hb⟩
    go_wp2_with fail
    go_ret
    exact ⟨rfl, hb⟩
theorem grows_wrong (ad : Option Addr) (cp : Nat) (xs : List Nat) (hn : 1 ≤ xs.length ∧ xs.length ≤ 63) (hx : ¬ ∀ i, xs.getD i 0 ≤ 1) (w : World) (hr : RowA w ad xs) (ht : TabW w) :
    Calls Tryd.prog 13 #[.slice ad xs.length cp] w fun e w' => e = .returned (.bool true) ∧ Below w.heap.size w w' := by
  have HT := hide ht
  have HN := hide (right_no ad cp xs (by omega) hx w hr)
  have h1 : ¬ (xs.length : Int) < 1 := by omega
  have h2 : ¬ (63 : Int) < xs.length := by omega
  clear ht hx hr
  go_enter Tryd.func13, Tryd.ntmps13
  go_wp2_with fail
  refine HN.out.mono ?_
  rintro e w' ⟨rfl, rfl⟩
  go_wp2_with fail
  refine (llive_any _ HT.out).mono ?_
  rintro e w1 ⟨rfl, hb⟩
  go_wp2_with fail
  go_ret
  exact ⟨rfl, hb⟩
set_option maxHeartbeats 2000000 in
theorem grows_good (ad : Option Addr) (cp n : Nat) (xs : List Nat) (hlen : xs.length = n + 1) (hn : n + 1 ≤ 63) (hcp : xs.length ≤ cp) (hx : ∀ i, xs.getD i 0 ≤ 1) (w : World) (hr : RowA w ad xs) (ht : TabW w) :
    Calls Tryd.prog 13 #[.slice ad xs.length cp] w fun e w' => e = .returned (.bool true) ∧ Below w.heap.size w w' := by
  have HT := hide ht
  have hxt : ∀ i, (xs.take n).getD i 0 ≤ 1 := fun i => by
    have := hx i
    rw [List.getD_eq_getElem?_getD, List.getElem?_take]
    split
    · rwa [List.getD_eq_getElem?_getD] at this
    · simp
  have htl : (xs.take n).length = n := by rw [List.length_take]; omega
  obtain ⟨lb, hinv⟩ := fin_inv (rowN xs) (n + 1)
  have hLle := run_le (rowN xs) (n + 1)
  have hMle := run_le (rowN (xs.take n)) n
  have HM := hide (fun (w : World) (hr : RowA w ad xs) => makes_ok ad cp xs (run (rowN xs) (n + 1)).L (fin (rowN xs) (n + 1)) (by omega) (by omega) hx hinv.odd hinv.deg (fun k h1 h2 => hinv.zero k h1 (by omega)) w hr)
  have HRY := hide (right_yes ad cp xs (by omega) (fun i _ => hx i))
  have HO1 := hide (fun w hr => own_any ad cp xs (by omega) w hr)
  have HO2 := hide (fun w hr => own_n ad cp n (xs.take n) htl (by omega) w hr)
  have HS1 := hide (fun ad cp w hr => shortest_n ad cp xs.length xs rfl (by omega) hx w hr)
  have HS2 := hide (fun ad cp w hr => shortest_n ad cp n (xs.take n) htl (by omega) hxt w hr)
  have hg := Gf2.BM.grows xs n
  rw [hlen] at HS1
  generalize (run (rowN xs) (n + 1)).L = N at *
  generalize (run (rowN (xs.take n)) n).L = M at *
  generalize fin (rowN xs) (n + 1) = C at *
  generalize fin (rowN (xs.take n)) n = D at *
  have HX := hide hr
  have HXT := hide (hr.take n)
  rw [hlen] at HRY HO1 HM hcp ⊢
  have h1 : ¬ ((n : Int) + 1) < 1 := by omega
  have h2 : ¬ (63 : Int) < (n : Int) + 1 := by omega
  have hcp2 : (n : Int) ≤ cp := by omega
  clear hinv hlen hx hr ht hxt htl
  generalize hxt : xs.take n = xt at *
  clear hxt
  go_enter Tryd.func13, Tryd.ntmps13
  go_wp2_with fail
  refine (HRY.out _ HX.out).mono ?_
  rintro e w' ⟨rfl, rfl⟩
  go_wp2_with fail
  refine (HO1.out _ HX.out).mono ?_
  rintro e w1 ⟨L1, c1, rfl, ho1, hb1⟩
  go_wp2_with fail
  refine (HS1.out _ _ _ ho1.rowx).mono ?_
  rintro e w' ⟨rfl, rfl⟩
  go_wp2_with fail
  refine (HO2.out _ (HXT.out.below hb1)).mono ?_
  rintro e w2 ⟨L2, c2, rfl, ho2, hb2⟩
  go_wp2_with fail
  refine (HS2.out _ _ _ ho2.rowx).mono ?_
  rintro e w' ⟨rfl, rfl⟩
  have HB2 := hide (hb1.trans (hb2.mono hb1.size))
  go_wp2_with fail
  refine (num_any _ _).mono ?_
  rintro e w' ⟨rfl, rfl⟩
  go_wp2_with fail
  refine (num_any _ _).mono ?_
  rintro e w' ⟨rfl, rfl⟩
  go_wp2_with fail
  refine (HM.out _ (HX.out.below HB2.out)).mono ?_
  rintro e w' ⟨rfl, rfl⟩
  have hNM : ¬ (N : Int) < M := by omega
  have hM0 : ¬ (M : Int) < 0 := by omega
  have HL := hide (llive_any w2 (HT.out.below HB2.out))
  have hsub : IntKind.i64.wrap ((n : Int) + 1 - M) = (n : Int) + 1 - M := IntWalk.i64_in _ ⟨by omega, by omega⟩
  by_cases he : N = M
  · have hq : ((N : Int) == (M : Int)) = true := by rw [beq_iff_eq]; omega
    clear hg he
    go_wp2_with fail
    refine HL.out.mono ?_
    rintro e w3 ⟨rfl, hb3⟩
    go_wp2_with fail
    go_ret
    exact ⟨rfl, HB2.out.trans (hb3.mono HB2.out.size)⟩
  · have hq : ((N : Int) == (M : Int)) = false := by rw [beq_eq_false_iff_ne]; omega
    have hq2 : ((N : Int) == (n : Int) + 1 - M) = true := by rw [beq_iff_eq]; omega
    clear hg he
    go_wp2_with fail
    refine HL.out.mono ?_
    rintro e w3 ⟨rfl, hb3⟩
    go_wp2_with fail
    go_ret
    exact ⟨rfl, HB2.out.trans (hb3.mono HB2.out.size)⟩
theorem law_grows (ad : Option Addr) (cp : Nat) (xs : List Nat) (hcp : xs.length ≤ cp) (w : World) (hr : RowA w ad xs) (ht : TabW w) :
    Calls Tryd.prog 13 #[.slice ad xs.length cp] w fun e w' => e = .returned (.bool true) ∧ Below w.heap.size w w' := by
  by_cases h : xs.length < 1 ∨ 63 < xs.length
  · exact grows_small ad cp xs h w ht
  · by_cases hx : ∀ i, xs.getD i 0 ≤ 1
    · exact grows_good ad cp (xs.length - 1) xs (by omega) (by omega) hcp hx w hr ht
    · exact grows_wrong ad cp xs (by omega) hx w hr ht
end Go.Proofs.YtknkkoemghceeaaDoor
