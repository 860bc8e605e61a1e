/- The law LfsrTurns, walked: it returns true. -/
import Derived.Test.YtknkkoemghceeaaDoorRows
import Derived.Test.YtknkkoemghceeaaDoorLfLive
import Derived.Test.YtknkkoemghceeaaDoorR4Turn
import Derived.Test.YtknkkoemghceeaaDoorApart4W
import Derived.Test.YtknkkoemghceeaaDoorThree
namespace Go.Proofs.YtknkkoemghceeaaDoor
open Go.RowKit

set_option maxRecDepth 100000 in
set_option maxHeartbeats 4000000 in
theorem twt_core (D : Int) (T S : Nat) (L : Int) (xs R : List Nat) (c : Int) (hR : R.length + 64 ≤ 140737488355328) (hl : xs.length ≤ 140737488351232)
    (h1 : ∀ u ad cp, RowA u ad xs → Calls Tryd.prog 44 #[.agg #[.int .i64 D, .int .u64 T, .int .u64 S], .int .i64 L, .slice ad xs.length cp] u fun e u' => ∃ v, e = .returned (.tuple #[v, .int .i64 c]) ∧ OwnB u' u.heap.size v R ∧ Below u.heap.size u u')
    (h2 : ∀ u ad cp, RowA u ad xs → Calls Tryd.prog 45 #[.agg #[.int .i64 D, .int .u64 T, .int .u64 S], .int .i64 L, .slice ad xs.length cp] u fun e u' => ∃ v, e = .returned (.tuple #[v, .int .i64 c]) ∧ OwnB u' u.heap.size v R ∧ Below u.heap.size u u')
    (ad : Option Addr) (cp : Nat) (w : World) (hr : RowA w ad xs) (ht : TabW w) :
    Calls Tryd.prog 10 #[.agg #[.int .i64 D, .int .u64 T, .int .u64 S], .int .i64 L, .slice ad xs.length cp] w fun e w' => e = .returned (.bool true) ∧ Below w.heap.size w w' := by
  have H1 := hide h1
  have H2 := hide h2
  have HL := hide (fun u (h : Below w.heap.size w u) => llive_any u (ht.below h))
  have HX := hide hr
  have HO := hide (fun u (h : RowA u ad xs) => own_any ad cp xs hl u h)
  clear h1 h2 hr ht
  go_enter Tryd.func10, Tryd.ntmps10
  go_wp2_with fail
  refine (HO.out _ (HX.out.alloc _)).mono ?_
  rintro e w1 ⟨L0, cl, rfl, ho1, hb1⟩
  have hr1 : RegL w1 w.heap.size D T S := ⟨_, (hb1.block w.heap.size (by simp)).trans (heap_alloc_new w _)⟩
  have HR1 := hide hr1
  have HO1 := hide ho1
  have HG1 := hide (show Oat w1 (w.heap.size + 1) w1.heap.size (.slice (some ⟨L0, 0, none⟩) xs.length cl) xs from Oat.new (by have := OwnB.prefix ho1 rfl; simpa using this))
  have HB1 := hide (below_one hb1)
  obtain ⟨hl1, q0, q1, q2, -⟩ := hr1.parts
  clear hr1 ho1 hb1
  go_wp2_with fail
  refine (H1.out _ _ _ HO1.out.rowx).mono ?_
  rintro e w2 ⟨va, rfl, hoa, hb2⟩
  have z2 := hb2.size
  obtain ⟨aa, ca, rfl, ra⟩ := hoa.row
  have HR2 := hide (HR1.out.below hb2 hl1)
  have HO2 := hide (HO1.out.below hb2)
  have HG2 := hide (HG1.out.below hb2)
  have HB2 := hide (below_then HB1.out hb2)
  have HA2 := hide (Oat.new hoa)
  have RA2 := hide ra
  have hl2 : w.heap.size < w2.heap.size := by omega
  clear hoa hb2 ra q0 q1 q2
  obtain ⟨_, q0, q1, q2, -⟩ := HR2.out.parts
  go_wp2_with fail
  refine (H1.out _ _ _ HO2.out.rowx).mono ?_
  rintro e w3 ⟨vb, rfl, hob, hb3⟩
  have z3 := hb3.size
  obtain ⟨ab, cb, rfl, rb⟩ := hob.row
  have HR3 := hide (HR2.out.below hb3 hl2)
  have HO3 := hide (HO2.out.below hb3)
  have HG3 := hide (HG2.out.below hb3)
  have HB3 := hide (below_then HB2.out hb3)
  have HA3 := hide (HA2.out.below hb3)
  have RA3 := hide (RA2.out.below hb3)
  have HBB3 := hide (Oat.new hob)
  have RB3 := hide rb
  have hl3 : w.heap.size < w3.heap.size := by omega
  clear hob hb3 rb q0 q1 q2
  obtain ⟨_, q0, q1, q2, -⟩ := HR3.out.parts
  go_wp2_with fail
  refine (H2.out _ _ _ (HX.out.below HB3.out)).mono ?_
  rintro e w4 ⟨vx, rfl, hox, hb4⟩
  have z4 := hb4.size
  obtain ⟨ax, cx, rfl, rx⟩ := hox.row
  have HO4 := hide (HO3.out.below hb4)
  have HG4 := hide (HG3.out.below hb4)
  have HB4 := hide (below_then HB3.out hb4)
  have HA4 := hide (HA3.out.below hb4)
  have RA4 := hide (RA3.out.below hb4)
  have HBB4 := hide (HBB3.out.below hb4)
  have RB4 := hide (RB3.out.below hb4)
  have RX4 := hide rx
  have HX4 := hide (HX.out.below HB4.out)
  have hl4 : w.heap.size < w4.heap.size := by omega
  have h3 := three_own (B := w.heap.size) HG4.out HA4.out HBB4.out (by omega) (by omega) (by omega) 25
  have HAP := hide (apart4_any w.heap.size w4.heap.size 3 3 _ _ (by omega) (fun i hi => by
    rcases three_cases hi with rfl | rfl | rfl <;> simp [three] <;> omega) _ h3)
  clear hox hb4 rx q0 q1 q2 h3
  go_wp2_with fail
  refine (num_any _ _).mono ?_
  rintro e w' ⟨rfl, rfl⟩
  go_wp2_with fail
  refine (same_yes _ _ _ _ _ _ R rfl rfl _ RA4.out RX4.out).mono ?_
  rintro e w' ⟨rfl, rfl⟩
  go_wp2_with fail
  refine (same_yes _ _ _ _ _ _ R rfl rfl _ RB4.out RX4.out).mono ?_
  rintro e w' ⟨rfl, rfl⟩
  go_wp2_with fail
  refine (kept_any _ _ _ _ _ xs hl _ HO4.out HX4.out).mono ?_
  rintro e w' ⟨rfl, rfl⟩
  go_wp2_with fail
  refine HAP.out.mono ?_
  rintro e w5 ⟨rfl, hb5⟩
  have HB5 := hide ((HB4.out.alloc HB4.out.size (.cells #[.slice aa R.length ca, .slice ab R.length cb, .slice (some ⟨L0, 0, none⟩) xs.length cl] 25)).trans hb5)
  clear hb5
  go_wp2_with fail
  refine (HL.out _ HB5.out).mono ?_
  rintro e w6 ⟨rfl, hb6⟩
  go_wp2_with fail
  go_ret
  exact ⟨rfl, below_then HB5.out hb6⟩
theorem law_turns (D : Int) (T S : Nat) (L : Int) (ad : Option Addr) (cp : Nat) (xs : List Nat) (hT : T ≤ 18446744073709551615) (hS : S ≤ 18446744073709551615) (hl : xs.length ≤ 140737488351232) (h80 : ∀ i, i < xs.length → xs.getD i 0 ≤ 255) (w : World) (hr : RowA w ad xs) (ht : TabW w) :
    Calls Tryd.prog 10 #[.agg #[.int .i64 D, .int .u64 T, .int .u64 S], .int .i64 L, .slice ad xs.length cp] w fun e w' => e = .returned (.bool true) ∧ Below w.heap.size w w' := by
  have h8 : ∀ i, xs.getD i 0 ≤ 255 := fun i => by
    by_cases hi : i < xs.length
    · exact h80 i hi
    · simp [List.getD, List.getElem?_eq_none (Nat.le_of_not_lt hi)]
  by_cases h : lchk D T S = 0
  · obtain ⟨n, rfl, hg⟩ := lchk_zero h
    by_cases hL : L < 2 ∨ 16 < L
    · refine twt_core n T S L xs [] 1 (by simp) hl (fun u ad cp _ => (lturn_arg n T S hg L hL ad xs.length cp u).mono ?_) (fun u ad cp _ => (rturn_arg n T S hg L hL ad xs.length cp u).mono ?_) ad cp w hr ht <;>
        (rintro e u' ⟨rfl, hb⟩; exact ⟨_, rfl, OwnB.nil _ _, hb⟩)
    · obtain ⟨l, rfl⟩ : ∃ l : Nat, L = l := ⟨L.toNat, by omega⟩
      have hl2 : 2 ≤ l ∧ l ≤ 16 := by omega
      by_cases hx : ∀ i, i < xs.length → xs.getD i 0 < l
      · exact twt_core n T S l xs (turnL n T S l xs) 0 (by rw [turnL_length]; omega) hl (fun u ad cp h => lturn_ok n T S l hg hl2 ad cp xs hl hx u h) (fun u ad cp h => rturn_ok n T S l hg hl2 ad cp xs hl hx u h) ad cp w hr ht
      · refine twt_core n T S l xs [] 91 (by simp) hl (fun u ad cp h => (lturn_err n T S l hg hl2 ad cp xs hl h8 hx u h).mono ?_) (fun u ad cp h => (rturn_err n T S l hg hl2 ad cp xs hl h8 hx u h).mono ?_) ad cp w hr ht <;>
          (rintro e u' ⟨rfl, hb⟩; exact ⟨_, rfl, OwnB.nil _ _, hb⟩)
  · refine twt_core D T S L xs [] (lchk D T S) (by simp) hl (fun u ad cp _ => (lturn_bad D T S hT hS h L ad xs.length cp u).mono ?_) (fun u ad cp _ => (rturn_bad D T S hT hS h L ad xs.length cp u).mono ?_) ad cp w hr ht <;>
      (rintro e u' ⟨rfl, hb⟩; exact ⟨_, rfl, OwnB.nil _ _, hb⟩)
end Go.Proofs.YtknkkoemghceeaaDoor
