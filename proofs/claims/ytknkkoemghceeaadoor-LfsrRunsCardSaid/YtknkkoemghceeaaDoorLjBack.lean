/- The law LfsrBack, walked: it returns true. -/
import Derived.Test.YtknkkoemghceeaaDoorRows
import Derived.Test.YtknkkoemghceeaaDoorLfLive
import Derived.Test.YtknkkoemghceeaaDoorLfTurn
import Derived.Test.YtknkkoemghceeaaDoorR4Check
import Derived.Deep.RegionHeld3
namespace Go.Proofs.YtknkkoemghceeaaDoor
open Go.RowKit

theorem lturn_any (n T S : Nat) (hg : GoodL n T S) (L : Int) (ad : Option Addr) (cp : Nat) (xs : List Nat) (hl : xs.length ≤ 140737488351232) (h8 : ∀ i, xs.getD i 0 ≤ 255) (w : World) (hr : RowA w ad xs) :
    Calls Tryd.prog 44 #[.agg #[.int .i64 n, .int .u64 T, .int .u64 S], .int .i64 L, .slice ad xs.length cp] w fun e w' => ∃ v c, e = .returned (.tuple #[v, .int .i64 c]) ∧
      ((c = 0 ∧ ∃ l : Nat, L = l ∧ (2 ≤ l ∧ l ≤ 16) ∧ (∀ i, i < xs.length → xs.getD i 0 < l) ∧ ∃ ad' c', v = .slice ad' xs.length c' ∧ RowA w' ad' (turnL n T S l xs)) ∨ c ≠ 0) ∧ Below w.heap.size w w' := by
  by_cases hL : L < 2 ∨ 16 < L
  · refine (lturn_arg n T S hg L hL ad xs.length cp w).mono ?_
    rintro e w' ⟨rfl, hb⟩
    exact ⟨_, 1, rfl, .inr (by decide), hb⟩
  · obtain ⟨l, rfl⟩ : ∃ l : Nat, L = l := ⟨L.toNat, by omega⟩
    have hl2 : 2 ≤ l ∧ l ≤ 16 := by omega
    by_cases hx : ∀ i, i < xs.length → xs.getD i 0 < l
    · refine (lturn_ok n T S l hg hl2 ad cp xs hl hx w hr).mono ?_
      rintro e w' ⟨v, rfl, ho, hb⟩
      obtain ⟨ad', c', e', hr'⟩ := ho.row
      rw [turnL_length] at e'
      exact ⟨_, 0, rfl, .inl ⟨rfl, l, rfl, hl2, hx, ad', c', e', hr'⟩, hb⟩
    · refine (lturn_err n T S l hg hl2 ad cp xs hl h8 hx w hr).mono ?_
      rintro e w' ⟨rfl, hb⟩
      exact ⟨_, 91, rfl, .inr (by decide), hb⟩
theorem lwhiten_any (n T S : Nat) (hg : GoodL n T S) (ad : Option Addr) (cp : Nat) (xs : List Nat) (hl : xs.length ≤ 140737488351232) (w : World) (hr : RowA w ad xs) :
    Calls Tryd.prog 41 #[.agg #[.int .i64 n, .int .u64 T, .int .u64 S], .slice ad xs.length cp] w fun e w' => ∃ v c, e = .returned (.tuple #[v, .int .i64 c]) ∧
      ((c = 0 ∧ (∀ i, i < xs.length → xs.getD i 0 ≤ 1) ∧ OwnB w' w.heap.size v (whiteL n T S xs)) ∨ (c ≠ 0 ∧ ¬ ∀ i, i < xs.length → xs.getD i 0 ≤ 1)) ∧ Below w.heap.size w w' := by
  by_cases hx : ∀ i, i < xs.length → xs.getD i 0 ≤ 1
  · refine (lwhiten_ok n T S hg ad cp xs hl hx w hr).mono ?_
    rintro e w' ⟨v, rfl, ho, hb⟩
    exact ⟨_, 0, rfl, .inl ⟨rfl, hx, ho⟩, hb⟩
  · refine (lwhiten_err n T S hg ad cp xs hl hx w hr).mono ?_
    rintro e w' ⟨rfl, hb⟩
    exact ⟨_, 10, rfl, .inr ⟨by decide, hx⟩, hb⟩
set_option maxHeartbeats 400000 in
theorem right_no (ad : Option Addr) (cp : Nat) (xs : List Nat) (hl : xs.length ≤ 140737488351232) (hx : ¬ ∀ i, i < xs.length → xs.getD i 0 ≤ 1) (w : World) (hr : RowA w ad xs) :
    Calls Tryd.prog 46 #[.slice ad xs.length cp] w fun e w' => e = .returned (.bool false) ∧ w = w' := by
  obtain ⟨j, hj, hjb, hjo⟩ := first_bad hx
  have HO := hide hjo
  have HR := hide hr
  clear hx hjo hr
  go_enter Tryd.func46, Tryd.ntmps46
  go_wp2_with fail
  go_loop [3] (fun i => ∃ k : Nat, k ≤ j ∧ i = .int .i64 k) (fun i => xs.length - (intOf i).toNat)
  case atStart => exact ⟨0, by omega, rfl⟩
  case round =>
    obtain ⟨k, hk, rfl⟩ := hrel
    obtain ⟨b, off, rfl, _, hc⟩ := HR.out.at_ (i := k) (by omega)
    have hlt : (k : Int) < xs.length := by omega
    by_cases he : k = j
    · subst he
      generalize xs.getD k 0 = y at *
      go_wp2_with fail
      go_ret
      exact ⟨rfl, rfl⟩
    · have h1 := HO.out k (by omega)
      generalize xs.getD k 0 = y at *
      go_wp2_with fail
      go_round
      case rel => exact ⟨k + 1, by omega, by simp⟩
      case measure => simp [intOf]; omega
set_option maxHeartbeats 400000 in
theorem ljback_bad (D : Int) (T S : Nat) (L : Int) (ad : Option Addr) (n cp : Nat) (hT : T ≤ 18446744073709551615) (hS : S ≤ 18446744073709551615) (hne : lchk D T S ≠ 0) (w : World) (ht : TabW w) :
    Calls Tryd.prog 11 #[.agg #[.int .i64 D, .int .u64 T, .int .u64 S], .int .i64 L, .slice ad n cp] w fun e w' => e = .returned (.bool true) ∧ Below w.heap.size w w' := by
  have HC := hide (r4check_any D T S hT hS)
  have HL := hide (fun u (h : Below w.heap.size w u) => llive_any u (ht.below h))
  have hb := nzBne hne
  generalize lchk D T S = cf at *
  clear hne ht
  go_enter Tryd.func11, Tryd.ntmps11
  go_wp2_with fail
  refine (HC.out _).mono ?_
  rintro e w1 ⟨rfl, hb1⟩
  go_wp2_with fail
  refine (HL.out _ (below_one hb1)).mono ?_
  rintro e w2 ⟨rfl, hb2⟩
  go_wp2_with fail
  go_ret
  exact ⟨rfl, below_then (below_one hb1) hb2⟩
set_option maxRecDepth 100000 in
set_option maxHeartbeats 2000000 in
theorem ljback_good (n T S : Nat) (hg : GoodL n T S) (L : Int) (ad : Option Addr) (cp : Nat) (xs : List Nat) (hl : xs.length ≤ 140737488351232) (h8 : ∀ i, xs.getD i 0 ≤ 255) (w : World) (hr : RowA w ad xs) (ht : TabW w) :
    Calls Tryd.prog 11 #[.agg #[.int .i64 n, .int .u64 T, .int .u64 S], .int .i64 L, .slice ad xs.length cp] w fun e w' => e = .returned (.bool true) ∧ Below w.heap.size w w' := by
  have HC := hide (r4check_any n T S (by have := hg.small; omega) (by have := hg.small; omega))
  rw [lchk_good hg] at HC
  have HL := hide (fun u (h : Below w.heap.size w u) => llive_any u (ht.below h))
  have HX := hide hr
  have HO := hide (fun u (h : Below w.heap.size w u) => own_any ad cp xs hl u (hr.below h))
  have HT := hide (fun ad cp u (h : RowA u ad xs) => lturn_any n T S hg L ad cp xs hl h8 u h)
  have HW := hide (fun ad cp u (h : RowA u ad xs) => lwhiten_any n T S hg ad cp xs hl u h)
  have HG := hide hg
  have H8 := hide h8
  clear hr ht hg h8
  go_enter Tryd.func11, Tryd.ntmps11
  go_wp2_with fail
  refine (HC.out _).mono ?_
  rintro e w1 ⟨rfl, hb1⟩
  have hr1 : RegL w1 w.heap.size n T S := ⟨_, (hb1.block w.heap.size (by simp)).trans (heap_alloc_new w _)⟩
  have hl1 := hr1.lt
  have HB1 := hide (below_one hb1)
  have HR1 := hide hr1
  have HU := hide fun (u : World) (hb : Below w1.heap.size w1 u) => (show u.cell? ⟨w.heap.size, 0, none⟩ = some (.int .i64 n) ∧ u.cell? ⟨w.heap.size, 1, none⟩ = some (.int .u64 T) ∧ u.cell? ⟨w.heap.size, 2, none⟩ = some (.int .u64 S) from by
    have := (hr1.below hb hl1).parts; exact ⟨this.2.1, this.2.2.1, this.2.2.2.1⟩)
  clear hr1 hb1
  obtain ⟨s0, s1, s2⟩ := HU.out w1 (Below.refl _ _)
  go_wp2_with fail
  go_region_held3 (fun u => u.cell? ⟨w.heap.size, 0, none⟩ = some (.int .i64 n) ∧ u.cell? ⟨w.heap.size, 1, none⟩ = some (.int .u64 T) ∧ u.cell? ⟨w.heap.size, 2, none⟩ = some (.int .u64 S))
    (first | exact HU.out _ (Below.refl _ _).drew | exact HU.out _ (below_then (Below.refl _ _).drew hbo) | exact HU.out _ hbo | exact HU.out _ (below_then (below_then (Below.refl _ _).drew hbo) hbe) | exact HU.out _ (below_then hbo hbe))
    ((first
      | (go_at_call 40; refine (HO.out _ HB1.out.drew).mono ?_; rintro e w2 ⟨L2, cl, rfl, hlo, hbo⟩)
      | (go_at_call 44; refine (HT.out _ _ _ hlo.rowx).mono ?_; rintro e w3 ⟨v3, c3, rfl, ho3, hbe⟩)))
  have HD3 := hide (below_then (below_then (Below.refl w1.heap.size w1).drew hbo) hbe)
  have HB3 := hide (below_then HB1.out HD3.out)
  have HO3 := hide ho3
  clear hlo hbo hbe ho3 s0 s1 s2
  obtain ⟨s0, s1, s2⟩ := HU.out _ HD3.out
  go_wp2_with fail
  refine (num_any _ _).mono ?_
  rintro e w' ⟨rfl, rfl⟩
  go_upto_if 29 with fail
  go_cut [6] (fun v6 wx => v6 = .bool false ∧ Hid (Below w1.heap.size w1 wx))
  case first =>
    rcases HO3.out with ⟨rfl, l, rfl, hl2, hx, ad4, c4, rfl, r4⟩ | hne
    · skip
      have HT2 := hide (fun u (h : RowA u ad4 (turnL n T S l xs)) => lturn_ok n T S l HG.out hl2 ad4 c4 (turnL n T S l xs) (by rw [turnL_length]; exact hl) (turnL_lt n T S l xs hx) u h)
      rw [turnL_back n T S l xs hx, turnL_length] at HT2
      have HR4 := hide r4
      clear hx r4 HO3
      go_wp2_with fail
      refine (HT2.out _ HR4.out).mono ?_
      rintro e w5 ⟨v5, rfl, ho5, hb5⟩
      obtain ⟨ad5, c5, rfl, r5⟩ := ho5.row
      have HR5 := hide r5
      have HX5 := hide (HX.out.below (below_then HB3.out hb5))
      have HD5 := hide (below_then HD3.out hb5)
      clear ho5 r5 hb5
      go_wp2_with fail
      refine (num_any _ _).mono ?_
      rintro e w' ⟨rfl, rfl⟩
      go_wp2_with fail
      refine (same_yes _ _ _ _ _ _ xs rfl rfl _ HR5.out HX5.out).mono ?_
      rintro e w' ⟨rfl, rfl⟩
      go_wp2_with fail
      go_meet
      case rel => exact ⟨rfl, HD5⟩
    · have hq := nzBeq hne
      have hq2 := nzBne hne
      clear HO3
      go_wp2_with fail
      go_meet
      case rel => exact ⟨rfl, HD3⟩
  case rest =>
    obtain ⟨rfl, hD⟩ := hcut
    generalize wc = w4 at *
    clear HD3 HB3 HO3 s0 s1 s2
    obtain ⟨s0, s1, s2⟩ := HU.out _ hD.out
    have HB4 := hide (below_then HB1.out hD.out)
    go_wp2_with fail
    go_region_held3 (fun u => u.cell? ⟨w.heap.size, 0, none⟩ = some (.int .i64 n) ∧ u.cell? ⟨w.heap.size, 1, none⟩ = some (.int .u64 T) ∧ u.cell? ⟨w.heap.size, 2, none⟩ = some (.int .u64 S))
      (first | exact HU.out _ hD.out.drew | exact HU.out _ (below_then hD.out.drew hbo) | exact HU.out _ (below_then hD.out hbo) | exact HU.out _ (below_then (below_then hD.out.drew hbo) hbe) | exact HU.out _ (below_then (below_then hD.out hbo) hbe))
      ((first
        | (go_at_call 40; refine (HO.out _ HB4.out.drew).mono ?_; rintro e w5 ⟨L2, cl, rfl, hlo, hbo⟩)
        | (go_at_call 41; refine (HW.out _ _ _ hlo.rowx).mono ?_; rintro e w6 ⟨v6, c6, rfl, ho6, hbe⟩)))
    have HD6 := hide (below_then (below_then hD.out.drew hbo) hbe)
    have HB6 := hide (below_then HB1.out HD6.out)
    clear hlo hbo hbe s0 s1 s2
    obtain ⟨s0, s1, s2⟩ := HU.out _ HD6.out
    go_wp2_with fail
    refine (num_any _ _).mono ?_
    rintro e w' ⟨rfl, rfl⟩
    rcases ho6 with ⟨rfl, hx, ho⟩ | ⟨hne, hx⟩
    · obtain ⟨ad7, c7, rfl, r7⟩ := ho.row
      rw [whiteL_length]
      have HW2 := hide (fun u (h : RowA u ad7 (whiteL n T S xs)) => lwhiten_ok n T S HG.out ad7 c7 (whiteL n T S xs) (by rw [whiteL_length]; exact hl) (whiteL_le n T S xs hx) u h)
      rw [whiteL_back n T S xs, whiteL_length] at HW2
      have HR7 := hide r7
      clear ho hx r7
      go_wp2_with fail
      refine (HW2.out _ HR7.out).mono ?_
      rintro e w8 ⟨v8, rfl, ho8, hb8⟩
      obtain ⟨ad8, c8, rfl, r8⟩ := ho8.row
      have HR8 := hide r8
      have HB8 := hide (below_then HB6.out hb8)
      have HX8 := hide (HX.out.below HB8.out)
      clear ho8 r8 hb8
      go_wp2_with fail
      refine (num_any _ _).mono ?_
      rintro e w' ⟨rfl, rfl⟩
      go_wp2_with fail
      refine (same_yes _ _ _ _ _ _ xs rfl rfl _ HR8.out HX8.out).mono ?_
      rintro e w' ⟨rfl, rfl⟩
      go_wp2_with fail
      refine (HL.out _ HB8.out).mono ?_
      rintro e w9 ⟨rfl, hb9⟩
      go_wp2_with fail
      go_ret
      exact ⟨rfl, below_then HB8.out hb9⟩
    · have hq := nzBeq hne
      have hq2 := nzBne hne
      have HN := hide (right_no ad cp xs hl hx w6 (HX.out.below HB6.out))
      clear hx
      go_wp2_with fail
      refine HN.out.mono ?_
      rintro e w' ⟨rfl, rfl⟩
      go_wp2_with fail
      refine (HL.out _ HB6.out).mono ?_
      rintro e w9 ⟨rfl, hb9⟩
      go_wp2_with fail
      go_ret
      exact ⟨rfl, below_then HB6.out hb9⟩
theorem law_back (D : Int) (T S : Nat) (L : Int) (ad : Option Addr) (cp : Nat) (xs : List Nat) (hT : T ≤ 18446744073709551615) (hS : S ≤ 18446744073709551615) (hl : xs.length ≤ 140737488351232) (h8 : ∀ i, i < xs.length → xs.getD i 0 ≤ 255) (w : World) (hr : RowA w ad xs) (ht : TabW w) :
    Calls Tryd.prog 11 #[.agg #[.int .i64 D, .int .u64 T, .int .u64 S], .int .i64 L, .slice ad xs.length cp] w fun e w' => e = .returned (.bool true) ∧ Below w.heap.size w w' := by
  by_cases h : lchk D T S = 0
  · obtain ⟨n, rfl, hg⟩ := lchk_zero h
    refine ljback_good n T S hg L ad cp xs hl (fun i => ?_) w hr ht
    by_cases hi : i < xs.length
    · exact h8 i hi
    · simp [List.getD, List.getElem?_eq_none (Nat.le_of_not_lt hi)]
  · exact ljback_bad D T S L ad xs.length cp hT hS h w ht
end Go.Proofs.YtknkkoemghceeaaDoor
