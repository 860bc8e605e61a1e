/- Levels and Hard, the program's and the document's, walked. -/
import Derived.Test.YtlbfndibgojbiaaRows
import Derived.Test.YtlbfndibgojbiaaMPred
import Derived.Test.YtlbfndibgojbiaaMB
namespace Go.Proofs.Ytlbfndibgojbiaa
open Go.RowKit
set_option linter.unusedVariables false

/-- symbols as levels -/
def levL (L : Nat) (xs : List Nat) : List Nat := (List.range xs.length).map fun k => xs.getD k 0 * (L - 1)
/-- levels as symbols -/
def hardL (L : Nat) (xs : List Nat) : List Nat := (List.range xs.length).map fun k => if L - 1 < 2 * xs.getD k 0 then 1 else 0
theorem levL_length (L : Nat) (xs : List Nat) : (levL L xs).length = xs.length := by simp [levL]
theorem hardL_length (L : Nat) (xs : List Nat) : (hardL L xs).length = xs.length := by simp [hardL]
theorem fillK_skip {f : Nat → Nat} {n k : Nat} (hk : k < n) (h0 : f k = 0) : fillK f n (k + 1) = fillK f n k := by
  unfold fillK
  have e : n - k = (n - (k + 1)) + 1 := by omega
  rw [e, List.replicate_succ, List.range_succ, List.map_append, List.append_assoc]
  simp [h0]
open Classical in
noncomputable def levE (L : Int) (xs : List Nat) : Int := if L < 2 ∨ 16 < L then 1 else if ¬ Bits xs then 10 else 0
open Classical in
noncomputable def levO (L : Int) (xs : List Nat) : List Nat := if levE L xs = 0 then levL L.toNat xs else []
open Classical in
noncomputable def hardE (L : Int) (xs : List Nat) : Int := if L < 2 ∨ 16 < L then 1 else if ¬ Lev L.toNat xs then 91 else 0
open Classical in
noncomputable def hardO (L : Int) (xs : List Nat) : List Nat := if hardE L xs = 0 then hardL L.toNat xs else []
section
variable {L : Int} {xs : List Nat}
theorem levE_arg (h : L < 2 ∨ 16 < L) : levE L xs = 1 := if_pos h
theorem levE_bit (h : ¬ (L < 2 ∨ 16 < L)) (h2 : ¬ Bits xs) : levE L xs = 10 := by unfold levE; rw [if_neg h, if_pos h2]
theorem levE_ok (h : ¬ (L < 2 ∨ 16 < L)) (h2 : Bits xs) : levE L xs = 0 := by unfold levE; rw [if_neg h, if_neg (by simpa using h2)]
theorem levO_none (h : levE L xs ≠ 0) : levO L xs = [] := if_neg h
theorem levO_some (h : levE L xs = 0) : levO L xs = levL L.toNat xs := if_pos h
theorem hardE_arg (h : L < 2 ∨ 16 < L) : hardE L xs = 1 := if_pos h
theorem hardE_lev (h : ¬ (L < 2 ∨ 16 < L)) (h2 : ¬ Lev L.toNat xs) : hardE L xs = 91 := by unfold hardE; rw [if_neg h, if_pos h2]
theorem hardE_ok (h : ¬ (L < 2 ∨ 16 < L)) (h2 : Lev L.toNat xs) : hardE L xs = 0 := by unfold hardE; rw [if_neg h, if_neg (by simpa using h2)]
theorem hardO_none (h : hardE L xs ≠ 0) : hardO L xs = [] := if_neg h
theorem hardO_some (h : hardE L xs = 0) : hardO L xs = hardL L.toNat xs := if_pos h
end
set_option maxRecDepth 100000 in
set_option maxHeartbeats 2000000 in
theorem mlevels_ok (L : Nat) (hL : 2 ≤ L ∧ L ≤ 16) (ad : Option Addr) (cap : Nat) (xs : List Nat) (hl : xs.length ≤ 140737488351232) (hb : Bits xs) (w : World) (hx : RowA w ad xs) :
    Calls Try.prog 22 #[.int .i64 L, .slice ad xs.length cap] w fun e w' => ∃ v, e = .returned (.tuple #[v, .int .i64 0]) ∧ OwnB w' w.heap.size v (levL L xs) ∧ Below w.heap.size w w' := by
  have HV := hide fun w hx => valid_yes ad cap xs hl hb w hx
  have HR := hide (mright_nil L hL)
  have HX := hide hx
  have HBI := hide hb
  obtain ⟨l1, l2⟩ := hL
  clear hx hb
  unfold levL
  go_enter Try.func22, Try.ntmps22
  go_wp2_with fail
  refine (HR.out _).mono ?_
  rintro e w' ⟨rfl, rfl⟩
  go_wp2_with fail
  refine (HV.out _ HX.out).mono ?_
  rintro e w' ⟨rfl, rfl⟩
  go_wp2_with (first
    | (at_make; refine wpList_makeB rfl _ _ rfl w.heap.size _ _ xs.length rfl rfl ?c1 ?c2 ?c3 ?c4 ?_)
    | go_in)
  case c1 => rfl
  case c2 => rfl
  case c3 => omega
  case c4 => exact Nat.le_refl _
  intro w2 hown2 hgrow2 hz2
  have HO2 := hide (show OwnB w2 w.heap.size (.slice (some ⟨w.heap.size, 0, none⟩) xs.length xs.length) (fillK (fun k => xs.getD k 0 * (L - 1)) xs.length 0) by rw [fillK_zero]; exact hown2)
  have HB2 := hide ((Below.refl w.heap.size w).grown hgrow2 (Nat.le_refl _) (fun k e => by cases e))
  clear hown2 hgrow2
  go_wp2_with fail
  go_loopw [23] (fun i u => ∃ k : Nat, k ≤ xs.length ∧ i = .int .i64 k ∧ Hid (OwnB u w.heap.size (.slice (some ⟨w.heap.size, 0, none⟩) xs.length xs.length) (fillK (fun k => xs.getD k 0 * (L - 1)) xs.length k)) ∧ Hid (Below w.heap.size w u)) (fun i _ => xs.length - (intOf i).toNat)
  case atStart => exact ⟨0, by omega, rfl, HO2, HB2⟩
  case round =>
    rename World => wr
    obtain ⟨k, hk, rfl, ho, hb⟩ := hrel
    clear HO2 HB2
    by_cases hlt : k < xs.length
    · obtain ⟨b, off, rfl, _, hc⟩ := (HX.out.below hb.out).at_ hlt
      have hy := HBI.out k hlt
      have HF := hide (fillK_set (f := (fun k => xs.getD k 0 * (L - 1))) hlt)
      have hcg := ho.out.cell (fillK_length hk).symm hlt
      have hfz := ho.out.frz (fillK_length hk).symm k
      have hin : (0 : Int) ≤ k := by omega
      have hin2 : (k : Int) < xs.length := by omega
      have hset := (ho.out.set (fillK_length hk).symm k (xs.getD k 0 * (L - 1))).1
      have hF : (fillK (fun k => xs.getD k 0 * (L - 1)) xs.length k).set k (xs.getD k 0 * (L - 1)) = fillK (fun k => xs.getD k 0 * (L - 1)) xs.length (k + 1) := HF.out
      rw [hF] at hset
      generalize xs.getD k 0 = y at *
      rcases (show y = 0 ∨ y = 1 by omega) with rfl | rfl
      · rw [show (((0 * (L - 1) : Nat)) : Int) = 0 by simp] at hset
        have HO4 := hide hset
        have HB4 := hide (hb.out.setCell (p := ⟨w.heap.size, k, none⟩) (Nat.le_refl _) (.int .u8 0))
        clear hset hF
        go_wp2_with fail
        go_roundw
        case rel => exact ⟨k + 1, by omega, by simp, HO4, HB4⟩
        case measure => simp [intOf]; omega
      · rw [show (((1 * (L - 1) : Nat)) : Int) = (L : Int) - 1 by omega] at hset
        have HO4 := hide hset
        have HB4 := hide (hb.out.setCell (p := ⟨w.heap.size, k, none⟩) (Nat.le_refl _) (.int .u8 ((L : Int) - 1)))
        clear hset hF
        go_wp2_with fail
        go_roundw
        case rel => exact ⟨k + 1, by omega, by simp, HO4, HB4⟩
        case measure => simp [intOf]; omega
    · obtain rfl : k = xs.length := by omega
      go_wp2_with fail
      go_ret2
      exact ⟨_, rfl, by have := ho.out; rwa [fillK_full] at this, hb.out⟩
set_option maxHeartbeats 2000000 in
theorem mlevels_any (L : Int) (ad : Option Addr) (cap : Nat) (xs : List Nat) (hl : xs.length ≤ 140737488351232) (w : World) (hx : RowA w ad xs) :
    Calls Try.prog 22 #[.int .i64 L, .slice ad xs.length cap] w fun e w' => ∃ v, e = .returned (.tuple #[v, .int .i64 (levE L xs)]) ∧ OwnB w' w.heap.size v (levO L xs) ∧ Below w.heap.size w w' := by
  by_cases h : L < 2 ∨ 16 < L
  · rw [levO_none (by rw [levE_arg h]; decide), levE_arg h]
    have HA := hide (mright_arg L h (.slice none 0 0))
    clear h
    go_enter Try.func22, Try.ntmps22
    go_wp2_with fail
    refine (HA.out _).mono ?_
    rintro e w' ⟨rfl, rfl⟩
    go_wp2_with fail
    go_ret2
    exact ⟨_, rfl, OwnB.nil _ _, Below.refl _ _⟩
  · obtain ⟨L, rfl⟩ : ∃ n : Nat, L = n := ⟨L.toNat, by omega⟩
    have hL : 2 ≤ L ∧ L ≤ 16 := by omega
    by_cases hb : Bits xs
    · rw [levO_some (levE_ok h hb), levE_ok h hb, Int.toNat_natCast]
      exact mlevels_ok L hL ad cap xs hl hb w hx
    · rw [levO_none (by rw [levE_bit h hb]; decide), levE_bit h hb]
      have HV := hide fun w hx => valid_no ad cap xs hl hb w hx
      have HX := hide hx
      have HR := hide (mright_nil L hL)
      obtain ⟨l1, l2⟩ := hL
      clear hx hb h
      go_enter Try.func22, Try.ntmps22
      go_wp2_with fail
      refine (HR.out _).mono ?_
      rintro e w' ⟨rfl, rfl⟩
      go_wp2_with fail
      refine (HV.out _ HX.out).mono ?_
      rintro e w' ⟨rfl, rfl⟩
      go_wp2_with fail
      go_ret2
      exact ⟨_, rfl, OwnB.nil _ _, Below.refl _ _⟩
set_option maxRecDepth 100000 in
set_option maxHeartbeats 2000000 in
theorem r25levels_ok (L : Nat) (hL : 2 ≤ L ∧ L ≤ 16) (ad : Option Addr) (cap : Nat) (xs : List Nat) (hl : xs.length ≤ 140737488351232) (hb : Bits xs) (w : World) (hx : RowA w ad xs) :
    Calls Try.prog 24 #[.int .i64 L, .slice ad xs.length cap] w fun e w' => ∃ v, e = .returned (.tuple #[v, .int .i64 0]) ∧ OwnB w' w.heap.size v (levL L xs) ∧ Below w.heap.size w w' := by
  have HV := hide fun w hx => r1valid_yes ad cap xs hl hb w hx
  have HX := hide hx
  have HBI := hide hb
  obtain ⟨l1, l2⟩ := hL
  clear hx hb
  have dl : decide ((L : Int) < 2) = false := decide_eq_false (by omega)
  have dh : decide ((16 : Int) < L) = false := decide_eq_false (by omega)
  unfold levL
  go_enter Try.func24, Try.ntmps24
  go_wp2_with fail
  refine (HV.out _ HX.out).mono ?_
  rintro e w' ⟨rfl, rfl⟩
  go_wp2_with (first
    | (at_make; refine wpList_makeB rfl _ _ rfl w.heap.size _ _ xs.length rfl rfl ?c1 ?c2 ?c3 ?c4 ?_)
    | go_in)
  case c1 => rfl
  case c2 => rfl
  case c3 => omega
  case c4 => exact Nat.le_refl _
  intro w2 hown2 hgrow2 hz2
  have HO2 := hide (show OwnB w2 w.heap.size (.slice (some ⟨w.heap.size, 0, none⟩) xs.length xs.length) (fillK (fun k => xs.getD k 0 * (L - 1)) xs.length 0) by rw [fillK_zero]; exact hown2)
  have HB2 := hide ((Below.refl w.heap.size w).grown hgrow2 (Nat.le_refl _) (fun k e => by cases e))
  clear hown2 hgrow2
  go_wp2_with fail
  go_loopw [7] (fun i u => ∃ k : Nat, k ≤ xs.length ∧ i = .int .i64 k ∧ Hid (OwnB u w.heap.size (.slice (some ⟨w.heap.size, 0, none⟩) xs.length xs.length) (fillK (fun k => xs.getD k 0 * (L - 1)) xs.length k)) ∧ Hid (Below w.heap.size w u)) (fun i _ => xs.length - (intOf i).toNat)
  case atStart => exact ⟨0, by omega, rfl, HO2, HB2⟩
  case round =>
    rename World => wr
    obtain ⟨k, hk, rfl, ho, hb⟩ := hrel
    clear HO2 HB2
    by_cases hlt : k < xs.length
    · obtain ⟨b, off, rfl, _, hc⟩ := (HX.out.below hb.out).at_ hlt
      have hy := HBI.out k hlt
      have HF := hide (fillK_set (f := (fun k => xs.getD k 0 * (L - 1))) hlt)
      have hcg := ho.out.cell (fillK_length hk).symm hlt
      have hfz := ho.out.frz (fillK_length hk).symm k
      have hin : (0 : Int) ≤ k := by omega
      have hin2 : (k : Int) < xs.length := by omega
      have hset := (ho.out.set (fillK_length hk).symm k (xs.getD k 0 * (L - 1))).1
      have hF : (fillK (fun k => xs.getD k 0 * (L - 1)) xs.length k).set k (xs.getD k 0 * (L - 1)) = fillK (fun k => xs.getD k 0 * (L - 1)) xs.length (k + 1) := HF.out
      rw [hF] at hset
      generalize xs.getD k 0 = y at *
      rcases (show y = 0 ∨ y = 1 by omega) with rfl | rfl
      · rw [show (((0 * (L - 1) : Nat)) : Int) = 0 by simp] at hset
        have HO4 := hide hset
        have HB4 := hide (hb.out.setCell (p := ⟨w.heap.size, k, none⟩) (Nat.le_refl _) (.int .u8 0))
        clear hset hF
        go_wp2_with fail
        go_roundw
        case rel => exact ⟨k + 1, by omega, by simp, HO4, HB4⟩
        case measure => simp [intOf]; omega
      · rw [show (((1 * (L - 1) : Nat)) : Int) = (L : Int) - 1 by omega] at hset
        have HO4 := hide hset
        have HB4 := hide (hb.out.setCell (p := ⟨w.heap.size, k, none⟩) (Nat.le_refl _) (.int .u8 ((L : Int) - 1)))
        clear hset hF
        go_wp2_with fail
        go_roundw
        case rel => exact ⟨k + 1, by omega, by simp, HO4, HB4⟩
        case measure => simp [intOf]; omega
    · obtain rfl : k = xs.length := by omega
      go_wp2_with fail
      go_ret2
      exact ⟨_, rfl, by have := ho.out; rwa [fillK_full] at this, hb.out⟩
set_option maxHeartbeats 2000000 in
theorem r25levels_any (L : Int) (ad : Option Addr) (cap : Nat) (xs : List Nat) (hl : xs.length ≤ 140737488351232) (w : World) (hx : RowA w ad xs) :
    Calls Try.prog 24 #[.int .i64 L, .slice ad xs.length cap] w fun e w' => ∃ v, e = .returned (.tuple #[v, .int .i64 (levE L xs)]) ∧ OwnB w' w.heap.size v (levO L xs) ∧ Below w.heap.size w w' := by
  by_cases h : L < 2 ∨ 16 < L
  · rw [levO_none (by rw [levE_arg h]; decide), levE_arg h]
    rcases h with h | h
    · go_enter Try.func24, Try.ntmps24
      go_wp2_with fail
      go_ret2
      exact ⟨_, rfl, OwnB.nil _ _, Below.refl _ _⟩
    · have e2 : ¬ L < 2 := by omega
      go_enter Try.func24, Try.ntmps24
      go_wp2_with fail
      go_ret2
      exact ⟨_, rfl, OwnB.nil _ _, Below.refl _ _⟩
  · obtain ⟨L, rfl⟩ : ∃ n : Nat, L = n := ⟨L.toNat, by omega⟩
    have hL : 2 ≤ L ∧ L ≤ 16 := by omega
    by_cases hb : Bits xs
    · rw [levO_some (levE_ok h hb), levE_ok h hb, Int.toNat_natCast]
      exact r25levels_ok L hL ad cap xs hl hb w hx
    · rw [levO_none (by rw [levE_bit h hb]; decide), levE_bit h hb]
      have HV := hide fun w hx => r1valid_no ad cap xs hl hb w hx
      have HX := hide hx
      obtain ⟨l1, l2⟩ := hL
      clear hx hb h
      have dl : decide ((L : Int) < 2) = false := decide_eq_false (by omega)
      have dh : decide ((16 : Int) < L) = false := decide_eq_false (by omega)
      go_enter Try.func24, Try.ntmps24
      go_wp2_with fail
      refine (HV.out _ HX.out).mono ?_
      rintro e w' ⟨rfl, rfl⟩
      go_wp2_with fail
      go_ret2
      exact ⟨_, rfl, OwnB.nil _ _, Below.refl _ _⟩
set_option maxRecDepth 100000 in
set_option maxHeartbeats 2000000 in
theorem mhard_ok (L : Nat) (hL : 2 ≤ L ∧ L ≤ 16) (ad : Option Addr) (cap : Nat) (xs : List Nat) (hl : xs.length ≤ 140737488351232) (hb : Lev L xs) (w : World) (hx : RowA w ad xs) :
    Calls Try.prog 23 #[.int .i64 L, .slice ad xs.length cap] w fun e w' => ∃ v, e = .returned (.tuple #[v, .int .i64 0]) ∧ OwnB w' w.heap.size v (hardL L xs) ∧ Below w.heap.size w w' := by
  have h8 : ∀ i, xs.getD i 0 ≤ 255 := fun i => by have := hb.all (by omega) i; omega
  have HV := hide fun w hx => mright_yes L hL ad cap xs hl h8 hb w hx
  clear h8
  have HX := hide hx
  have HBI := hide hb
  obtain ⟨l1, l2⟩ := hL
  clear hx hb
  unfold hardL
  go_enter Try.func23, Try.ntmps23
  go_wp2_with fail
  refine (HV.out _ HX.out).mono ?_
  rintro e w' ⟨rfl, rfl⟩
  go_wp2_with (first
    | (at_make; refine wpList_makeB rfl _ _ rfl w.heap.size _ _ xs.length rfl rfl ?c1 ?c2 ?c3 ?c4 ?_)
    | go_in)
  case c1 => rfl
  case c2 => rfl
  case c3 => omega
  case c4 => exact Nat.le_refl _
  intro w2 hown2 hgrow2 hz2
  have HO2 := hide (show OwnB w2 w.heap.size (.slice (some ⟨w.heap.size, 0, none⟩) xs.length xs.length) (fillK (fun k => if L - 1 < 2 * xs.getD k 0 then 1 else 0) xs.length 0) by rw [fillK_zero]; exact hown2)
  have HB2 := hide ((Below.refl w.heap.size w).grown hgrow2 (Nat.le_refl _) (fun k e => by cases e))
  clear hown2 hgrow2
  go_wp2_with fail
  go_loopw [21] (fun i u => ∃ k : Nat, k ≤ xs.length ∧ i = .int .i64 k ∧ Hid (OwnB u w.heap.size (.slice (some ⟨w.heap.size, 0, none⟩) xs.length xs.length) (fillK (fun k => if L - 1 < 2 * xs.getD k 0 then 1 else 0) xs.length k)) ∧ Hid (Below w.heap.size w u)) (fun i _ => xs.length - (intOf i).toNat)
  case atStart => exact ⟨0, by omega, rfl, HO2, HB2⟩
  case round =>
    rename World => wr
    obtain ⟨k, hk, rfl, ho, hb⟩ := hrel
    clear HO2 HB2
    by_cases hlt : k < xs.length
    · obtain ⟨b, off, rfl, _, hc⟩ := (HX.out.below hb.out).at_ hlt
      have hy := HBI.out k hlt
      have HF := hide (fillK_set (f := (fun k => if L - 1 < 2 * xs.getD k 0 then 1 else 0)) hlt)
      have HSK := hide (fillK_skip (f := (fun k => if L - 1 < 2 * xs.getD k 0 then 1 else 0)) hlt)
      have hcg := ho.out.cell (fillK_length hk).symm hlt
      have hfz := ho.out.frz (fillK_length hk).symm k
      have hin : (0 : Int) ≤ k := by omega
      have hin2 : (k : Int) < xs.length := by omega
      by_cases h1 : L - 1 < 2 * xs.getD k 0
      · have hset := (ho.out.set (fillK_length hk).symm k (1)).1
        have hF : (fillK (fun k => if L - 1 < 2 * xs.getD k 0 then 1 else 0) xs.length k).set k (1) = fillK (fun k => if L - 1 < 2 * xs.getD k 0 then 1 else 0) xs.length (k + 1) := by have := HF.out; rwa [if_pos h1] at this
        rw [hF] at hset
        have HO4 := hide hset
        have HB4 := hide (hb.out.setCell (p := ⟨w.heap.size, k, none⟩) (Nat.le_refl _) (.int .u8 1))
        clear hset hF
        generalize xs.getD k 0 = y at *
        have h2 : (L : Int) - 1 < 2 * y := by omega
        go_wp2_with fail
        go_roundw
        case rel => exact ⟨k + 1, by omega, by simp, HO4, HB4⟩
        case measure => simp [intOf]; omega
      · have hF := HSK.out (if_neg h1)
        have HO4 := hide (show OwnB wr w.heap.size (.slice (some ⟨w.heap.size, 0, none⟩) xs.length xs.length) (fillK (fun k => if L - 1 < 2 * xs.getD k 0 then 1 else 0) xs.length (k + 1)) by rw [hF]; exact ho.out)
        have HB4 := hb
        clear hF
        generalize xs.getD k 0 = y at *
        have h2 : ¬ (L : Int) - 1 < 2 * y := by omega
        go_wp2_with fail
        go_roundw
        case rel => exact ⟨k + 1, by omega, by simp, HO4, HB4⟩
        case measure => simp [intOf]; omega
    · obtain rfl : k = xs.length := by omega
      go_wp2_with fail
      go_ret2
      exact ⟨_, rfl, by have := ho.out; rwa [fillK_full] at this, hb.out⟩
set_option maxHeartbeats 2000000 in
theorem mhard_any (L : Int) (ad : Option Addr) (cap : Nat) (xs : List Nat) (hl : xs.length ≤ 140737488351232) (h8 : ∀ i, xs.getD i 0 ≤ 255) (w : World) (hx : RowA w ad xs) :
    Calls Try.prog 23 #[.int .i64 L, .slice ad xs.length cap] w fun e w' => ∃ v, e = .returned (.tuple #[v, .int .i64 (hardE L xs)]) ∧ OwnB w' w.heap.size v (hardO L xs) ∧ Below w.heap.size w w' := by
  by_cases h : L < 2 ∨ 16 < L
  · rw [hardO_none (by rw [hardE_arg h]; decide), hardE_arg h]
    have HA := hide (mright_arg L h (.slice ad xs.length cap))
    clear h
    go_enter Try.func23, Try.ntmps23
    go_wp2_with fail
    refine (HA.out _).mono ?_
    rintro e w' ⟨rfl, rfl⟩
    go_wp2_with fail
    go_ret2
    exact ⟨_, rfl, OwnB.nil _ _, Below.refl _ _⟩
  · obtain ⟨L, rfl⟩ : ∃ n : Nat, L = n := ⟨L.toNat, by omega⟩
    have hL : 2 ≤ L ∧ L ≤ 16 := by omega
    by_cases hb : Lev L xs
    · rw [hardO_some (hardE_ok h (by simpa using hb)), hardE_ok h (by simpa using hb), Int.toNat_natCast]
      exact mhard_ok L hL ad cap xs hl hb w hx
    · rw [hardO_none (by rw [hardE_lev h (by simpa using hb)]; decide), hardE_lev h (by simpa using hb)]
      have HV := hide fun w hx => mright_no L hL ad cap xs hl h8 hb w hx
      have HX := hide hx
      obtain ⟨l1, l2⟩ := hL
      clear hx hb h
      go_enter Try.func23, Try.ntmps23
      go_wp2_with fail
      refine (HV.out _ HX.out).mono ?_
      rintro e w' ⟨rfl, rfl⟩
      go_wp2_with fail
      go_ret2
      exact ⟨_, rfl, OwnB.nil _ _, Below.refl _ _⟩
set_option maxRecDepth 100000 in
set_option maxHeartbeats 2000000 in
theorem r25hard_ok (L : Nat) (hL : 2 ≤ L ∧ L ≤ 16) (ad : Option Addr) (cap : Nat) (xs : List Nat) (hl : xs.length ≤ 140737488351232) (hb : Lev L xs) (w : World) (hx : RowA w ad xs) :
    Calls Try.prog 25 #[.int .i64 L, .slice ad xs.length cap] w fun e w' => ∃ v, e = .returned (.tuple #[v, .int .i64 0]) ∧ OwnB w' w.heap.size v (hardL L xs) ∧ Below w.heap.size w w' := by
  have h8 : ∀ i, xs.getD i 0 ≤ 255 := fun i => by have := hb.all (by omega) i; omega
  have HV := hide fun w hx => levelled_yes L hL ad cap xs hl h8 hb w hx
  clear h8
  have HX := hide hx
  have HBI := hide hb
  obtain ⟨l1, l2⟩ := hL
  clear hx hb
  have dl : decide ((L : Int) < 2) = false := decide_eq_false (by omega)
  have dh : decide ((16 : Int) < L) = false := decide_eq_false (by omega)
  unfold hardL
  go_enter Try.func25, Try.ntmps25
  go_wp2_with fail
  refine (HV.out _ HX.out).mono ?_
  rintro e w' ⟨rfl, rfl⟩
  go_wp2_with (first
    | (at_make; refine wpList_makeB rfl _ _ rfl w.heap.size _ _ xs.length rfl rfl ?c1 ?c2 ?c3 ?c4 ?_)
    | go_in)
  case c1 => rfl
  case c2 => rfl
  case c3 => omega
  case c4 => exact Nat.le_refl _
  intro w2 hown2 hgrow2 hz2
  have HO2 := hide (show OwnB w2 w.heap.size (.slice (some ⟨w.heap.size, 0, none⟩) xs.length xs.length) (fillK (fun k => if L - 1 < 2 * xs.getD k 0 then 1 else 0) xs.length 0) by rw [fillK_zero]; exact hown2)
  have HB2 := hide ((Below.refl w.heap.size w).grown hgrow2 (Nat.le_refl _) (fun k e => by cases e))
  clear hown2 hgrow2
  go_wp2_with fail
  go_loopw [7] (fun i u => ∃ k : Nat, k ≤ xs.length ∧ i = .int .i64 k ∧ Hid (OwnB u w.heap.size (.slice (some ⟨w.heap.size, 0, none⟩) xs.length xs.length) (fillK (fun k => if L - 1 < 2 * xs.getD k 0 then 1 else 0) xs.length k)) ∧ Hid (Below w.heap.size w u)) (fun i _ => xs.length - (intOf i).toNat)
  case atStart => exact ⟨0, by omega, rfl, HO2, HB2⟩
  case round =>
    rename World => wr
    obtain ⟨k, hk, rfl, ho, hb⟩ := hrel
    clear HO2 HB2
    by_cases hlt : k < xs.length
    · obtain ⟨b, off, rfl, _, hc⟩ := (HX.out.below hb.out).at_ hlt
      have hy := HBI.out k hlt
      have HF := hide (fillK_set (f := (fun k => if L - 1 < 2 * xs.getD k 0 then 1 else 0)) hlt)
      have HSK := hide (fillK_skip (f := (fun k => if L - 1 < 2 * xs.getD k 0 then 1 else 0)) hlt)
      have hcg := ho.out.cell (fillK_length hk).symm hlt
      have hfz := ho.out.frz (fillK_length hk).symm k
      have hin : (0 : Int) ≤ k := by omega
      have hin2 : (k : Int) < xs.length := by omega
      by_cases h1 : L - 1 < 2 * xs.getD k 0
      · have hset := (ho.out.set (fillK_length hk).symm k (1)).1
        have hF : (fillK (fun k => if L - 1 < 2 * xs.getD k 0 then 1 else 0) xs.length k).set k (1) = fillK (fun k => if L - 1 < 2 * xs.getD k 0 then 1 else 0) xs.length (k + 1) := by have := HF.out; rwa [if_pos h1] at this
        rw [hF] at hset
        have HO4 := hide hset
        have HB4 := hide (hb.out.setCell (p := ⟨w.heap.size, k, none⟩) (Nat.le_refl _) (.int .u8 1))
        clear hset hF
        generalize xs.getD k 0 = y at *
        have h2 : (L : Int) - 1 < 2 * y := by omega
        go_wp2_with fail
        go_roundw
        case rel => exact ⟨k + 1, by omega, by simp, HO4, HB4⟩
        case measure => simp [intOf]; omega
      · have hF := HSK.out (if_neg h1)
        have HO4 := hide (show OwnB wr w.heap.size (.slice (some ⟨w.heap.size, 0, none⟩) xs.length xs.length) (fillK (fun k => if L - 1 < 2 * xs.getD k 0 then 1 else 0) xs.length (k + 1)) by rw [hF]; exact ho.out)
        have HB4 := hb
        clear hF
        generalize xs.getD k 0 = y at *
        have h2 : ¬ (L : Int) - 1 < 2 * y := by omega
        go_wp2_with fail
        go_roundw
        case rel => exact ⟨k + 1, by omega, by simp, HO4, HB4⟩
        case measure => simp [intOf]; omega
    · obtain rfl : k = xs.length := by omega
      go_wp2_with fail
      go_ret2
      exact ⟨_, rfl, by have := ho.out; rwa [fillK_full] at this, hb.out⟩
set_option maxHeartbeats 2000000 in
theorem r25hard_any (L : Int) (ad : Option Addr) (cap : Nat) (xs : List Nat) (hl : xs.length ≤ 140737488351232) (h8 : ∀ i, xs.getD i 0 ≤ 255) (w : World) (hx : RowA w ad xs) :
    Calls Try.prog 25 #[.int .i64 L, .slice ad xs.length cap] w fun e w' => ∃ v, e = .returned (.tuple #[v, .int .i64 (hardE L xs)]) ∧ OwnB w' w.heap.size v (hardO L xs) ∧ Below w.heap.size w w' := by
  by_cases h : L < 2 ∨ 16 < L
  · rw [hardO_none (by rw [hardE_arg h]; decide), hardE_arg h]
    rcases h with h | h
    · go_enter Try.func25, Try.ntmps25
      go_wp2_with fail
      go_ret2
      exact ⟨_, rfl, OwnB.nil _ _, Below.refl _ _⟩
    · have e2 : ¬ L < 2 := by omega
      go_enter Try.func25, Try.ntmps25
      go_wp2_with fail
      go_ret2
      exact ⟨_, rfl, OwnB.nil _ _, Below.refl _ _⟩
  · obtain ⟨L, rfl⟩ : ∃ n : Nat, L = n := ⟨L.toNat, by omega⟩
    have hL : 2 ≤ L ∧ L ≤ 16 := by omega
    by_cases hb : Lev L xs
    · rw [hardO_some (hardE_ok h (by simpa using hb)), hardE_ok h (by simpa using hb), Int.toNat_natCast]
      exact r25hard_ok L hL ad cap xs hl hb w hx
    · rw [hardO_none (by rw [hardE_lev h (by simpa using hb)]; decide), hardE_lev h (by simpa using hb)]
      have HV := hide fun w hx => levelled_no L hL ad cap xs hl h8 hb w hx
      have HX := hide hx
      obtain ⟨l1, l2⟩ := hL
      clear hx hb h
      have dl : decide ((L : Int) < 2) = false := decide_eq_false (by omega)
      have dh : decide ((16 : Int) < L) = false := decide_eq_false (by omega)
      go_enter Try.func25, Try.ntmps25
      go_wp2_with fail
      refine (HV.out _ HX.out).mono ?_
      rintro e w' ⟨rfl, rfl⟩
      go_wp2_with fail
      go_ret2
      exact ⟨_, rfl, OwnB.nil _ _, Below.refl _ _⟩
end Go.Proofs.Ytlbfndibgojbiaa
