/- outpostref04.First, Whiten, Turn, walked. -/
import Derived.Test.YtknkkoemghceeaaDoorRows
import Derived.Test.YtknkkoemghceeaaDoorR4Step
import Derived.Test.YtknkkoemghceeaaDoorApS
import Derived.Test.YtknkkoemghceeaaDoorLjBack
import Derived.Test.YtknkkoemghceeaaDoorLfBits
namespace Go.Proofs.YtknkkoemghceeaaDoor
open Go.RowKit

/-- a row of which the first k have been turned -/
def updK (g : Nat → Nat) (F : List Nat) (k : Nat) : List Nat := (List.range k).map g ++ F.drop k
theorem updK_zero (g : Nat → Nat) (F : List Nat) : updK g F 0 = F := by simp [updK]
theorem updK_length {g : Nat → Nat} {F : List Nat} {k : Nat} (h : k ≤ F.length) : (updK g F k).length = F.length := by simp [updK]; omega
theorem updK_set {g : Nat → Nat} {F : List Nat} {k : Nat} (h : k < F.length) : (updK g F k).set k (g k) = updK g F (k + 1) := by
  unfold updK
  have hl : ((List.range k).map g).length = k := by simp
  rw [List.set_append_right _ _ (by rw [hl]; exact Nat.le_refl _), hl, Nat.sub_self, List.drop_eq_getElem_cons h, List.set_cons_zero, List.range_succ, List.map_append, List.append_assoc]
  rfl
theorem updK_at {g : Nat → Nat} {F : List Nat} {k : Nat} : (updK g F k).getD k 0 = F.getD k 0 := by
  unfold updK
  have hl : ((List.range k).map g).length = k := by simp
  simp only [List.getD]
  rw [List.getElem?_append_right (by rw [hl]; exact Nat.le_refl _), hl, Nat.sub_self, List.getElem?_drop, Nat.add_zero]
theorem updK_full {g : Nat → Nat} {F : List Nat} : updK g F F.length = (List.range F.length).map g := by simp [updK]
set_option maxRecDepth 100000 in
set_option maxHeartbeats 1000000 in
theorem rfirst_ok (n T S : Nat) (hg : GoodL n T S) (m : Nat) (hm : m ≤ 140737488351232) (w : World) :
    Calls Tryd.prog 57 #[.agg #[.int .i64 n, .int .u64 T, .int .u64 S], .int .i64 m] w fun e w' => ∃ v, e = .returned v ∧ OwnB w' w.heap.size v (firstL n T S m) ∧ Below w.heap.size w w' := by
  have HST := hide fun (k : Nat) (W : World) => rstep_any n T (Gf2.stpN n T k S) (hg.stpN k) W
  have HSM := hide fun (k : Nat) => (hg.stpN k).small
  clear hg
  go_enter Tryd.func57, Tryd.ntmps57
  go_wp2_with (first
    | (at_make; refine wpList_makeB rfl _ _ rfl w.heap.size _ _ m rfl rfl ?c1 ?c2 ?c3 ?c4 ?_)
    | go_in)
  case c1 => rfl
  case c2 => rfl
  case c3 => omega
  case c4 => simp
  intro w2 hown2 hgrow2 hz2
  have HO0 := hide (show OwnB w2 w.heap.size (.slice (some ⟨w.heap.size + 1, 0, none⟩) m m) (fillK (fun i => Gf2.stpN n T i S % 2) m 0) by rw [fillK_zero]; simpa using hown2)
  have HR0 := hide (show RegL w2 w.heap.size n T (Gf2.stpN n T 0 S) from (show RegL (w.alloc (.cells #[.int .i64 n, .int .u64 T, .int .u64 S] 24)) w.heap.size n T S from ⟨_, heap_alloc_new w _⟩).grown hgrow2 (by simp))
  have HB0 := hide (((Below.refl w.heap.size w).alloc (Nat.le_refl _) (.cells #[.int .i64 n, .int .u64 T, .int .u64 S] 24)).grown hgrow2 (by simp) (fun k e => by cases e))
  clear hown2 hgrow2
  go_wp2_with fail
  go_loopw [6] (fun i u => ∃ k : Nat, k ≤ m ∧ i = .int .i64 k ∧ Hid (OwnB u w.heap.size (.slice (some ⟨w.heap.size + 1, 0, none⟩) m m) (fillK (fun i => Gf2.stpN n T i S % 2) m k)) ∧ Hid (RegL u w.heap.size n T (Gf2.stpN n T k S)) ∧ Hid (Below w.heap.size w u)) (fun i _ => m - (intOf i).toNat)
  case atStart => exact ⟨0, by omega, rfl, HO0, HR0, HB0⟩
  case round =>
    rename World => wr
    obtain ⟨k, hk, rfl, hO, hR, hB⟩ := hrel
    by_cases hlt : k < m
    · have hsm := HSM.out k
      obtain ⟨hlr, q0, q1, q2, fz⟩ := hR.out.parts
      have hl := (fillK_length (f := fun i => Gf2.stpN n T i S % 2) (Nat.le_of_lt hlt)).symm
      have hc := hO.out.cell hl hlt
      have hf := hO.out.frz hl k
      have hst := (hO.out.set hl k (Gf2.stpN n T k S % 2)).1
      rw [fillK_set (f := fun i => Gf2.stpN n T i S % 2) hlt] at hst
      have HO2 := hide hst
      have HR2 := hide (hR.out.far (p := ⟨w.heap.size + 1, k, none⟩) (by simp) (.int .u8 ((Gf2.stpN n T k S % 2 : Nat) : Int)))
      have HB2 := hide (hB.out.setCell (p := ⟨w.heap.size + 1, k, none⟩) (by simp) (.int .u8 ((Gf2.stpN n T k S % 2 : Nat) : Int)))
      have HSk := hide (HST.out k)
      rw [← Gf2.stpN_succ] at HSk
      generalize (fillK (fun i => Gf2.stpN n T i S % 2) m k).getD k 0 = yy at *
      have hmod : ((Gf2.stpN n T k S : Nat) : Int).tmod 2 = ((Gf2.stpN n T k S % 2 : Nat) : Int) := by rw [Int.tmod_eq_emod_of_nonneg (by omega)]; omega
      have hq1 : Gf2.stpN n T k S % 2 ≤ 1 := by omega
      generalize hq : Gf2.stpN n T k S % 2 = q at *
      have hw8 : IntKind.u8.wrap (q : Int) = q := IntWalk.u8_in _ (by omega)
      clear hst hl hq
      go_wp2_with fail
      refine (HSk.out _).mono ?_
      rintro e w4 ⟨rfl, hb4⟩
      have hr4 := HR2.out.below hb4 HR2.out.lt
      obtain ⟨hl4, p0, p1, p2, p3⟩ := hr4.parts
      have f0 : w4.frozen? ⟨w.heap.size, 0, none⟩ = false := by obtain ⟨ty, h⟩ := hr4; exact frozen_of_row w4 w.heap.size 0 _ ty h
      have f1 : w4.frozen? ⟨w.heap.size, 1, none⟩ = false := by obtain ⟨ty, h⟩ := hr4; exact frozen_of_row w4 w.heap.size 1 _ ty h
      have HR4 := hide (hr4.set3 (Gf2.stpN n T (k + 1) S))
      have hne : ∀ g, (Value.slice (some ⟨w.heap.size + 1, 0, none⟩) m m).ownBlock = some g → g ≠ w.heap.size := fun g e => by have := Option.some.inj e; simp at this; omega
      have HO4 := hide ((((HO2.out.below hb4).far (p := ⟨w.heap.size, 0, none⟩) hne (.int .i64 n)).far (p := ⟨w.heap.size, 1, none⟩) hne (.int .u64 T)).far (p := ⟨w.heap.size, 2, none⟩) hne (.int .u64 (Gf2.stpN n T (k + 1) S : Nat)))
      have HB4 := hide ((((below_then HB2.out hb4).setCell (p := ⟨w.heap.size, 0, none⟩) (Nat.le_refl _) (.int .i64 n)).setCell (p := ⟨w.heap.size, 1, none⟩) (Nat.le_refl _) (.int .u64 T)).setCell (p := ⟨w.heap.size, 2, none⟩) (Nat.le_refl _) (.int .u64 (Gf2.stpN n T (k + 1) S : Nat)))
      clear hb4 hr4 hne
      generalize hq2 : Gf2.stpN n T (k + 1) S = q' at *
      have HQ2 := hide hq2
      clear hq2
      go_wp2_with fail
      go_roundw
      case rel => exact ⟨k + 1, by omega, by simp, HO4, by rw [HQ2.out]; exact HR4, HB4⟩
      case measure => simp [intOf]; omega
    · obtain rfl : m = k := by omega
      rw [fillK_full] at hO
      go_wp2_with fail
      go_ret
      exact ⟨_, rfl, hO.out, hB.out⟩
set_option maxHeartbeats 400000 in
theorem right_yes (ad : Option Addr) (cp : Nat) (xs : List Nat) (hl : xs.length ≤ 140737488351232) (hx : ∀ i, i < xs.length → xs.getD i 0 ≤ 1) (w : World) (hr : RowA w ad xs) :
    Calls Tryd.prog 46 #[.slice ad xs.length cp] w fun e w' => e = .returned (.bool true) ∧ w = w' := by
  have HO := hide hx
  have HR := hide hr
  clear hx hr
  go_enter Tryd.func46, Tryd.ntmps46
  go_wp2_with fail
  go_loop [3] (fun i => ∃ k : Nat, k ≤ xs.length ∧ i = .int .i64 k) (fun i => xs.length - (intOf i).toNat)
  case atStart => exact ⟨0, by omega, rfl⟩
  case round =>
    obtain ⟨k, hk, rfl⟩ := hrel
    by_cases hlt : k < xs.length
    · obtain ⟨b, off, rfl, _, hc⟩ := HR.out.at_ hlt
      have h1 := HO.out k hlt
      generalize xs.getD k 0 = y at *
      go_wp2_with fail
      go_round
      case rel => exact ⟨k + 1, by omega, by simp⟩
      case measure => simp [intOf]; omega
    · obtain rfl : k = xs.length := by omega
      go_wp2_with fail
      go_ret
      exact ⟨rfl, rfl⟩
set_option maxHeartbeats 400000 in
theorem rwhiten_bad (D : Int) (T S : Nat) (hT : T ≤ 18446744073709551615) (hS : S ≤ 18446744073709551615) (hne : lchk D T S ≠ 0) (ad : Option Addr) (m cp : Nat) (w : World) :
    Calls Tryd.prog 42 #[.agg #[.int .i64 D, .int .u64 T, .int .u64 S], .slice ad m cp] w fun e w' => e = .returned (.tuple #[.slice none 0 0, .int .i64 (lchk D T S)]) ∧ Below w.heap.size w w' := by
  have HC := hide (r4check_any D T S hT hS)
  have hb := nzBne hne
  generalize lchk D T S = cf at *
  clear hne
  go_enter Tryd.func42, Tryd.ntmps42
  go_wp2_with fail
  refine (HC.out _).mono ?_
  rintro e w1 ⟨rfl, hb1⟩
  go_wp2_with fail
  go_ret2
  exact ⟨rfl, below_one hb1⟩
set_option maxHeartbeats 400000 in
theorem rturn_bad (D : Int) (T S : Nat) (hT : T ≤ 18446744073709551615) (hS : S ≤ 18446744073709551615) (hne : lchk D T S ≠ 0) (L : Int) (ad : Option Addr) (m cp : Nat) (w : World) :
    Calls Tryd.prog 45 #[.agg #[.int .i64 D, .int .u64 T, .int .u64 S], .int .i64 L, .slice ad m cp] w fun e w' => e = .returned (.tuple #[.slice none 0 0, .int .i64 (lchk D T S)]) ∧ Below w.heap.size w w' := by
  have HC := hide (r4check_any D T S hT hS)
  have hb := nzBne hne
  generalize lchk D T S = cf at *
  clear hne
  go_enter Tryd.func45, Tryd.ntmps45
  go_wp2_with fail
  refine (HC.out _).mono ?_
  rintro e w1 ⟨rfl, hb1⟩
  go_wp2_with fail
  go_ret2
  exact ⟨rfl, below_one hb1⟩
set_option maxHeartbeats 400000 in
theorem rturn_arg (n T S : Nat) (hg : GoodL n T S) (L : Int) (hL : L < 2 ∨ 16 < L) (ad : Option Addr) (m cp : Nat) (w : World) :
    Calls Tryd.prog 45 #[.agg #[.int .i64 n, .int .u64 T, .int .u64 S], .int .i64 L, .slice ad m cp] w fun e w' => e = .returned (.tuple #[.slice none 0 0, .int .i64 1]) ∧ Below w.heap.size w w' := by
  have HC := hide (r4check_any n T S (by have := hg.small; omega) (by have := hg.small; omega))
  rw [lchk_good hg] at HC
  clear hg
  go_enter Tryd.func45, Tryd.ntmps45
  go_wp2_with fail
  refine (HC.out _).mono ?_
  rintro e w1 ⟨rfl, hb1⟩
  rcases hL with hL | hL
  · have hd : decide (L < 2) = true := decide_eq_true hL
    go_wp2_with fail
    go_ret2
    exact ⟨rfl, below_one hb1⟩
  · have hd : decide (L < 2) = false := decide_eq_false (by omega)
    have hd2 : decide (16 < L) = true := decide_eq_true hL
    go_wp2_with fail
    go_ret2
    exact ⟨rfl, below_one hb1⟩
set_option maxHeartbeats 400000 in
theorem rwhiten_err (n T S : Nat) (hg : GoodL n T S) (ad : Option Addr) (cp : Nat) (xs : List Nat) (hl : xs.length ≤ 140737488351232) (hx : ¬ ∀ i, i < xs.length → xs.getD i 0 ≤ 1) (w : World) (hr : RowA w ad xs) :
    Calls Tryd.prog 42 #[.agg #[.int .i64 n, .int .u64 T, .int .u64 S], .slice ad xs.length cp] w fun e w' => e = .returned (.tuple #[.slice none 0 0, .int .i64 10]) ∧ Below w.heap.size w w' := by
  have HC := hide (r4check_any n T S (by have := hg.small; omega) (by have := hg.small; omega))
  rw [lchk_good hg] at HC
  have HN := hide (fun u (h : RowA u ad xs) => right_no ad cp xs hl hx u h)
  have HR := hide hr
  clear hg hx hr
  go_enter Tryd.func42, Tryd.ntmps42
  go_wp2_with fail
  refine (HC.out _).mono ?_
  rintro e w1 ⟨rfl, hb1⟩
  go_wp2_with fail
  refine (HN.out _ (HR.out.below (below_one hb1))).mono ?_
  rintro e w' ⟨rfl, rfl⟩
  go_wp2_with fail
  go_ret2
  exact ⟨rfl, below_one hb1⟩
set_option maxRecDepth 100000 in
set_option maxHeartbeats 1000000 in
theorem rturn_err (n T S L : Nat) (hg : GoodL n T S) (hL : 2 ≤ L ∧ L ≤ 16) (ad : Option Addr) (cp : Nat) (xs : List Nat) (hl : xs.length ≤ 140737488351232) (h8 : ∀ i, xs.getD i 0 ≤ 255) (hx : ¬ ∀ i, i < xs.length → xs.getD i 0 < L) (w : World) (hr : RowA w ad xs) :
    Calls Tryd.prog 45 #[.agg #[.int .i64 n, .int .u64 T, .int .u64 S], .int .i64 L, .slice ad xs.length cp] w fun e w' => e = .returned (.tuple #[.slice none 0 0, .int .i64 91]) ∧ Below w.heap.size w w' := by
  have HC := hide (r4check_any n T S (by have := hg.small; omega) (by have := hg.small; omega))
  rw [lchk_good hg] at HC
  obtain ⟨j, hj, hjb, hjo⟩ := first_bad hx
  have HO := hide hjo
  have H8 := hide h8
  have HR := hide hr
  obtain ⟨l2, l16⟩ := hL
  have dl : decide ((L : Int) < 2) = false := by simp; omega
  have dh : decide ((16 : Int) < L) = false := by simp; omega
  clear h8 hg hx hjo hr
  go_enter Tryd.func45, Tryd.ntmps45
  go_wp2_with fail
  refine (HC.out _).mono ?_
  rintro e w1 ⟨rfl, hb1⟩
  have HB1 := hide (below_one hb1)
  have HR1 := hide (HR.out.below HB1.out)
  clear hb1
  go_wp2_with fail
  go_loop [9] (fun i => ∃ k : Nat, k ≤ j ∧ i = .int .i64 k) (fun i => xs.length - (intOf i).toNat)
  case atStart => exact ⟨0, by omega, rfl⟩
  case round =>
    obtain ⟨k, hk, rfl⟩ := hrel
    obtain ⟨b, off, rfl, _, hc⟩ := HR1.out.at_ (i := k) (by omega)
    have hlt : (k : Int) < xs.length := by omega
    have h8k := H8.out k
    by_cases he : k = j
    · subst he
      generalize xs.getD k 0 = y at *
      go_wp2_with fail
      go_ret2
      exact ⟨rfl, HB1.out⟩
    · have h1 := HO.out k (by omega)
      generalize xs.getD k 0 = y at *
      go_wp2_with fail
      go_round
      case rel => exact ⟨k + 1, by omega, by simp⟩
      case measure => simp [intOf]; omega
theorem updK_white (n T S : Nat) (xs : List Nat) : updK (fun i => (firstL n T S xs.length).getD i 0 ^^^ xs.getD i 0) (firstL n T S xs.length) xs.length = whiteL n T S xs := by
  have h := updK_full (g := fun i => (firstL n T S xs.length).getD i 0 ^^^ xs.getD i 0) (F := firstL n T S xs.length)
  rw [firstL_length] at h
  rw [h]
  unfold whiteL
  refine List.map_congr_left fun i hi => ?_
  rw [firstL_at _ _ _ (List.mem_range.1 hi), Nat.xor_comm]
theorem updK_turn (n T S L : Nat) (xs : List Nat) : updK (fun i => if (firstL n T S xs.length).getD i 0 = 1 then L - 1 - xs.getD i 0 else xs.getD i 0) (firstL n T S xs.length) xs.length = turnL n T S L xs := by
  have h := updK_full (g := fun i => if (firstL n T S xs.length).getD i 0 = 1 then L - 1 - xs.getD i 0 else xs.getD i 0) (F := firstL n T S xs.length)
  rw [firstL_length] at h
  rw [h]
  unfold turnL
  refine List.map_congr_left fun i hi => ?_
  rw [firstL_at _ _ _ (List.mem_range.1 hi)]
set_option maxRecDepth 100000 in
set_option maxHeartbeats 2000000 in
theorem rwhiten_ok (n T S : Nat) (hg : GoodL n T S) (ad : Option Addr) (cp : Nat) (xs : List Nat) (hl : xs.length ≤ 140737488351232) (hx : ∀ i, i < xs.length → xs.getD i 0 ≤ 1) (w : World) (hr : RowA w ad xs) :
    Calls Tryd.prog 42 #[.agg #[.int .i64 n, .int .u64 T, .int .u64 S], .slice ad xs.length cp] w fun e w' => ∃ v, e = .returned (.tuple #[v, .int .i64 0]) ∧ OwnB w' w.heap.size v (whiteL n T S xs) ∧ Below w.heap.size w w' := by
  have HC := hide (r4check_any n T S (by have := hg.small; omega) (by have := hg.small; omega))
  rw [lchk_good hg] at HC
  have HY := hide (fun u (h : RowA u ad xs) => right_yes ad cp xs hl hx u h)
  have HF := hide (rfirst_ok n T S hg xs.length hl)
  have HW := hide (updK_white n T S xs)
  have hFl : (firstL n T S xs.length).length = xs.length := firstL_length _ _ _ _
  have hF1 : ∀ i, i < xs.length → (firstL n T S xs.length).getD i 0 ≤ 1 := fun i hi => by rw [firstL_at _ _ _ hi]; omega
  have HR := hide hr
  have HX := hide hx
  generalize whiteL n T S xs = ws at *
  generalize firstL n T S xs.length = F at *
  have HFL := hide hFl
  have HF1 := hide hF1
  clear hg hx hr hFl hF1
  go_enter Tryd.func42, Tryd.ntmps42
  go_wp2_with fail
  refine (HC.out _).mono ?_
  rintro e w1 ⟨rfl, hb1⟩
  have hr1 : RegL w1 w.heap.size n T S := ⟨_, (hb1.block w.heap.size (by simp)).trans (heap_alloc_new w _)⟩
  obtain ⟨hl1, q0, q1, q2, -⟩ := hr1.parts
  have HB1 := hide (below_one hb1)
  clear hb1 hr1
  go_wp2_with fail
  refine (HY.out _ (HR.out.below HB1.out)).mono ?_
  rintro e w' ⟨rfl, rfl⟩
  go_wp2_with fail
  refine (HF.out _).mono ?_
  rintro e w2 ⟨v, rfl, ho2, hb2⟩
  have HO0 := hide (show OwnB w2 w.heap.size v (updK (fun i => F.getD i 0 ^^^ xs.getD i 0) F 0) by rw [updK_zero]; exact OwnB.base ho2 (by have := HB1.out.size; omega))
  have HB2 := hide (below_then HB1.out hb2)
  clear ho2 hb2 q0 q1 q2
  go_wp2_with fail
  go_loopw [8] (fun i u => ∃ k : Nat, k ≤ xs.length ∧ i = .int .i64 k ∧ Hid (OwnB u w.heap.size v (updK (fun i => F.getD i 0 ^^^ xs.getD i 0) F k)) ∧ Hid (Below w.heap.size w u)) (fun i _ => xs.length - (intOf i).toNat)
  case atStart => exact ⟨0, by omega, rfl, HO0, HB2⟩
  case round =>
    rename World => wr
    obtain ⟨k, hk, rfl, hO, hB⟩ := hrel
    by_cases hlt : k < xs.length
    · have hul : (updK (fun i => F.getD i 0 ^^^ xs.getD i 0) F k).length = xs.length := by rw [updK_length (by rw [HFL.out]; exact hk)]; exact HFL.out
      obtain ⟨g, cg, rfl, hBg, hgl, _⟩ := hO.out.full (by rw [hul]; omega)
      rw [hul] at hO
      have hc := hO.out.cell hul.symm hlt
      have hf := hO.out.frz hul.symm k
      rw [updK_at] at hc
      have hst := (hO.out.set hul.symm k (F.getD k 0 ^^^ xs.getD k 0)).1
      rw [updK_set (g := fun i => F.getD i 0 ^^^ xs.getD i 0) (by rw [HFL.out]; exact hlt)] at hst
      obtain ⟨b, off, rfl, _, hcx⟩ := (HR.out.below hB.out).at_ hlt
      have h1 := HX.out k hlt
      have h2 := HF1.out k hlt
      have h3 := xorU8 (a := F.getD k 0) (b := xs.getD k 0) (by omega) (by omega)
      have HB4 := hide (hB.out.setCell (p := ⟨g, k, none⟩) hBg (.int .u8 ((F.getD k 0 ^^^ xs.getD k 0 : Nat) : Int)))
      have hin : (0 : Int) ≤ k := by omega
      have hin2 : (k : Int) < xs.length := by omega
      rw [hul]
      have HS := hide hst
      clear hst hul
      generalize F.getD k 0 ^^^ xs.getD k 0 = z at *
      generalize xs.getD k 0 = y at *
      generalize F.getD k 0 = f at *
      go_wp2_with fail
      go_still_tail 12, (by kernel_rfl)
      change wpList _ _ _ _ _ wr.drew
      go_wp2_with fail
      go_roundw
      case rel => exact ⟨k + 1, by omega, by simp, hide (HS.out.keep fun _ _ => rfl), hide HB4.out.drew⟩
      case measure => simp [intOf]; omega
    · obtain rfl : k = xs.length := by omega
      rw [HW.out] at hO
      go_wp2_with fail
      go_ret2
      exact ⟨_, rfl, hO.out, hB.out⟩
set_option maxRecDepth 100000 in
set_option maxHeartbeats 2000000 in
theorem rturn_ok (n T S L : Nat) (hg : GoodL n T S) (hL : 2 ≤ L ∧ L ≤ 16) (ad : Option Addr) (cp : Nat) (xs : List Nat) (hl : xs.length ≤ 140737488351232) (hx : ∀ i, i < xs.length → xs.getD i 0 < L) (w : World) (hr : RowA w ad xs) :
    Calls Tryd.prog 45 #[.agg #[.int .i64 n, .int .u64 T, .int .u64 S], .int .i64 L, .slice ad xs.length cp] w fun e w' => ∃ v, e = .returned (.tuple #[v, .int .i64 0]) ∧ OwnB w' w.heap.size v (turnL n T S L xs) ∧ Below w.heap.size w w' := by
  have HC := hide (r4check_any n T S (by have := hg.small; omega) (by have := hg.small; omega))
  rw [lchk_good hg] at HC
  have HF := hide (rfirst_ok n T S hg xs.length hl)
  have HW := hide (updK_turn n T S L xs)
  have hFl : (firstL n T S xs.length).length = xs.length := firstL_length _ _ _ _
  have hF1 : ∀ i, i < xs.length → (firstL n T S xs.length).getD i 0 ≤ 1 := fun i hi => by rw [firstL_at _ _ _ hi]; omega
  have HR := hide hr
  have HX := hide hx
  obtain ⟨l2, l16⟩ := hL
  have dl : decide ((L : Int) < 2) = false := by simp; omega
  have dh : decide ((16 : Int) < L) = false := by simp; omega
  generalize turnL n T S L xs = ws at *
  generalize firstL n T S xs.length = F at *
  have HFL := hide hFl
  have HF1 := hide hF1
  clear hg hx hr hFl hF1
  go_enter Tryd.func45, Tryd.ntmps45
  go_wp2_with fail
  refine (HC.out _).mono ?_
  rintro e w1 ⟨rfl, hb1⟩
  have hr1 : RegL w1 w.heap.size n T S := ⟨_, (hb1.block w.heap.size (by simp)).trans (heap_alloc_new w _)⟩
  obtain ⟨hl1, q0, q1, q2, -⟩ := hr1.parts
  have HB1 := hide (below_one hb1)
  have HR1 := hide (HR.out.below HB1.out)
  clear hb1 hr1
  go_wp2_with fail
  go_loop [9] (fun i => ∃ k : Nat, k ≤ xs.length ∧ i = .int .i64 k) (fun i => xs.length - (intOf i).toNat)
  case atStart => exact ⟨0, by omega, rfl⟩
  case round =>
    obtain ⟨k, hk, rfl⟩ := hrel
    by_cases hlt : k < xs.length
    · obtain ⟨b, off, rfl, _, hc⟩ := HR1.out.at_ hlt
      have h1 := HX.out k hlt
      generalize xs.getD k 0 = y at *
      go_wp2_with fail
      go_round
      case rel => exact ⟨k + 1, by omega, by simp⟩
      case measure => simp [intOf]; omega
    · obtain rfl : k = xs.length := by omega
      go_wp2_with fail
      refine (HF.out _).mono ?_
      rintro e w2 ⟨v, rfl, ho2, hb2⟩
      have HO0 := hide (show OwnB w2 w.heap.size v (updK (fun i => if F.getD i 0 = 1 then L - 1 - xs.getD i 0 else xs.getD i 0) F 0) by rw [updK_zero]; exact OwnB.base ho2 (by have := HB1.out.size; omega))
      have HB2 := hide (below_then HB1.out hb2)
      clear ho2 hb2 q0 q1 q2
      go_wp2_with fail
      go_loopw [11] (fun i u => ∃ k : Nat, k ≤ xs.length ∧ i = .int .i64 k ∧ Hid (OwnB u w.heap.size v (updK (fun i => if F.getD i 0 = 1 then L - 1 - xs.getD i 0 else xs.getD i 0) F k)) ∧ Hid (Below w.heap.size w u)) (fun i _ => xs.length - (intOf i).toNat)
      case atStart => exact ⟨0, by omega, rfl, HO0, HB2⟩
      case round =>
        rename World => wr
        obtain ⟨k, hk, rfl, hO, hB⟩ := hrel
        by_cases hlt : k < xs.length
        · have hul : (updK (fun i => if F.getD i 0 = 1 then L - 1 - xs.getD i 0 else xs.getD i 0) F k).length = xs.length := by rw [updK_length (by rw [HFL.out]; exact hk)]; exact HFL.out
          obtain ⟨g, cg, rfl, hBg, hgl, _⟩ := hO.out.full (by rw [hul]; omega)
          rw [hul] at hO
          have hc := hO.out.cell hul.symm hlt
          have hf := hO.out.frz hul.symm k
          rw [updK_at] at hc
          have hst := (hO.out.set hul.symm k (if F.getD k 0 = 1 then L - 1 - xs.getD k 0 else xs.getD k 0)).1
          rw [updK_set (g := fun i => if F.getD i 0 = 1 then L - 1 - xs.getD i 0 else xs.getD i 0) (by rw [HFL.out]; exact hlt)] at hst
          obtain ⟨b, off, rfl, _, hcx⟩ := (HR.out.below hB.out).at_ hlt
          have h1 := HX.out k hlt
          have h2 := HF1.out k hlt
          have HB4 := hide fun (z : Value) => hB.out.setCell (p := ⟨g, k, none⟩) hBg z
          have hin : (0 : Int) ≤ k := by omega
          have hin2 : (k : Int) < xs.length := by omega
          rw [hul]
          generalize xs.getD k 0 = y at *
          generalize F.getD k 0 = f at *
          by_cases hf1 : f = 1
          · subst hf1
            rw [if_pos rfl] at hst
            have HS := hide hst
            have e3 : ((L : Int) - 1 - y) = ((L - 1 - y : Nat) : Int) := by omega
            have e4 : IntKind.u8.wrap ((L : Int) - 1 - y) = ((L - 1 - y : Nat) : Int) := by rw [IntKind.wrap_u8]; omega
            have e5 : IntKind.i64.wrap ((L : Int) - 1) = (L : Int) - 1 := IntWalk.i64_in _ (by omega)
            have e6 : IntKind.i64.wrap ((L : Int) - 1 - y) = (L : Int) - 1 - y := IntWalk.i64_in _ (by omega)
            clear hst hul e3
            go_wp2_with fail
            go_roundw
            case rel => exact ⟨k + 1, by omega, by simp, hide (HS.out.keep fun _ _ => rfl), hide (HB4.out _)⟩
            case measure => simp [intOf]; omega
          · rw [if_neg hf1] at hst
            have HS := hide hst
            obtain rfl : f = 0 := by omega
            clear hst hul
            go_wp2_with fail
            go_roundw
            case rel => exact ⟨k + 1, by omega, by simp, hide (HS.out.keep fun _ _ => rfl), hide (HB4.out _)⟩
            case measure => simp [intOf]; omega
        · obtain rfl : k = xs.length := by omega
          rw [HW.out] at hO
          go_wp2_with fail
          go_ret2
          exact ⟨_, rfl, hO.out, hB.out⟩
end Go.Proofs.YtknkkoemghceeaaDoor
