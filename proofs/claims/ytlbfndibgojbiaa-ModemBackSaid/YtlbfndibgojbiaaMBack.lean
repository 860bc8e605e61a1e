/- The law ModemBack, walked: it returns true. -/
import Derived.Test.YtlbfndibgojbiaaRows
import Derived.Test.YtlbfndibgojbiaaMLawChecks
import Derived.Test.YtlbfndibgojbiaaMBackM
import Derived.Test.YtlbfndibgojbiaaInvert
import Derived.Test.YtlbfndibgojbiaaEncInv
import Derived.Test.YtlbfndibgojbiaaMLv15
import Derived.BigQuiet
import Derived.Deep.QuietTactic
namespace Go.Proofs.Ytlbfndibgojbiaa
open Go.RowKit
set_option linter.unusedVariables false

set_option maxRecDepth 100000 in
set_option maxHeartbeats 4000000 in
theorem back_bad (K R : Int) (a b c : Nat) (D : Int) (T S m : Nat) (l q z : Int) (hA : a ≤ 4294967295) (hB : b ≤ 4294967295) (hC : c ≤ 4294967295) (hT : T ≤ 18446744073709551615) (hS : S ≤ 18446744073709551615) (hM : m ≤ 18446744073709551615) (hE : modE K R a b c D T S m l q z ≠ 0) (lev : Int) (ad : Option Addr) (cap : Nat) (xs : List Nat) (hl : xs.length ≤ 140737488351232) (h8 : ∀ i, xs.getD i 0 ≤ 255) (w : World) (hx : RowA w ad xs) :
    Calls Try.prog 10 #[.agg #[.int .i64 K, .int .i64 R, .int .u32 a, .int .u32 b, .int .u32 c, .int .i64 D, .int .u64 T, .int .u64 S, .int .u64 m, .int .i64 l, .int .i64 q, .int .i64 z], .int .i64 lev, .slice ad xs.length cap] w fun e w' => e = .returned (.bool true) ∧ Below w.heap.size w w' := by
  obtain ⟨t, L, ht, ht1, ht2, hL, hL1, hL2⟩ := lev15 lev
  have h22 : (2 : Int) + ((L : Int) - 2) = L := by omega
  have HRW := hide fun w hx => row25_any K R a b c D T S m l q z ad cap xs hl h8 w hx
  have HSY := hide fun ad cap w hx => symbols_any K R a b c D T S m l q z hA hB hC hT hS hM ad cap (rowL z xs) (by rw [rowL_length]; have := rowN_le z; omega) w hx
  rw [symO_none (by rw [symE_bad hE]; exact hE), symE_bad hE] at HSY
  have HC1 := hide (modcheck_any K R a b c D T S m l q z hA hB hC hT hS)
  have HX := hide hx
  have hne := nzBne hE
  generalize rowL z xs = bl at *
  generalize modE K R a b c D T S m l q z = ef at *
  clear hx h8 hE
  go_enter Try.func10, Try.ntmps10
  go_wp2_with fail
  have hM0 := ModB.new (K := K) (R := R) (a := a) (b := b) (c := c) (D := D) (T := T) (S := S) (m := m) (l := l) (q := q) (z := z) w
  have hb0 : Below w.heap.size w (w.alloc (.cells #[.int .i64 K, .int .i64 R, .int .u32 a, .int .u32 b, .int .u32 c, .int .i64 D, .int .u64 T, .int .u64 S, .int .u64 m, .int .i64 l, .int .i64 q, .int .i64 z] 32)) := (Below.refl _ _).alloc (Nat.le_refl _) _
  generalize w.alloc (.cells #[.int .i64 K, .int .i64 R, .int .u32 a, .int .u32 b, .int .u32 c, .int .i64 D, .int .u64 T, .int .u64 S, .int .u64 m, .int .i64 l, .int .i64 q, .int .i64 z] 32) = W0 at *
  have HU := hide fun (u : World) (hb : Below W0.heap.size W0 u) => (hM0.keep hb hM0.lt).cells
  have HP := hide fun (u : World) (hb : Below W0.heap.size W0 u) => hM0.p hb
  have HB0 := hide hb0
  clear hM0 hb0
  refine (HRW.out _ (HX.out.below HB0.out)).mono ?_
  rintro e w1 ⟨v1, rfl, ho1, hb1⟩
  obtain ⟨a1, c1, rfl, r1, _⟩ := ho1.rowg
  have HR1 := hide r1
  have HD1 := hide hb1
  obtain ⟨s0, s1, s2, s3, s4, s5, s6, s7, s8, s9, s10, s11⟩ := HU.out _ hb1
  clear ho1 r1 hb1
  go_wp2_with fail
  refine (HSY.out _ _ _ HR1.out).mono ?_
  rintro e w2 ⟨v2, rfl, ho2, hb2⟩
  obtain ⟨a2, c2, rfl, r2, _⟩ := ho2.rowg
  have HD2 := hide (below_then HD1.out hb2)
  clear ho2 r2 hb2 s0 s1 s2 s3 s4 s5 s6 s7 s8 s9 s10 s11
  obtain ⟨s0, s1, s2, s3, s4, s5, s6, s7, s8, s9, s10, s11⟩ := HU.out _ HD2.out
  have HSt := hide (show modP w.heap.size K R a b c D T S m l q z W0 w2 from HP.out _ HD2.out)
  have HKe := hide (fun u u' (h : modP w.heap.size K R a b c D T S m l q z W0 u) (hb : Below u.heap.size u u') => (show modP w.heap.size K R a b c D T S m l q z W0 u' from HP.out _ (below_then h.below hb)))
  go_wp2_with fail
  refine (num25_any _ _).mono ?_
  rintro e w' ⟨rfl, rfl⟩
  go_wp2_with fail
  go_region_held3 (fun u => u.cell? ⟨w.heap.size, 0, none⟩ = some (.int .i64 K) ∧ u.cell? ⟨w.heap.size, 1, none⟩ = some (.int .i64 R) ∧ u.cell? ⟨w.heap.size, 2, none⟩ = some (.int .u32 a) ∧ u.cell? ⟨w.heap.size, 3, none⟩ = some (.int .u32 b) ∧ u.cell? ⟨w.heap.size, 4, none⟩ = some (.int .u32 c) ∧ u.cell? ⟨w.heap.size, 5, none⟩ = some (.int .i64 D) ∧ u.cell? ⟨w.heap.size, 6, none⟩ = some (.int .u64 T) ∧ u.cell? ⟨w.heap.size, 7, none⟩ = some (.int .u64 S) ∧ u.cell? ⟨w.heap.size, 8, none⟩ = some (.int .u64 m) ∧ u.cell? ⟨w.heap.size, 9, none⟩ = some (.int .i64 l) ∧ u.cell? ⟨w.heap.size, 10, none⟩ = some (.int .i64 q) ∧ u.cell? ⟨w.heap.size, 11, none⟩ = some (.int .i64 z) ∧ Below W0.heap.size W0 u)
    (first | exact HKe.out _ _ HSt.out (Below.refl _ _).drew | exact HSt.out | exact HKe.out _ _ (by assumption) (by assumption) | exact HKe.out _ _ (by assumption) (Below.refl _ _))
    (first
      | (go_at_call 19; refine (HC1.out _).mono ?_; rintro e w' ⟨rfl, hb'⟩)
      | (go_at_call 18; refine (num25_any _ _).mono ?_; rintro e w' ⟨rfl, rfl⟩)
      | (go_at_call 13; refine (knows25_any _).mono ?_; rintro e w' ⟨rfl, hb'⟩))
  all_goals (
    rename_i hh
    have HF := hide (below_then HB0.out (show modP w.heap.size K R a b c D T S m l q z W0 _ from hh).below)
    go_wp2_with fail
    go_ret
    exact ⟨rfl, HF.out⟩)
theorem rowN_nat {z : Nat} (h : 1 ≤ z ∧ z ≤ 1024) : rowN (z : Int) = z := by unfold rowN; omega
set_option maxRecDepth 100000 in
set_option maxHeartbeats 4000000 in
theorem back_good (n r a b c d T S m l q z : Nat) (hg : GMod n r a b c d T S m l q z) (lev : Int) (ad : Option Addr) (cap : Nat) (xs : List Nat) (hl : xs.length ≤ 140737488351232) (h8 : ∀ i, xs.getD i 0 ≤ 255) (w : World) (hx : RowA w ad xs) :
    Calls Try.prog 10 #[.agg #[.int .i64 (n + 1), .int .i64 r, .int .u32 a, .int .u32 b, .int .u32 c, .int .i64 d, .int .u64 T, .int .u64 S, .int .u64 m, .int .i64 l, .int .i64 q, .int .i64 z], .int .i64 lev, .slice ad xs.length cap] w fun e w' => e = .returned (.bool true) ∧ Below w.heap.size w w' := by
  obtain ⟨t, L, ht, ht1, ht2, hL, hL1, hL2⟩ := lev15 lev
  have h22 : (2 : Int) + ((L : Int) - 2) = L := by omega
  have HRW := hide fun w hx => row25_any (n + 1) r a b c d T S m l q z ad cap xs hl h8 w hx
  have hbl : (rowL z xs).length = z := by rw [rowL_length, rowN_nat hg.hz]
  have hbb := rowL_bits z xs
  generalize rowL z xs = bl at *
  have hck := encE_good hg.ck hbb
  have heo : encO (n + 1) r a b c bl = wordF r a b c n bl := by rw [encO_some hck]; simp
  obtain ⟨hi1, hi2⟩ := inv_enc hck
  rw [heo] at hi1 hi2
  have hword := wordF_le r a b c n bl
  have hwl : (wordF r a b c n bl).length = (z + n) * r := by rw [word_length, hg.rate, hbl]
  have hbd := hg.body_le
  have hz := hg.hz
  have hl64 := hg.hl
  have HSY := hide fun ad cap w hx => symbols_good n r a b c d T S m l q z hg ad cap bl hbl hbb w hx
  have HMR := hide (mrow_ok m l hg.hm hg.mkr)
  have HBD := hide (mbody_any (n + 1) r a b c d T S m l q z hg.hA hg.hB hg.hC hg.regs.1 hg.regs.2)
  unfold bodyN at HBD
  rw [hg.ok, if_pos rfl, hg.body] at HBD
  have hsl : (symL n r a b c d T S m l q z bl).length = l + (z + n) * r := symL_len n r a b c d T S m l q z hg bl hbl
  have hse : symL n r a b c d T S m l q z bl = markL m l ++ whiteL d T S (shufL q (wordF r a b c n bl)) := rfl
  have hwlen : (whiteL d T S (shufL q (wordF r a b c n bl))).length = (z + n) * r := by rw [whiteL_length, shufL_length, hwl]
  have hwb : Bits (whiteL d T S (shufL q (wordF r a b c n bl))) := fun i hi => whiteL_le _ _ _ _ (fun i _ => shufL_all (P := fun y => y ≤ 1) (by decide) hword i) i hi
  have HLV := hide fun ad cap w hx => mlevels_ok L ⟨hL1, hL2⟩ ad cap (whiteL d T S (shufL q (wordF r a b c n bl))) (by omega) hwb w hx
  have hll : (levL L (whiteL d T S (shufL q (wordF r a b c n bl)))).length = (z + n) * r := by rw [levL_length]; exact hwlen
  have HWN := hide fun ad cap w hx => window_good n r a b c d T S m l q z hg L ⟨hL1, hL2⟩ ad cap (levL L (whiteL d T S (shufL q (wordF r a b c n bl)))) hll (levL_lev L hL1 _ (fun i => by rcases Nat.lt_or_ge i (whiteL d T S (shufL q (wordF r a b c n bl))).length with h | h; exact hwb i h; rw [getD_far' h]; omega)) w hx
  rw [win_lev d T S q L hg.hq.1 _ hword] at HWN
  have HEN := hide fun ad cap w hx => encode_any (n + 1) r a b c hg.hA hg.hB hg.hC ad cap bl (by omega) w hx
  rw [hck, heo] at HEN
  have HLU := hide fun ad cap w hx => mlevels_ok L ⟨hL1, hL2⟩ ad cap (wordF r a b c n bl) (by omega) (fun i _ => hword i) w hx
  have hlu : (levL L (wordF r a b c n bl)).length = (z + n) * r := by rw [levL_length]; exact hwl
  have HHD := hide fun ad cap w hx => mhard_ok L ⟨hL1, hL2⟩ ad cap (levL L (wordF r a b c n bl)) (by omega) (levL_lev L hL1 _ hword) w hx
  rw [hard_lev L hL1 _ hword] at HHD
  have HIN := hide fun ad cap hc w hx => invert_any (n + 1) r a b c hg.hA hg.hB hg.hC ad cap (wordF r a b c n bl) (by omega) hc w hx
  rw [hi1, hi2] at HIN
  have hmk := markL_length m l
  have hN1 : 0 < (z + n) * r := Nat.mul_pos (by omega) (by rcases hg.hr with e | e <;> omega)
  rw [hse] at HSY hsl
  have HX := hide hx
  clear hx h8 hck heo hi1 hi2 hword hwb hbb hg hse
  generalize wordF r a b c n bl = wd at *
  generalize whiteL d T S (shufL q wd) = wh at *
  generalize levL L wh = lw at *
  generalize levL L wd = lu at *
  generalize markL m l = mk at *
  generalize (z + n) * r = N at *
  have HSL := hide hsl
  have HWL := hide hwl
  have HWHL := hide hwlen
  have HLL := hide hll
  have HLUL := hide hlu
  have HMK := hide hmk
  have HBL := hide hbl
  clear hsl hwl hwlen hll hlu hmk hbl
  obtain ⟨z1, z2⟩ := hz
  obtain ⟨l1, l2⟩ := hl64
  go_enter Try.func10, Try.ntmps10
  go_wp2_with fail
  have hM0 := ModB.new (K := n + 1) (R := r) (a := a) (b := b) (c := c) (D := d) (T := T) (S := S) (m := m) (l := l) (q := q) (z := z) w
  have hb0 : Below w.heap.size w (w.alloc (.cells #[.int .i64 (n + 1), .int .i64 r, .int .u32 a, .int .u32 b, .int .u32 c, .int .i64 d, .int .u64 T, .int .u64 S, .int .u64 m, .int .i64 l, .int .i64 q, .int .i64 z] 32)) := (Below.refl _ _).alloc (Nat.le_refl _) _
  generalize w.alloc (.cells #[.int .i64 (n + 1), .int .i64 r, .int .u32 a, .int .u32 b, .int .u32 c, .int .i64 d, .int .u64 T, .int .u64 S, .int .u64 m, .int .i64 l, .int .i64 q, .int .i64 z] 32) = W0 at *
  have HU := hide fun (u : World) (hb : Below W0.heap.size W0 u) => (hM0.keep hb hM0.lt).cells
  have HB0 := hide hb0
  clear hM0 hb0
  refine (HRW.out _ (HX.out.below HB0.out)).mono ?_
  rintro e w1 ⟨v1, rfl, ho1, hb1⟩
  obtain ⟨a1, c1, rfl, r1, _⟩ := ho1.rowN HBL.out
  have HR1 := hide r1
  have HD1 := hide hb1
  obtain ⟨s0, s1, s2, s3, s4, s5, s6, s7, s8, s9, s10, s11⟩ := HU.out _ hb1
  rw [HBL.out] at HSY HEN
  clear ho1 r1 hb1
  go_wp2_with fail
  refine (HSY.out _ _ _ HR1.out).mono ?_
  rintro e w2 ⟨v2, rfl, ho2, hb2⟩
  obtain ⟨a2, c2, rfl, r2, hc2⟩ := ho2.rowN HSL.out
  have HR2 := hide r2
  have HD2 := hide (below_then HD1.out hb2)
  have HR12 := hide (HR1.out.below hb2)
  clear ho2 r2 hb2 s0 s1 s2 s3 s4 s5 s6 s7 s8 s9 s10 s11
  go_wp2_with fail
  refine (num25_any _ _).mono ?_
  rintro e w' ⟨rfl, rfl⟩
  go_wp2_with fail
  refine (knows25_any _).mono ?_
  rintro e w3 ⟨rfl, hb3⟩
  have HD3 := hide (below_then HD2.out hb3)
  have HR13 := hide (HR12.out.below hb3)
  have HR23 := hide (HR2.out.below hb3)
  clear hb3
  obtain ⟨s0, s1, s2, s3, s4, s5, s6, s7, s8, s9, s10, s11⟩ := HU.out _ HD3.out
  go_wp2_with fail
  refine (HMR.out _).mono ?_
  rintro e w4 ⟨v4, rfl, ho4, hb4⟩
  obtain ⟨a4, c4, rfl, r4, _⟩ := ho4.rowN HMK.out
  have HD4 := hide (below_then HD3.out hb4)
  have HR14 := hide (HR13.out.below hb4)
  have HR24 := hide (HR23.out.below hb4)
  have HR4 := hide r4
  clear ho4 r4 hb4 s0 s1 s2 s3 s4 s5 s6 s7 s8 s9 s10 s11
  obtain ⟨s0, s1, s2, s3, s4, s5, s6, s7, s8, s9, s10, s11⟩ := HU.out _ HD4.out
  go_wp2_with fail
  refine (HBD.out _).mono ?_
  rintro e w5 ⟨rfl, hb5⟩
  have HD5 := hide (below_then HD4.out hb5)
  have HR15 := hide (HR14.out.below hb5)
  have HR25 := hide (HR24.out.below hb5)
  have HR45 := hide (HR4.out.below hb5)
  clear hb5 s0 s1 s2 s3 s4 s5 s6 s7 s8 s9 s10 s11
  obtain ⟨b2, o2, rfl, _, _⟩ := HR25.out.at_ (i := 0) (by rw [HSL.out]; omega)
  have HRT := hide (show RowA w5 (some ⟨b2, o2, none⟩) mk by have := HR25.out.take mk.length; rwa [List.take_left] at this)
  have HRD := hide (show RowA w5 (some ⟨b2, o2 + l, none⟩) wh by have := HR25.out.drop mk.length; rwa [List.drop_left, HMK.out] at this)
  have hlc : (l : Int) ≤ c2 := by omega
  have hlc2 : (l : Int) < c2 := by omega
  have hlc3 : (l : Int) ≤ ((l + N : Nat) : Int) := by omega
  have hsub : ((l + N : Nat) : Int) - l = N := by omega
  go_wp2_with fail
  have cv1 := fun k => RowA.convN (w := w5.drewN k) HRT.out HMK.out.symm c2
  have cv2 := fun k => RowA.convN (w := w5.drewN k) HR45.out HMK.out.symm c4
  go_quiet ((go_at_call 18; exact quiet_eq (num25_any _ _)))
  rename Nat => k5
  have HD5d := hide (below_drewN HD5.out k5)
  have HR15d := hide (show RowA (w5.drewN k5) a1 bl from HR15.out)
  have HRDd := hide (show RowA (w5.drewN k5) (some ⟨b2, o2 + l, none⟩) wh from HRD.out)
  clear cv1 cv2
  generalize w5.drewN k5 = W5 at *
  rw [HWHL.out] at HLV
  go_wp2_with fail
  refine (HLV.out _ _ _ HRDd.out).mono ?_
  rintro e w6 ⟨v6, rfl, ho6, hb6⟩
  obtain ⟨a6, c6, rfl, r6, _⟩ := ho6.rowN HLL.out
  have HD6 := hide (below_then HD5d.out hb6)
  have HR16 := hide (HR15d.out.below hb6)
  have HR6 := hide r6
  clear ho6 r6 hb6
  obtain ⟨s0, s1, s2, s3, s4, s5, s6, s7, s8, s9, s10, s11⟩ := HU.out _ HD6.out
  rw [HLL.out] at HWN
  go_wp2_with fail
  refine (HWN.out _ _ _ HR6.out).mono ?_
  rintro e w7 ⟨v7, rfl, ho7, hb7⟩
  obtain ⟨a7, c7, rfl, r7, _⟩ := ho7.rowN HLUL.out
  have HD7 := hide (below_then HD6.out hb7)
  have HR17 := hide (HR16.out.below hb7)
  have HR7 := hide r7
  clear ho7 r7 hb7 s0 s1 s2 s3 s4 s5 s6 s7 s8 s9 s10 s11
  obtain ⟨s0, s1, s2, s3, s4, s5, s6, s7, s8, s9, s10, s11⟩ := HU.out _ HD7.out
  go_wp2_with fail
  refine (HEN.out _ _ _ HR17.out).mono ?_
  rintro e w8 ⟨v8, rfl, ho8, hb8⟩
  obtain ⟨a8, c8, rfl, r8, _⟩ := ho8.rowN HWL.out
  have HD8 := hide (below_then HD7.out hb8)
  have HR18 := hide (HR17.out.below hb8)
  have HR78 := hide (HR7.out.below hb8)
  have HR8 := hide r8
  clear ho8 r8 hb8 s0 s1 s2 s3 s4 s5 s6 s7 s8 s9 s10 s11
  rw [HWL.out] at HLU
  go_wp2_with fail
  refine (HLU.out _ _ _ HR8.out).mono ?_
  rintro e w9 ⟨v9, rfl, ho9, hb9⟩
  obtain ⟨a9, c9, rfl, r9, _⟩ := ho9.rowN HLUL.out
  have HD9 := hide (below_then HD8.out hb9)
  have HR19 := hide (HR18.out.below hb9)
  have HR79 := hide (HR78.out.below hb9)
  have HR89 := hide (HR8.out.below hb9)
  have cv1 := RowA.convN (w := w9) HR79.out HLUL.out.symm c7
  have cv2 := RowA.convN (w := w9) r9 HLUL.out.symm c9
  clear ho9 r9 hb9
  generalize strN lu = slu at *
  go_wp2_with fail
  refine (num25_any _ _).mono ?_
  rintro e w' ⟨rfl, rfl⟩
  go_wp2_with fail
  refine (num25_any _ _).mono ?_
  rintro e w' ⟨rfl, rfl⟩
  go_wp2_with fail
  refine (num25_any _ _).mono ?_
  rintro e w' ⟨rfl, rfl⟩
  go_wp2_with fail
  refine (num25_any _ _).mono ?_
  rintro e w' ⟨rfl, rfl⟩
  rw [HLUL.out] at HHD
  go_wp2_with fail
  refine (HHD.out _ _ _ HR79.out).mono ?_
  rintro e w10 ⟨v10, rfl, ho10, hb10⟩
  obtain ⟨a10, c10, rfl, r10, hc10⟩ := ho10.rowN HWL.out
  have HD10 := hide (below_then HD9.out hb10)
  have HR110 := hide (HR19.out.below hb10)
  have HR810 := hide (HR89.out.below hb10)
  have HR10 := hide r10
  clear ho10 r10 hb10 cv1 cv2
  obtain ⟨s0, s1, s2, s3, s4, s5, s6, s7, s8, s9, s10, s11⟩ := HU.out _ HD10.out
  rw [HWL.out] at HIN
  go_wp2_with fail
  refine (HIN.out _ _ hc10 _ HR10.out).mono ?_
  rintro e w11 ⟨v11, rfl, ho11, hb11⟩
  obtain ⟨a11, c11, rfl, r11, _⟩ := ho11.rowN HBL.out
  have HD11 := hide (below_then HD10.out hb11)
  have cv1 := RowA.convN (w := w11) (HR10.out.below hb11) HWL.out.symm c10
  have cv2 := RowA.convN (w := w11) (HR810.out.below hb11) HWL.out.symm c8
  have cv3 := RowA.convN (w := w11) (HR110.out.below hb11) HBL.out.symm c1
  have cv4 := RowA.convN (w := w11) r11 HBL.out.symm c11
  clear ho11 r11 hb11 s0 s1 s2 s3 s4 s5 s6 s7 s8 s9 s10 s11
  generalize strN wd = swd at *
  generalize strN bl = sbl at *
  go_wp2_with fail
  refine (num25_any _ _).mono ?_
  rintro e w' ⟨rfl, rfl⟩
  go_wp2_with fail
  refine (num25_any _ _).mono ?_
  rintro e w' ⟨rfl, rfl⟩
  go_wp2_with fail
  go_ret
  exact ⟨rfl, below_then HB0.out HD11.out⟩
theorem law_mback (K R : Int) (a b c : Nat) (D : Int) (T S m : Nat) (l q z : Int) (hA : a ≤ 4294967295) (hB : b ≤ 4294967295) (hC : c ≤ 4294967295) (hT : T ≤ 18446744073709551615) (hS : S ≤ 18446744073709551615) (hM : m ≤ 18446744073709551615) (lev : Int) (ad : Option Addr) (cap : Nat) (xs : List Nat) (hl : xs.length ≤ 140737488351232) (h8 : ∀ i, xs.getD i 0 ≤ 255) (w : World) (hx : RowA w ad xs) :
    Calls Try.prog 10 #[.agg #[.int .i64 K, .int .i64 R, .int .u32 a, .int .u32 b, .int .u32 c, .int .i64 D, .int .u64 T, .int .u64 S, .int .u64 m, .int .i64 l, .int .i64 q, .int .i64 z], .int .i64 lev, .slice ad xs.length cap] w fun e w' => e = .returned (.bool true) ∧ Below w.heap.size w w' := by
  by_cases h : modE K R a b c D T S m l q z = 0
  · obtain ⟨n, r, d, l', q', z', rfl, rfl, rfl, rfl, rfl, rfl, hg⟩ := modE_gmod K R a b c D T S m l q z hA hB hC hT hS hM h
    exact back_good n r a b c d T S m l' q' z' hg lev ad cap xs hl h8 w hx
  · exact back_bad K R a b c D T S m l q z hA hB hC hT hS hM h lev ad cap xs hl h8 w hx
end Go.Proofs.Ytlbfndibgojbiaa
