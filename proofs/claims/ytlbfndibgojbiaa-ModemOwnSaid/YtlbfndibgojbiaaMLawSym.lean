/- outpostlaw25.symbols and window, walked: they return true. -/
import Derived.Test.YtlbfndibgojbiaaRows
import Derived.Test.YtlbfndibgojbiaaMLawLevels
namespace Go.Proofs.Ytlbfndibgojbiaa
open Go.RowKit
set_option linter.unusedVariables false

set_option maxRecDepth 100000 in
set_option maxHeartbeats 4000000 in
theorem lsymbols_any (K R : Int) (a b c : Nat) (D : Int) (T S m : Nat) (l q z : Int) (hA : a ≤ 4294967295) (hB : b ≤ 4294967295) (hC : c ≤ 4294967295) (hT : T ≤ 18446744073709551615) (hS : S ≤ 18446744073709551615) (hM : m ≤ 18446744073709551615) (ad : Option Addr) (cap : Nat) (xs : List Nat) (hl : xs.length ≤ 140737488351232) (h8 : ∀ i, xs.getD i 0 ≤ 255) (w : World) (hx : RowA w ad xs) :
    Calls Try.prog 11 #[.agg #[.int .i64 K, .int .i64 R, .int .u32 a, .int .u32 b, .int .u32 c, .int .i64 D, .int .u64 T, .int .u64 S, .int .u64 m, .int .i64 l, .int .i64 q, .int .i64 z], .slice ad xs.length cap] w fun e w' => e = .returned (.bool true) ∧ Below w.heap.size w w' := by
  have HA := hide fun ad cap w hx => symbols_any K R a b c D T S m l q z hA hB hC hT hS hM ad cap xs hl w hx
  have HR := hide fun ad cap w hx => rsymbols_any K R a b c D T S m l q z hA hB hC hT hS hM ad cap xs hl w hx
  have HX := hide hx
  have H8 := hide h8
  generalize symE K R a b c D T S m l q z xs = eA at *
  generalize symO K R a b c D T S m l q z xs = ya at *
  clear hx h8
  go_enter Try.func11, Try.ntmps11
  go_wp2_with fail
  have hM0 := ModB.new (K := K) (R := R) (a := a) (b := b) (c := c) (D := D) (T := T) (S := S) (m := m) (l := l) (q := q) (z := z) w
  have hb0 : Below w.heap.size w (w.alloc (.cells #[.int .i64 K, .int .i64 R, .int .u32 a, .int .u32 b, .int .u32 c, .int .i64 D, .int .u64 T, .int .u64 S, .int .u64 m, .int .i64 l, .int .i64 q, .int .i64 z] 32)) := (Below.refl _ _).alloc (Nat.le_refl _) _
  generalize w.alloc (.cells #[.int .i64 K, .int .i64 R, .int .u32 a, .int .u32 b, .int .u32 c, .int .i64 D, .int .u64 T, .int .u64 S, .int .u64 m, .int .i64 l, .int .i64 q, .int .i64 z] 32) = W0 at *
  have HU := hide fun (u : World) (hb : Below W0.heap.size W0 u) => (hM0.keep hb hM0.lt).cells
  have HB0 := hide hb0
  clear hM0 hb0
  refine (lent_any ad cap xs hl _ (HX.out.below HB0.out)).mono ?_
  rintro e w1 ⟨Lb, cl, rfl, hlb, hb1⟩
  have HL1 := hide hlb
  have HB1 := hide hb1
  clear hlb hb1
  obtain ⟨s0, s1, s2, s3, s4, s5, s6, s7, s8, s9, s10, s11⟩ := HU.out _ HB1.out
  go_wp2_with fail
  refine (HA.out _ _ _ HL1.out.rowx).mono ?_
  rintro e w2 ⟨v2, rfl, ho2, hb2⟩
  obtain ⟨a2, c2, rfl, r2, g2⟩ := ho2.rowg
  have HL2 := hide (HL1.out.below hb2)
  have HB2 := hide (below_then HB1.out hb2)
  have HR2 := hide r2
  have HG2 := hide g2
  have hz2 := hb2.size
  clear ho2 r2 hb2 g2 s0 s1 s2 s3 s4 s5 s6 s7 s8 s9 s10 s11
  obtain ⟨s0, s1, s2, s3, s4, s5, s6, s7, s8, s9, s10, s11⟩ := HU.out _ HB2.out
  go_wp2_with fail
  refine (HR.out _ _ _ (HX.out.below (below_then HB0.out HB2.out))).mono ?_
  rintro e w3 ⟨v3, rfl, ho3, hb3⟩
  obtain ⟨a3, c3, rfl, r3, g3⟩ := ho3.rowg
  have HL3 := hide (HL2.out.below hb3)
  have HB3 := hide (below_then HB2.out hb3)
  have HR23 := hide (HR2.out.below hb3)
  have HR3 := hide r3
  have HG3 := hide g3
  clear ho3 r3 hb3 g3 s0 s1 s2 s3 s4 s5 s6 s7 s8 s9 s10 s11
  go_wp2_with fail
  refine (num25_any _ _).mono ?_
  rintro e w' ⟨rfl, rfl⟩
  go_wp2_with fail
  refine (stays_any ad cap W0.heap.size Lb cl xs hl _ HL3.out (HX.out.below (below_then HB0.out HB3.out))).mono ?_
  rintro e w' ⟨rfl, n, rfl⟩
  go_wp2_with fail
  refine (spoil_any W0.heap.size Lb cl xs (fun i _ => H8.out i) hl (w3.drewN n) (show LentB (w3.drewN n) W0.heap.size Lb cl xs from OwnB.keep (w := w3) HL3.out fun _ _ => rfl)).mono ?_
  rintro e w4 ⟨rfl, hg4⟩
  have hlt := HL1.out.lt
  have cv2 := RowA.conv (w := w4) (RowA.keep HR23.out hg4.size fun b off e hb => hg4.block b hb (by have := HG2.out b off e; intro h; cases h; omega)) c2
  have cv3 := RowA.conv (w := w4) (RowA.keep HR3.out hg4.size fun b off e hb => hg4.block b hb (by have := HG3.out b off e; intro h; cases h; omega)) c3
  have HB4 := hide ((below_drewN HB3.out n).grown hg4 (by have := HB3.out.size; exact this) (fun k e => by cases e; exact hlt.1))
  generalize strN ya = sa at *
  clear hg4
  go_wp2_with fail
  go_ret
  exact ⟨rfl, below_then HB0.out HB4.out⟩
set_option maxRecDepth 100000 in
set_option maxHeartbeats 4000000 in
theorem lwindow_any (K R : Int) (a b c : Nat) (D : Int) (T S m : Nat) (l q z : Int) (hA : a ≤ 4294967295) (hB : b ≤ 4294967295) (hC : c ≤ 4294967295) (hT : T ≤ 18446744073709551615) (hS : S ≤ 18446744073709551615) (hM : m ≤ 18446744073709551615) (L : Int) (ad : Option Addr) (cap : Nat) (xs : List Nat) (hl : xs.length ≤ 140737488351232) (h8 : ∀ i, xs.getD i 0 ≤ 255) (w : World) (hx : RowA w ad xs) :
    Calls Try.prog 27 #[.agg #[.int .i64 K, .int .i64 R, .int .u32 a, .int .u32 b, .int .u32 c, .int .i64 D, .int .u64 T, .int .u64 S, .int .u64 m, .int .i64 l, .int .i64 q, .int .i64 z], .int .i64 L, .slice ad xs.length cap] w fun e w' => e = .returned (.bool true) ∧ Below w.heap.size w w' := by
  have HA := hide fun ad cap w hx => window_any K R a b c D T S m l q z hA hB hC hT hS hM L ad cap xs hl h8 w hx
  have HR := hide fun ad cap w hx => rwindow_any K R a b c D T S m l q z hA hB hC hT hS hM L ad cap xs hl h8 w hx
  have HX := hide hx
  have H8 := hide h8
  generalize winE K R a b c D T S m l q z L xs = eA at *
  generalize winO K R a b c D T S m l q z L xs = ya at *
  clear hx h8
  go_enter Try.func27, Try.ntmps27
  go_wp2_with fail
  have hM0 := ModB.new (K := K) (R := R) (a := a) (b := b) (c := c) (D := D) (T := T) (S := S) (m := m) (l := l) (q := q) (z := z) w
  have hb0 : Below w.heap.size w (w.alloc (.cells #[.int .i64 K, .int .i64 R, .int .u32 a, .int .u32 b, .int .u32 c, .int .i64 D, .int .u64 T, .int .u64 S, .int .u64 m, .int .i64 l, .int .i64 q, .int .i64 z] 32)) := (Below.refl _ _).alloc (Nat.le_refl _) _
  generalize w.alloc (.cells #[.int .i64 K, .int .i64 R, .int .u32 a, .int .u32 b, .int .u32 c, .int .i64 D, .int .u64 T, .int .u64 S, .int .u64 m, .int .i64 l, .int .i64 q, .int .i64 z] 32) = W0 at *
  have HU := hide fun (u : World) (hb : Below W0.heap.size W0 u) => (hM0.keep hb hM0.lt).cells
  have HB0 := hide hb0
  clear hM0 hb0
  refine (lent_any ad cap xs hl _ (HX.out.below HB0.out)).mono ?_
  rintro e w1 ⟨Lb, cl, rfl, hlb, hb1⟩
  have HL1 := hide hlb
  have HB1 := hide hb1
  clear hlb hb1
  obtain ⟨s0, s1, s2, s3, s4, s5, s6, s7, s8, s9, s10, s11⟩ := HU.out _ HB1.out
  go_wp2_with fail
  refine (HA.out _ _ _ HL1.out.rowx).mono ?_
  rintro e w2 ⟨v2, rfl, ho2, hb2⟩
  obtain ⟨a2, c2, rfl, r2, g2⟩ := ho2.rowg
  have HL2 := hide (HL1.out.below hb2)
  have HB2 := hide (below_then HB1.out hb2)
  have HR2 := hide r2
  have HG2 := hide g2
  have hz2 := hb2.size
  clear ho2 r2 hb2 g2 s0 s1 s2 s3 s4 s5 s6 s7 s8 s9 s10 s11
  obtain ⟨s0, s1, s2, s3, s4, s5, s6, s7, s8, s9, s10, s11⟩ := HU.out _ HB2.out
  go_wp2_with fail
  refine (HR.out _ _ _ (HX.out.below (below_then HB0.out HB2.out))).mono ?_
  rintro e w3 ⟨v3, rfl, ho3, hb3⟩
  obtain ⟨a3, c3, rfl, r3, g3⟩ := ho3.rowg
  have HL3 := hide (HL2.out.below hb3)
  have HB3 := hide (below_then HB2.out hb3)
  have HR23 := hide (HR2.out.below hb3)
  have HR3 := hide r3
  have HG3 := hide g3
  clear ho3 r3 hb3 g3 s0 s1 s2 s3 s4 s5 s6 s7 s8 s9 s10 s11
  go_wp2_with fail
  refine (num25_any _ _).mono ?_
  rintro e w' ⟨rfl, rfl⟩
  go_wp2_with fail
  refine (stays_any ad cap W0.heap.size Lb cl xs hl _ HL3.out (HX.out.below (below_then HB0.out HB3.out))).mono ?_
  rintro e w' ⟨rfl, n, rfl⟩
  go_wp2_with fail
  refine (spoil_any W0.heap.size Lb cl xs (fun i _ => H8.out i) hl (w3.drewN n) (show LentB (w3.drewN n) W0.heap.size Lb cl xs from OwnB.keep (w := w3) HL3.out fun _ _ => rfl)).mono ?_
  rintro e w4 ⟨rfl, hg4⟩
  have hlt := HL1.out.lt
  have cv2 := RowA.conv (w := w4) (RowA.keep HR23.out hg4.size fun b off e hb => hg4.block b hb (by have := HG2.out b off e; intro h; cases h; omega)) c2
  have cv3 := RowA.conv (w := w4) (RowA.keep HR3.out hg4.size fun b off e hb => hg4.block b hb (by have := HG3.out b off e; intro h; cases h; omega)) c3
  have HB4 := hide ((below_drewN HB3.out n).grown hg4 (by have := HB3.out.size; exact this) (fun k e => by cases e; exact hlt.1))
  generalize strN ya = sa at *
  clear hg4
  go_wp2_with fail
  go_ret
  exact ⟨rfl, below_then HB0.out HB4.out⟩
end Go.Proofs.Ytlbfndibgojbiaa
