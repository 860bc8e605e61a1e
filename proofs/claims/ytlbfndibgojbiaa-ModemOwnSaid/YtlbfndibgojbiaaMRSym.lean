/- outpostref25.Symbols, walked. -/
import Derived.Test.YtlbfndibgojbiaaRows
import Derived.Test.YtlbfndibgojbiaaMSym
import Derived.Test.YtlbfndibgojbiaaRShuf
import Derived.Test.YtlbfndibgojbiaaMB
namespace Go.Proofs.Ytlbfndibgojbiaa
open Go.RowKit
set_option linter.unusedVariables false

set_option maxRecDepth 100000 in
set_option maxHeartbeats 2000000 in
theorem rsymbols_good (n r a b c d T S m l q z : Nat) (hg : GMod n r a b c d T S m l q z) (ad : Option Addr) (cap : Nat) (xs : List Nat) (hl : xs.length = z) (hb : Bits xs) (w : World) (hx : RowA w ad xs) :
    Calls Try.prog 35 #[.agg #[.int .i64 (n + 1), .int .i64 r, .int .u32 a, .int .u32 b, .int .u32 c, .int .i64 d, .int .u64 T, .int .u64 S, .int .u64 m, .int .i64 l, .int .i64 q, .int .i64 z], .slice ad xs.length cap] w fun e w' => ∃ v, e = .returned (.tuple #[v, .int .i64 0]) ∧ OwnB w' w.heap.size v (symL n r a b c d T S m l q z xs) ∧ Below w.heap.size w w' := by
  have HC := hide (r25check_any (n + 1) r a b c d T S m l q z hg.hA hg.hB hg.hC hg.regs.1 hg.regs.2)
  rw [hg.ok] at HC
  have hz1 := hg.hz
  have HV := hide fun w hx => r1valid_yes ad cap xs (by omega) hb w hx
  have hwl : (wordF r a b c n xs).length ≤ 3165 := by rw [word_length, hg.rate, hl]; exact hg.body_le
  have HS1 := hide fun w hx => rencode_ok n a b c r hg.hr hg.hn hg.hA hg.hB hg.hC hg.ck ad cap xs (by omega) hb w hx
  have HS2 := hide fun ad cap w hx => rshuf_ok q hg.hq ad cap (wordF r a b c n xs) (by omega) w hx
  have hsl : (shufL q (wordF r a b c n xs)).length ≤ 3165 := by rw [shufL_length]; exact hwl
  have HS3 := hide fun ad cap w hx => rwhiten_ok d T S hg.reg ad cap (shufL q (wordF r a b c n xs)) (by omega) (fun i _ => shufL_all (P := fun y => y ≤ 1) (by decide) (fun i => wordF_le _ _ _ _ _ _ i) i) w hx
  have HS4 := hide fun w => r22row_ok m l hg.hm hg.mkr w
  have hwl3 : (whiteL d T S (shufL q (wordF r a b c n xs))).length ≤ 3165 := by rw [whiteL_length]; exact hsl
  have hml : (markL m l).length ≤ 64 := by rw [markL_length]; exact hg.hl.2
  have HLEN := hide hl
  have hlen : (xs.length : Int) = z := by omega
  have HX := hide hx
  unfold symL
  generalize wordF r a b c n xs = x1 at *
  generalize shufL q x1 = x2 at *
  generalize whiteL d T S x2 = x3 at *
  generalize markL m l = x4 at *
  have HL3 := hide hwl3
  have HL4 := hide hml
  clear hl hb hx hwl hg hsl hwl3 hml
  obtain ⟨z1, z2⟩ := hz1
  have hne : ((xs.length : Int) != (z : Int)) = false := by rw [hlen]; simp
  clear hlen
  go_enter Try.func35, Try.ntmps35
  go_wp2_with fail
  have hM0 := ModB.new (K := n + 1) (R := r) (a := a) (b := b) (c := c) (D := d) (T := T) (S := S) (m := m) (l := l) (q := q) (z := z) w
  have hb0 : Below w.heap.size w (w.alloc (.cells #[.int .i64 (n + 1), .int .i64 r, .int .u32 a, .int .u32 b, .int .u32 c, .int .i64 d, .int .u64 T, .int .u64 S, .int .u64 m, .int .i64 l, .int .i64 q, .int .i64 z] 32)) := (Below.refl _ _).alloc (Nat.le_refl _) _
  generalize w.alloc (.cells #[.int .i64 (n + 1), .int .i64 r, .int .u32 a, .int .u32 b, .int .u32 c, .int .i64 d, .int .u64 T, .int .u64 S, .int .u64 m, .int .i64 l, .int .i64 q, .int .i64 z] 32) = W0 at *
  have HU := hide fun (u : World) (hb : Below W0.heap.size W0 u) => (hM0.keep hb hM0.lt).cells
  have HB0 := hide hb0
  have hz0 := hM0.lt
  clear hM0 hb0
  refine (HC.out _).mono ?_
  rintro e w1 ⟨rfl, hb1⟩
  have HB1 := hide hb1
  have HX1 := hide (HX.out.below (below_then HB0.out hb1))
  obtain ⟨s0, s1, s2, s3, s4, s5, s6, s7, s8, s9, s10, s11⟩ := HU.out _ hb1
  clear hb1
  go_wp2_with fail
  refine (HV.out _ HX1.out).mono ?_
  rintro e w' ⟨rfl, rfl⟩
  go_wp2_with fail
  refine (HS1.out _ HX1.out).mono ?_
  rintro e w2 ⟨v2, rfl, ho2, hb2⟩
  obtain ⟨a2, c2, rfl, r2, _⟩ := ho2.rowg
  have HB2 := hide (below_then HB1.out hb2)
  have HR2 := hide r2
  clear s0 s1 s2 s3 s4 s5 s6 s7 s8 s9 s10 s11 hb2 ho2 r2
  obtain ⟨s0, s1, s2, s3, s4, s5, s6, s7, s8, s9, s10, s11⟩ := HU.out _ HB2.out
  go_wp2_with fail
  refine (HS2.out _ _ _ HR2.out).mono ?_
  rintro e w3 ⟨v3, rfl, ho3, hb3⟩
  obtain ⟨a3, c3, rfl, r3, _⟩ := ho3.rowg
  have HB3 := hide (below_then HB2.out hb3)
  have HR3 := hide r3
  clear s0 s1 s2 s3 s4 s5 s6 s7 s8 s9 s10 s11 hb3 ho3 r3
  obtain ⟨s0, s1, s2, s3, s4, s5, s6, s7, s8, s9, s10, s11⟩ := HU.out _ HB3.out
  go_wp2_with fail
  refine (HS3.out _ _ _ HR3.out).mono ?_
  rintro e w4 ⟨v4, rfl, ho4, hb4⟩
  obtain ⟨a4, c4, rfl, r4, _⟩ := ho4.rowg
  have HB4 := hide (below_then HB3.out hb4)
  have HR4 := hide r4
  clear s0 s1 s2 s3 s4 s5 s6 s7 s8 s9 s10 s11 hb4 ho4 r4
  obtain ⟨s0, s1, s2, s3, s4, s5, s6, s7, s8, s9, s10, s11⟩ := HU.out _ HB4.out
  go_wp2_with fail
  refine (HS4.out _).mono ?_
  rintro e w5 ⟨v5, rfl, ho5, hb5⟩
  have HO5 := hide ho5
  have HB5 := hide (below_then HB4.out hb5)
  have HR5 := hide (HR4.out.below hb5)
  have hz5 := hb5.size
  have hz4 := (below_then HB0.out HB4.out).size
  clear s0 s1 s2 s3 s4 s5 s6 s7 s8 s9 s10 s11 hb5 ho5
  go_wp2_with (first
    | (at_builtin; refine wpList_appB rfl _ _ rfl w4.heap.size _ x4 rfl HO5.out a4 x3.length c4 x3 rfl HR5.out rfl ?c1 ?c2 ?_)
    | go_in)
  case c1 => have := HL3.out; have := HL4.out; omega
  case c2 => exact hz5
  intro v6 w6 hown6 hgrow6 _
  go_wp2_with fail
  go_ret2
  exact ⟨_, rfl, hown6.mono hz4, (below_then HB0.out HB5.out).grown hgrow6 (by omega) (fun k e => by have := (HO5.out.lt e).1; omega)⟩
set_option maxHeartbeats 2000000 in
theorem rsymbols_any (K R : Int) (a b c : Nat) (D : Int) (T S m : Nat) (l q z : Int) (hA : a ≤ 4294967295) (hB : b ≤ 4294967295) (hC : c ≤ 4294967295) (hT : T ≤ 18446744073709551615) (hS : S ≤ 18446744073709551615) (hM : m ≤ 18446744073709551615) (ad : Option Addr) (cap : Nat) (xs : List Nat) (hx47 : xs.length ≤ 140737488351232) (w : World) (hx : RowA w ad xs) :
    Calls Try.prog 35 #[.agg #[.int .i64 K, .int .i64 R, .int .u32 a, .int .u32 b, .int .u32 c, .int .i64 D, .int .u64 T, .int .u64 S, .int .u64 m, .int .i64 l, .int .i64 q, .int .i64 z], .slice ad xs.length cap] w fun e w' => ∃ v, e = .returned (.tuple #[v, .int .i64 (symE K R a b c D T S m l q z xs)]) ∧ OwnB w' w.heap.size v (symO K R a b c D T S m l q z xs) ∧ Below w.heap.size w w' := by
  have HC := hide (r25check_any K R a b c D T S m l q z hA hB hC hT hS)
  by_cases h : modE K R a b c D T S m l q z = 0
  · by_cases h2 : Bits xs
    · by_cases h3 : (xs.length : Int) = z
      · rw [symE_ok h h2 h3]
        obtain ⟨n, r, d, l', q', z', rfl, rfl, rfl, rfl, rfl, rfl, hg⟩ := modE_gmod K R a b c D T S m l q z hA hB hC hT hS hM h
        rw [symO_good _ _ _ _ _ _ _ _ _ _ _ _ hg xs (by omega) h2]
        exact rsymbols_good n r a b c d T S m l' q' z' hg ad cap xs (by omega) h2 w hx
      · rw [symO_none (by rw [symE_len h h2 h3]; decide), symE_len h h2 h3]
        rw [h] at HC
        have HV := hide fun w hx => r1valid_yes ad cap xs hx47 h2 w hx
        have HX := hide hx
        have hne : ((xs.length : Int) != z) = true := bne_iff_ne.2 h3
        clear h h2 h3 hx
        go_enter Try.func35, Try.ntmps35
        go_wp2_with fail
        refine (HC.out _).mono ?_
        rintro e w1 ⟨rfl, hb1⟩
        have k1 := bk hb1 w.heap.size (by simp)
        have HB1 := hide (below_one hb1)
        clear hb1
        go_wp2_with fail
        refine (HV.out _ (HX.out.below HB1.out)).mono ?_
        rintro e w' ⟨rfl, rfl⟩
        go_wp2_with fail
        go_ret2
        exact ⟨_, rfl, OwnB.nil _ _, HB1.out⟩
    · rw [symO_none (by rw [symE_bit h h2]; decide), symE_bit h h2]
      rw [h] at HC
      have HV := hide fun w hx => r1valid_no ad cap xs hx47 h2 w hx
      have HX := hide hx
      clear h h2 hx
      go_enter Try.func35, Try.ntmps35
      go_wp2_with fail
      refine (HC.out _).mono ?_
      rintro e w1 ⟨rfl, hb1⟩
      have k1 := bk hb1 w.heap.size (by simp)
      have HB1 := hide (below_one hb1)
      clear hb1
      go_wp2_with fail
      refine (HV.out _ (HX.out.below HB1.out)).mono ?_
      rintro e w' ⟨rfl, rfl⟩
      go_wp2_with fail
      go_ret2
      exact ⟨_, rfl, OwnB.nil _ _, HB1.out⟩
  · rw [symO_none (by rw [symE_bad h]; exact h), symE_bad h]
    have nz := nzBne h
    generalize modE K R a b c D T S m l q z = ef at *
    clear h
    go_enter Try.func35, Try.ntmps35
    go_wp2_with fail
    refine (HC.out _).mono ?_
    rintro e w1 ⟨rfl, hb1⟩
    go_wp2_with fail
    go_ret2
    exact ⟨_, rfl, OwnB.nil _ _, below_one hb1⟩
end Go.Proofs.Ytlbfndibgojbiaa
