/- The law ModemOwn, walked: it returns true. -/
import Derived.Test.YtlbfndibgojbiaaRows
import Derived.Test.YtlbfndibgojbiaaMLawChecks
import Derived.Test.YtlbfndibgojbiaaMLawWin
import Derived.Test.YtlbfndibgojbiaaMBackM
import Derived.Test.YtlbfndibgojbiaaMLv15
import Derived.Test.YtlbfndibgojbiaaApartW
namespace Go.Proofs.Ytlbfndibgojbiaa
open Go.RowKit
set_option linter.unusedVariables false

/-- rows that were made one behind the other lie apart in a list of their own -/
theorem many_own {w : World} {B n : Nat} {vs : Nat → Value} {cs : Nat → List Nat} {lo hi : Nat → Nat} (ho : ∀ i, i < n → Oat w (lo i) (hi i) (vs i) (cs i)) (hlo : ∀ i, i < n → B ≤ lo i) (hm : ∀ i j, i < j → j < n → hi i ≤ lo j) (hhi : ∀ i, i < n → hi i ≤ w.heap.size) (hB : B ≤ w.heap.size)
    (C : Array Value) (hC : ∀ i, i < n → C[i]? = some (vs i)) (ty : TypeId) : ApS (w.alloc (.cells C ty)) B w.heap.size n vs cs := by
  have hn := heap_alloc_new w (.cells C ty)
  refine ⟨fun i hi' => ?_, fun i hi' => (OwnB.base (ho i hi').own (hlo i hi')).alloc _, fun i j g hi' hj hne e1 e2 => ?_, fun i hi' e => ?_, hB, by simp⟩
  · rw [cell_of_row _ w.heap.size i _ ty (0, 0) hn]; exact hC i hi'
  · have l1 := (ho i hi').own.lt (g := g) e1
    have l2 := (ho j hj).own.lt (g := g) e2
    have u1 := (ho i hi').hi g e1
    have u2 := (ho j hj).hi g e2
    rcases Nat.lt_or_gt_of_ne hne with h | h
    · have := hm i j h hj; omega
    · have := hm j i h hi'; omega
  · have := (ho i hi').hi w.heap.size e
    have := hhi i hi'
    omega
def six {α : Type} (a b c d e f : α) (i : Nat) : α := if i = 0 then a else if i = 1 then b else if i = 2 then c else if i = 3 then d else if i = 4 then e else f
theorem six_cases {n : Nat} (h : n < 6) : n = 0 ∨ n = 1 ∨ n = 2 ∨ n = 3 ∨ n = 4 ∨ n = 5 := by omega
theorem six_own {w : World} {B h0 h1 h2 h3 h4 h5 k0 k1 k2 k3 k4 k5 : Nat} {v0 v1 v2 v3 v4 v5 : Value} {x0 x1 x2 x3 x4 x5 : List Nat} (o0 : Oat w h0 k0 v0 x0) (o1 : Oat w h1 k1 v1 x1) (o2 : Oat w h2 k2 v2 x2) (o3 : Oat w h3 k3 v3 x3) (o4 : Oat w h4 k4 v4 x4) (o5 : Oat w h5 k5 v5 x5)
    (hB : B ≤ h0) (hle : h0 ≤ k0 ∧ k0 ≤ h1 ∧ h1 ≤ k1 ∧ k1 ≤ h2 ∧ h2 ≤ k2 ∧ k2 ≤ h3 ∧ h3 ≤ k3 ∧ k3 ≤ h4 ∧ h4 ≤ k4 ∧ k4 ≤ h5 ∧ h5 ≤ k5 ∧ k5 ≤ w.heap.size) (ty : TypeId) :
    ApS (w.alloc (.cells #[v0, v1, v2, v3, v4, v5] ty)) B w.heap.size 6 (six v0 v1 v2 v3 v4 v5) (six x0 x1 x2 x3 x4 x5) := by
  refine many_own (lo := six h0 h1 h2 h3 h4 h5) (hi := six k0 k1 k2 k3 k4 k5) (fun i hi => ?_) (fun i hi => ?_) (fun i j hij hj => ?_) (fun i hi => ?_) (by omega) _ (fun i hi => ?_) ty
  · rcases six_cases hi with rfl | rfl | rfl | rfl | rfl | rfl
    · exact o0
    · exact o1
    · exact o2
    · exact o3
    · exact o4
    · exact o5
  · rcases six_cases hi with rfl | rfl | rfl | rfl | rfl | rfl <;> simp [six] <;> omega
  · have hi : i < 6 := by omega
    rcases six_cases hi with rfl | rfl | rfl | rfl | rfl | rfl <;> rcases six_cases hj with rfl | rfl | rfl | rfl | rfl | rfl <;> first | omega | (simp [six]; omega)
  · rcases six_cases hi with rfl | rfl | rfl | rfl | rfl | rfl <;> simp [six] <;> omega
  · rcases six_cases hi with rfl | rfl | rfl | rfl | rfl | rfl <;> rfl
set_option maxRecDepth 100000 in
set_option maxHeartbeats 4000000 in
theorem own_bad (K R : Int) (a b c : Nat) (D : Int) (T S m : Nat) (l q z : Int) (hA : a ≤ 4294967295) (hB : b ≤ 4294967295) (hC : c ≤ 4294967295) (hT : T ≤ 18446744073709551615) (hS : S ≤ 18446744073709551615) (hM : m ≤ 18446744073709551615) (hE : modE K R a b c D T S m l q z ≠ 0) (ad : Option Addr) (cap : Nat) (xs : List Nat) (hl : xs.length ≤ 140737488351232) (h8 : ∀ i, xs.getD i 0 ≤ 255) (w : World) (hx : RowA w ad xs) :
    Calls Try.prog 9 #[.agg #[.int .i64 K, .int .i64 R, .int .u32 a, .int .u32 b, .int .u32 c, .int .i64 D, .int .u64 T, .int .u64 S, .int .u64 m, .int .i64 l, .int .i64 q, .int .i64 z], .slice ad xs.length cap] w fun e w' => e = .returned (.bool true) ∧ Below w.heap.size w w' := by
  have HRW := hide fun w hx => row25_any K R a b c D T S m l q z ad cap xs hl h8 w hx
  have HSY := hide fun ad cap w hx => symbols_any K R a b c D T S m l q z hA hB hC hT hS hM ad cap (rowL z xs) (by rw [rowL_length]; have := rowN_le z; omega) w hx
  rw [symO_none (by rw [symE_bad hE]; exact hE), symE_bad hE] at HSY
  have HC := hide (r25check_any K R a b c D T S m l q z hA hB hC hT hS)
  have HX := hide hx
  have hne := nzBne hE
  generalize rowL z xs = bl at *
  generalize modE K R a b c D T S m l q z = ef at *
  clear hx h8 hE
  go_enter Try.func9, Try.ntmps9
  go_wp2_with fail
  have hM0 := ModB.new (K := K) (R := R) (a := a) (b := b) (c := c) (D := D) (T := T) (S := S) (m := m) (l := l) (q := q) (z := z) w
  have hb0 : Below w.heap.size w (w.alloc (.cells #[.int .i64 K, .int .i64 R, .int .u32 a, .int .u32 b, .int .u32 c, .int .i64 D, .int .u64 T, .int .u64 S, .int .u64 m, .int .i64 l, .int .i64 q, .int .i64 z] 32)) := (Below.refl _ _).alloc (Nat.le_refl _) _
  generalize w.alloc (.cells #[.int .i64 K, .int .i64 R, .int .u32 a, .int .u32 b, .int .u32 c, .int .i64 D, .int .u64 T, .int .u64 S, .int .u64 m, .int .i64 l, .int .i64 q, .int .i64 z] 32) = W0 at *
  have HU := hide fun (u : World) (hb : Below W0.heap.size W0 u) => (hM0.keep hb hM0.lt).cells
  have HB0 := hide hb0
  clear hM0 hb0
  refine (HRW.out _ (HX.out.below HB0.out)).mono ?_
  rintro e w1 ⟨v1, rfl, ho1, hb1⟩
  obtain ⟨a1, c1, rfl, r1, _⟩ := ho1.rowg
  have HR1 := hide r1
  have HD1 := hide hb1
  obtain ⟨s0, s1, s2, s3, s4, s5, s6, s7, s8, s9, s10, s11⟩ := HU.out _ hb1
  clear ho1 r1 hb1
  go_wp2_with fail
  refine (HSY.out _ _ _ HR1.out).mono ?_
  rintro e w2 ⟨v2, rfl, ho2, hb2⟩
  have HD2 := hide (below_then HD1.out hb2)
  clear ho2 hb2 s0 s1 s2 s3 s4 s5 s6 s7 s8 s9 s10 s11
  obtain ⟨s0, s1, s2, s3, s4, s5, s6, s7, s8, s9, s10, s11⟩ := HU.out _ HD2.out
  go_wp2_with fail
  refine (HC.out _).mono ?_
  rintro e w3 ⟨rfl, hb3⟩
  have HD3 := hide (below_then HD2.out hb3)
  clear hb3 s0 s1 s2 s3 s4 s5 s6 s7 s8 s9 s10 s11
  obtain ⟨s0, s1, s2, s3, s4, s5, s6, s7, s8, s9, s10, s11⟩ := HU.out _ HD3.out
  go_wp2_with fail
  refine (HC.out _).mono ?_
  rintro e w4 ⟨rfl, hb4⟩
  go_wp2_with fail
  refine (knows25_any _).mono ?_
  rintro e w5 ⟨rfl, hb5⟩
  go_wp2_with fail
  go_ret
  exact ⟨rfl, below_then HB0.out (below_then (below_then HD3.out hb4) hb5)⟩
theorem rowN_nat2 {z : Nat} (h : 1 ≤ z ∧ z ≤ 1024) : rowN (z : Int) = z := by unfold rowN; omega
theorem Mny.rowA {w u : World} {n : Nat} {vs : Nat → Value} {ad : Option Addr} {xs : List Nat} (h : Mny w u n vs) (hr : RowA w ad xs) (hne : ∀ b off, ad = some ⟨b, off, none⟩ → ∀ i, i < n → (vs i).ownBlock ≠ some b) : RowA u ad xs :=
  hr.keep h.size fun b off e hb => h.block b hb (hne b off e)
set_option maxRecDepth 100000 in
set_option maxHeartbeats 8000000 in
theorem own_good (n r a b c d T S m l q z : Nat) (hg : GMod n r a b c d T S m l q z) (ad : Option Addr) (cap : Nat) (xs : List Nat) (hl : xs.length ≤ 140737488351232) (h8 : ∀ i, xs.getD i 0 ≤ 255) (w : World) (hx : RowA w ad xs) :
    Calls Try.prog 9 #[.agg #[.int .i64 (n + 1), .int .i64 r, .int .u32 a, .int .u32 b, .int .u32 c, .int .i64 d, .int .u64 T, .int .u64 S, .int .u64 m, .int .i64 l, .int .i64 q, .int .i64 z], .slice ad xs.length cap] w fun e w' => e = .returned (.bool true) ∧ Below w.heap.size w w' := by
  have HRW := hide fun w hx => row25_any (n + 1) r a b c d T S m l q z ad cap xs hl h8 w hx
  have hbl : (rowL z xs).length = z := by rw [rowL_length, rowN_nat2 hg.hz]
  have hbb := rowL_bits z xs
  generalize rowL z xs = bl at *
  have hz := hg.hz
  have hl64 := hg.hl
  have hbd := hg.body_le
  have hN1 : 0 < (z + n) * r := Nat.mul_pos (by omega) (by rcases hg.hr with e | e <;> omega)
  have HSY := hide fun ad cap w hx => symbols_good n r a b c d T S m l q z hg ad cap bl hbl hbb w hx
  rw [hbl] at HSY
  have HC := hide (r25check_any (n + 1) r a b c d T S m l q z hg.hA hg.hB hg.hC hg.regs.1 hg.regs.2)
  rw [hg.ok] at HC
  have hsl : (symL n r a b c d T S m l q z bl).length = l + (z + n) * r := symL_len n r a b c d T S m l q z hg bl hbl
  have hsb : Bits (symL n r a b c d T S m l q z bl) := by
    intro i hi
    unfold symL
    rcases Nat.lt_or_ge i l with h | h
    · rw [show (markL m l ++ whiteL d T S (shufL q (wordF r a b c n bl))).getD i 0 = (markL m l).getD i 0 by simp only [List.getD]; rw [List.getElem?_append_left (by rw [markL_length]; exact h)]]
      unfold markL
      rw [fill_at _ h]
      unfold markB
      omega
    · rw [show (markL m l ++ whiteL d T S (shufL q (wordF r a b c n bl))).getD i 0 = (whiteL d T S (shufL q (wordF r a b c n bl))).getD (i - l) 0 by simp only [List.getD]; rw [List.getElem?_append_right (by rw [markL_length]; exact h), markL_length]]
      have hw : ∀ i, (whiteL d T S (shufL q (wordF r a b c n bl))).getD i 0 ≤ 1 := fun i => by
        rcases Nat.lt_or_ge i (whiteL d T S (shufL q (wordF r a b c n bl))).length with h | h
        · exact whiteL_le _ _ _ _ (fun i _ => shufL_all (P := fun y => y ≤ 1) (by decide) (wordF_le _ _ _ _ _ _) i) i h
        · rw [getD_far' h]; omega
      exact hw _
  have HLV := hide fun ad cap w hx => mlevels_ok 2 ⟨by omega, by omega⟩ ad cap (symL n r a b c d T S m l q z bl) (by omega) hsb w hx
  rw [hsl] at HLV
  have hll : (levL 2 (symL n r a b c d T S m l q z bl)).length = l + (z + n) * r := by rw [levL_length]; exact hsl
  have hlv : Lev 2 (levL 2 (symL n r a b c d T S m l q z bl)) := levL_lev 2 (by omega) _ hsb.all
  have HHD := hide fun ad cap w hx => mhard_ok 2 ⟨by omega, by omega⟩ ad cap (levL 2 (symL n r a b c d T S m l q z bl)) (by omega) hlv w hx
  rw [hll] at HHD
  have hhl : (hardL 2 (levL 2 (symL n r a b c d T S m l q z bl))).length = l + (z + n) * r := by rw [hardL_length]; exact hll
  have hdl : ((levL 2 (symL n r a b c d T S m l q z bl)).drop l).length = (z + n) * r := by rw [List.length_drop, hll]; omega
  have hdv : Lev 2 ((levL 2 (symL n r a b c d T S m l q z bl)).drop l) := by
    intro i hi
    have := hlv.all (by omega) (l + i)
    simpa [List.getD, List.getElem?_drop] using this
  have HWN := hide fun ad cap w hx => window_good n r a b c d T S m l q z hg 2 ⟨by omega, by omega⟩ ad cap ((levL 2 (symL n r a b c d T S m l q z bl)).drop l) hdl hdv w hx
  rw [hdl] at HWN
  have HWF := hide fun ad cap nn (hn : nn = (z + n) * r) w (hx : RowA w ad ((levL 2 (symL n r a b c d T S m l q z bl)).drop l)) => (by subst hn; exact HWN.out ad cap w hx : Calls Try.prog 29 #[.agg #[.int .i64 (n + 1), .int .i64 r, .int .u32 a, .int .u32 b, .int .u32 c, .int .i64 d, .int .u64 T, .int .u64 S, .int .u64 m, .int .i64 l, .int .i64 q, .int .i64 z], .int .i64 2, .slice ad nn cap] w fun e w' => ∃ v, e = .returned (.tuple #[v, .int .i64 0]) ∧ OwnB w' w.heap.size v (winL d T S q 2 ((levL 2 (symL n r a b c d T S m l q z bl)).drop l)) ∧ Below w.heap.size w w')
  have hwl : (winL d T S q 2 ((levL 2 (symL n r a b c d T S m l q z bl)).drop l)).length = (z + n) * r := by rw [winL_length]; exact hdl
  have HX := hide hx
  clear hx h8 hbb hsb hlv hdv hg
  generalize winL d T S q 2 ((levL 2 (symL n r a b c d T S m l q z bl)).drop l) = wn at *
  generalize symL n r a b c d T S m l q z bl = sy at *
  generalize hardL 2 (levL 2 sy) = hs at *
  generalize levL 2 sy = lw at *
  generalize (z + n) * r = N at *
  have HSL := hide hsl
  have HLL := hide hll
  have HHL := hide hhl
  have HWL := hide hwl
  have HBL := hide hbl
  clear hsl hll hhl hwl hbl hdl
  obtain ⟨z1, z2⟩ := hz
  obtain ⟨l1, l2⟩ := hl64
  go_enter Try.func9, Try.ntmps9
  go_wp2_with fail
  have hM0 := ModB.new (K := n + 1) (R := r) (a := a) (b := b) (c := c) (D := d) (T := T) (S := S) (m := m) (l := l) (q := q) (z := z) w
  have hb0 : Below w.heap.size w (w.alloc (.cells #[.int .i64 (n + 1), .int .i64 r, .int .u32 a, .int .u32 b, .int .u32 c, .int .i64 d, .int .u64 T, .int .u64 S, .int .u64 m, .int .i64 l, .int .i64 q, .int .i64 z] 32)) := (Below.refl _ _).alloc (Nat.le_refl _) _
  generalize w.alloc (.cells #[.int .i64 (n + 1), .int .i64 r, .int .u32 a, .int .u32 b, .int .u32 c, .int .i64 d, .int .u64 T, .int .u64 S, .int .u64 m, .int .i64 l, .int .i64 q, .int .i64 z] 32) = W0 at *
  have HM := hide fun (u : World) (hb : Below W0.heap.size W0 u) => (hM0.keep hb hM0.lt)
  have HU := hide fun (u : World) (hb : Below W0.heap.size W0 u) => (hM0.keep hb hM0.lt).cells
  have HB0 := hide hb0
  have hg0 := hM0.lt
  clear hM0 hb0
  refine (HRW.out _ (HX.out.below HB0.out)).mono ?_
  rintro e w1 ⟨v1, rfl, ho1, hb1⟩
  obtain ⟨a1, c1, e1, r1, g1⟩ := ho1.rowg
  rw [HBL.out] at e1
  subst e1
  have HG1 := hide g1
  have HR1 := hide r1
  have HD1 := hide hb1
  have z01 := hb1.size
  obtain ⟨s0, s1, s2, s3, s4, s5, s6, s7, s8, s9, s10, s11⟩ := HU.out _ hb1
  clear ho1 r1 hb1 g1
  go_wp2_with fail
  refine (HSY.out _ _ _ HR1.out).mono ?_
  rintro e w2 ⟨v2, rfl, ho2, hb2⟩
  have HA2 := hide (Oat.new ho2)
  obtain ⟨a2, c2, rfl, r2, _⟩ := ho2.rowN HSL.out
  have HR2 := hide r2
  have HD2 := hide (below_then HD1.out hb2)
  have HR12 := hide (HR1.out.below hb2)
  have z12 := hb2.size
  clear ho2 r2 hb2 s0 s1 s2 s3 s4 s5 s6 s7 s8 s9 s10 s11
  obtain ⟨s0, s1, s2, s3, s4, s5, s6, s7, s8, s9, s10, s11⟩ := HU.out _ HD2.out
  go_wp2_with fail
  refine (HC.out _).mono ?_
  rintro e w3 ⟨rfl, hb3⟩
  have HB23 := hide hb3
  clear hb3 s0 s1 s2 s3 s4 s5 s6 s7 s8 s9 s10 s11
  go_wp2_with fail
  refine (num25_any _ _).mono ?_
  rintro e w' ⟨rfl, rfl⟩
  go_wp2_with fail
  refine (knows25_any _).mono ?_
  rintro e w4 ⟨rfl, hb4⟩
  have HB24 := hide (below_then HB23.out hb4)
  have HD4 := hide (below_then HD2.out HB24.out)
  have HA24 := hide (HA2.out.below HB24.out)
  have HR14 := hide (HR12.out.below HB24.out)
  have HR24 := hide (HR2.out.below HB24.out)
  have z24 := HB24.out.size
  clear hb4
  obtain ⟨s0, s1, s2, s3, s4, s5, s6, s7, s8, s9, s10, s11⟩ := HU.out _ HD4.out
  have hlm : ¬ ((l + N : Nat) : Int) < l := by omega
  have hlm2 : decide (((l + N : Nat) : Int) < (l : Int)) = false := decide_eq_false hlm
  clear hlm
  go_wp2_with fail
  refine (HSY.out _ _ _ HR14.out).mono ?_
  rintro e w5 ⟨v5, rfl, ho5, hb5⟩
  have HA5 := hide (Oat.new ho5)
  obtain ⟨a5, c5, rfl, r5, _⟩ := ho5.rowN HSL.out
  have HD5 := hide (below_then HD4.out hb5)
  have HA25 := hide (HA24.out.below hb5)
  have HR15 := hide (HR14.out.below hb5)
  have HR25 := hide (HR24.out.below hb5)
  have HR5 := hide r5
  have z45 := hb5.size
  clear ho5 r5 hb5 s0 s1 s2 s3 s4 s5 s6 s7 s8 s9 s10 s11
  obtain ⟨s0, s1, s2, s3, s4, s5, s6, s7, s8, s9, s10, s11⟩ := HU.out _ HD5.out
  have hsub3 : (l : Int) + N - l = N := by omega
  go_wp2_with fail
  refine (HLV.out _ _ _ HR25.out).mono ?_
  rintro e w6 ⟨v6, rfl, ho6, hb6⟩
  have HA6 := hide (Oat.new ho6)
  obtain ⟨a6, c6, rfl, r6, hc6⟩ := ho6.rowN HLL.out
  have HD6 := hide (below_then HD5.out hb6)
  have HA26 := hide (HA25.out.below hb6)
  have HA56 := hide (HA5.out.below hb6)
  have HR16 := hide (HR15.out.below hb6)
  have HR26 := hide (HR25.out.below hb6)
  have HR56 := hide (HR5.out.below hb6)
  have HR6 := hide r6
  have z56 := hb6.size
  clear ho6 r6 hb6 s0 s1 s2 s3 s4 s5 s6 s7 s8 s9 s10 s11
  go_wp2_with fail
  refine (HHD.out _ _ _ HR6.out).mono ?_
  rintro e w7 ⟨v7, rfl, ho7, hb7⟩
  have HA7 := hide (Oat.new ho7)
  obtain ⟨a7, c7, rfl, r7, _⟩ := ho7.rowN HHL.out
  have HD7 := hide (below_then HD6.out hb7)
  have HA27 := hide (HA26.out.below hb7)
  have HA57 := hide (HA56.out.below hb7)
  have HA67 := hide (HA6.out.below hb7)
  have HR17 := hide (HR16.out.below hb7)
  have HR27 := hide (HR26.out.below hb7)
  have HR57 := hide (HR56.out.below hb7)
  have HR67 := hide (HR6.out.below hb7)
  have z67 := hb7.size
  clear ho7 r7 hb7
  obtain ⟨s0, s1, s2, s3, s4, s5, s6, s7, s8, s9, s10, s11⟩ := HU.out _ HD7.out
  obtain ⟨b6, o6, rfl, _, _⟩ := HR67.out.at_ (i := 0) (by rw [HLL.out]; omega)
  have HRD := hide (HR67.out.drop l)
  have hlc : (l : Int) ≤ c6 := by omega
  have hlc2 : (l : Int) < c6 := by omega
  have hlc3 : (l : Int) ≤ ((l + N : Nat) : Int) := by omega
  have hl0 : (0 : Int) ≤ l := by omega
  have hwr2 : IntKind.i64.wrap ((l : Int) + N - N) = l := by rw [IntWalk.i64_in _ ⟨by omega, by omega⟩]; omega
  have hwr3 : IntKind.i64.wrap (l : Int) = l := IntWalk.i64_in _ ⟨by omega, by omega⟩
  go_wp2_with fail
  go_region_held3 (fun u => u.cell? ⟨w.heap.size, 0, none⟩ = some (.int .i64 (n + 1)) ∧ u.cell? ⟨w.heap.size, 1, none⟩ = some (.int .i64 r) ∧ u.cell? ⟨w.heap.size, 2, none⟩ = some (.int .u32 a) ∧ u.cell? ⟨w.heap.size, 3, none⟩ = some (.int .u32 b) ∧ u.cell? ⟨w.heap.size, 4, none⟩ = some (.int .u32 c) ∧ u.cell? ⟨w.heap.size, 5, none⟩ = some (.int .i64 d) ∧ u.cell? ⟨w.heap.size, 6, none⟩ = some (.int .u64 T) ∧ u.cell? ⟨w.heap.size, 7, none⟩ = some (.int .u64 S) ∧ u.cell? ⟨w.heap.size, 8, none⟩ = some (.int .u64 m) ∧ u.cell? ⟨w.heap.size, 9, none⟩ = some (.int .i64 l) ∧ u.cell? ⟨w.heap.size, 10, none⟩ = some (.int .i64 q) ∧ u.cell? ⟨w.heap.size, 11, none⟩ = some (.int .i64 z))
    (first | exact HU.out _ HD7.out.drew | exact HU.out _ (below_then HD7.out.drew hb8) | exact HU.out _ (below_then HD7.out hb8))
    ((go_at_call 29; refine (HWF.out _ _ _ ?hn1 _ ?hr1).mono ?_; (case hn1 => omega); (case hr1 => (rw [if_neg (by omega)]; exact HRD.out)); rintro e w8 ⟨v8, rfl, ho8, hb8⟩))
  have HD8 := hide (below_then HD7.out.drew hb8)
  have HB78 := hide (show Below w7.heap.size w7 w8 from below_then (Below.refl _ _).drew hb8)
  have HA8 := hide (show Oat w8 w7.heap.size w8.heap.size v8 wn from Oat.new ho8)
  have ho8' := ho8
  obtain ⟨a8, c8, rfl, r8, _⟩ := ho8'.rowN HWL.out
  have HR8 := hide r8
  have z78 := HB78.out.size
  clear ho8 ho8' r8 hb8 s0 s1 s2 s3 s4 s5 s6 s7 s8 s9 s10 s11
  obtain ⟨s0, s1, s2, s3, s4, s5, s6, s7, s8, s9, s10, s11⟩ := HU.out _ HD8.out
  have HRD8 := hide (HRD.out.below HB78.out)
  go_wp2_with fail
  go_region_held3 (fun u => u.cell? ⟨w.heap.size, 0, none⟩ = some (.int .i64 (n + 1)) ∧ u.cell? ⟨w.heap.size, 1, none⟩ = some (.int .i64 r) ∧ u.cell? ⟨w.heap.size, 2, none⟩ = some (.int .u32 a) ∧ u.cell? ⟨w.heap.size, 3, none⟩ = some (.int .u32 b) ∧ u.cell? ⟨w.heap.size, 4, none⟩ = some (.int .u32 c) ∧ u.cell? ⟨w.heap.size, 5, none⟩ = some (.int .i64 d) ∧ u.cell? ⟨w.heap.size, 6, none⟩ = some (.int .u64 T) ∧ u.cell? ⟨w.heap.size, 7, none⟩ = some (.int .u64 S) ∧ u.cell? ⟨w.heap.size, 8, none⟩ = some (.int .u64 m) ∧ u.cell? ⟨w.heap.size, 9, none⟩ = some (.int .i64 l) ∧ u.cell? ⟨w.heap.size, 10, none⟩ = some (.int .i64 q) ∧ u.cell? ⟨w.heap.size, 11, none⟩ = some (.int .i64 z))
    (first | exact HU.out _ HD8.out.drew | exact HU.out _ (below_then HD8.out.drew hb9) | exact HU.out _ (below_then HD8.out hb9))
    ((go_at_call 29; refine (HWF.out _ _ _ ?hn2 _ ?hr2).mono ?_; (case hn2 => omega); (case hr2 => (first | exact HRD8.out | (rw [if_neg (by omega)]; exact HRD8.out))); rintro e w9 ⟨v9, rfl, ho9, hb9⟩))
  have HD9 := hide (below_then HD8.out.drew hb9)
  have HB89 := hide (show Below w8.heap.size w8 w9 from below_then (Below.refl _ _).drew hb9)
  have HB79 := hide (below_then HB78.out HB89.out)
  have HA9 := hide (show Oat w9 w8.heap.size w9.heap.size v9 wn from Oat.new ho9)
  have ho9' := ho9
  obtain ⟨a9, c9, rfl, r9, _⟩ := ho9'.rowN HWL.out
  have z89 := HB89.out.size
  have cv1 := RowA.convN (w := w9) (HR27.out.below HB79.out) HSL.out.symm c2
  have cv2 := RowA.convN (w := w9) (HR57.out.below HB79.out) HSL.out.symm c5
  have cv3 := RowA.convN (w := w9) (HR8.out.below HB89.out) HWL.out.symm c8
  have cv4 := RowA.convN (w := w9) r9 HWL.out.symm c9
  clear ho9 ho9' r9 hb9 s0 s1 s2 s3 s4 s5 s6 s7 s8 s9 s10 s11
  have hsix := six_own (B := W0.heap.size) (HA27.out.below HB79.out) (HA57.out.below HB79.out) (HA67.out.below HB79.out) (HA7.out.below HB79.out) (HA8.out.below HB89.out) HA9.out (by omega) ⟨by omega, by omega, by omega, by omega, by omega, by omega, by omega, by omega, by omega, by omega, by omega, by omega⟩ 33
  have HAP := hide (apart_any W0.heap.size w9.heap.size 6 6 _ _ (by omega) (fun i hi => by
    have h1 := HSL.out; have h2 := HLL.out; have h3 := HHL.out; have h4 := HWL.out
    rcases six_cases hi with rfl | rfl | rfl | rfl | rfl | rfl <;> simp [six] <;> omega) _ hsix)
  have HVS := hide fun i (hi : i < 6) b (e : (six (Value.slice a2 (l + N) c2) (Value.slice a5 (l + N) c5) (Value.slice (some ⟨b6, o6, none⟩) (l + N) c6) (Value.slice a7 (l + N) c7) (Value.slice a8 N c8) (Value.slice a9 N c9) i).ownBlock = some b) => (show w1.heap.size ≤ b by
    rcases six_cases hi with rfl | rfl | rfl | rfl | rfl | rfl
    · have := (HA27.out.own.lt e).1; omega
    · have := (HA57.out.own.lt e).1; omega
    · have := (HA67.out.own.lt e).1; omega
    · have := (HA7.out.own.lt e).1; omega
    · have := (HA8.out.own.lt e).1; omega
    · have := (HA9.out.own.lt e).1; omega)
  clear hsix
  have hstr : ∃ ssy, strN sy = ssy := ⟨_, rfl⟩
  obtain ⟨ssy, hstr⟩ := hstr
  have HSTR := hide hstr
  rw [hstr] at cv1 cv2
  clear hstr
  generalize strN wn = swn at *
  go_wp2_with fail
  refine (num25_any _ _).mono ?_
  rintro e w' ⟨rfl, rfl⟩
  go_wp2_with fail
  refine (num25_any _ _).mono ?_
  rintro e w' ⟨rfl, rfl⟩
  go_wp2_with fail
  refine (num25_any _ _).mono ?_
  rintro e w' ⟨rfl, rfl⟩
  go_wp2_with fail
  refine (num25_any _ _).mono ?_
  rintro e w' ⟨rfl, rfl⟩
  go_wp2_with fail
  refine (num25_any _ _).mono ?_
  rintro e w' ⟨rfl, rfl⟩
  go_wp2_with fail
  refine HAP.out.mono ?_
  rintro e w10 ⟨rfl, hmy⟩
  have z09 := HD9.out.size
  have HBA := hide (show Below W0.heap.size W0 (w9.alloc (.cells #[Value.slice a2 (l + N) c2, Value.slice a5 (l + N) c5, Value.slice (some ⟨b6, o6, none⟩) (l + N) c6, Value.slice a7 (l + N) c7, Value.slice a8 N c8, Value.slice a9 N c9] 33)) from HD9.out.alloc HD9.out.size _)
  have HD10 := hide (Mny.then_ HBA.out hmy (fun i k hi e => by have := HVS.out i hi k e; omega) HBA.out.size)
  have HR110 := hide (Mny.rowA hmy (RowA.alloc (HR17.out.below HB79.out) _) (fun b off e i hi h => by have h1 := (HG1.out b off e).2; have h2 := HVS.out i hi b h; omega))
  clear hmy cv1 cv2 cv3 cv4 HAP HVS
  obtain ⟨s0, s1, s2, s3, s4, s5, s6, s7, s8, s9, s10, s11⟩ := HU.out _ HD10.out
  go_wp2_with fail
  refine (HSY.out _ _ _ HR110.out).mono ?_
  rintro e w11 ⟨v11, rfl, ho11, hb11⟩
  obtain ⟨a11, c11, rfl, r11, _⟩ := ho11.rowN HSL.out
  have HD11 := hide (below_then HD10.out hb11)
  have HSSY := hide (r11.convN HSL.out.symm c11)
  rw [HSTR.out] at HSSY
  clear ho11 r11 hb11 s0 s1 s2 s3 s4 s5 s6 s7 s8 s9 s10 s11
  have cv5 := HSSY.out
  go_wp2_with fail
  refine (num25_any _ _).mono ?_
  rintro e w' ⟨rfl, rfl⟩
  go_wp2_with fail
  go_ret
  exact ⟨rfl, below_then HB0.out HD11.out⟩
theorem law_mown (K R : Int) (a b c : Nat) (D : Int) (T S m : Nat) (l q z : Int) (hA : a ≤ 4294967295) (hB : b ≤ 4294967295) (hC : c ≤ 4294967295) (hT : T ≤ 18446744073709551615) (hS : S ≤ 18446744073709551615) (hM : m ≤ 18446744073709551615) (ad : Option Addr) (cap : Nat) (xs : List Nat) (hl : xs.length ≤ 140737488351232) (h8 : ∀ i, xs.getD i 0 ≤ 255) (w : World) (hx : RowA w ad xs) :
    Calls Try.prog 9 #[.agg #[.int .i64 K, .int .i64 R, .int .u32 a, .int .u32 b, .int .u32 c, .int .i64 D, .int .u64 T, .int .u64 S, .int .u64 m, .int .i64 l, .int .i64 q, .int .i64 z], .slice ad xs.length cap] w fun e w' => e = .returned (.bool true) ∧ Below w.heap.size w w' := by
  by_cases h : modE K R a b c D T S m l q z = 0
  · obtain ⟨n, r, d, l', q', z', rfl, rfl, rfl, rfl, rfl, rfl, hg⟩ := modE_gmod K R a b c D T S m l q z hA hB hC hT hS hM h
    exact own_good n r a b c d T S m l' q' z' hg ad cap xs hl h8 w hx
  · exact own_bad K R a b c D T S m l q z hA hB hC hT hS hM h ad cap xs hl h8 w hx
end Go.Proofs.Ytlbfndibgojbiaa
