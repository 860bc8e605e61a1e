/- modem.Symbols, walked. -/
import Derived.Test.YtlbfndibgojbiaaRows
import Derived.Test.YtlbfndibgojbiaaMThru
import Derived.Test.YtlbfndibgojbiaaMPred
namespace Go.Proofs.Ytlbfndibgojbiaa
open Go.RowKit
set_option linter.unusedVariables false

/-- a frame's symbols -/
def symL (n r a b c d T S m l q z : Nat) (xs : List Nat) : List Nat := markL m l ++ whiteL d T S (shufL q (wordF r a b c n xs))
open Classical in
/-- the error of Symbols -/
noncomputable def symE (K R : Int) (a b c : Nat) (D : Int) (T S m : Nat) (l q z : Int) (xs : List Nat) : Int := if modE K R a b c D T S m l q z ≠ 0 then modE K R a b c D T S m l q z else if ¬ Bits xs then 10 else if (xs.length : Int) ≠ z then 5 else 0
open Classical in
noncomputable def symO (K R : Int) (a b c : Nat) (D : Int) (T S m : Nat) (l q z : Int) (xs : List Nat) : List Nat := if symE K R a b c D T S m l q z xs = 0 then symL (K - 1).toNat R.toNat a b c D.toNat T S m l.toNat q.toNat z.toNat xs else []
section
variable {K R : Int} {a b c : Nat} {D : Int} {T S m : Nat} {l q z : Int} {xs : List Nat}
theorem symE_bad (h : modE K R a b c D T S m l q z ≠ 0) : symE K R a b c D T S m l q z xs = modE K R a b c D T S m l q z := if_pos h
theorem symE_bit (h : modE K R a b c D T S m l q z = 0) (h2 : ¬ Bits xs) : symE K R a b c D T S m l q z xs = 10 := by unfold symE; rw [if_neg (by simpa using h), if_pos h2]
theorem symE_len (h : modE K R a b c D T S m l q z = 0) (h2 : Bits xs) (h3 : (xs.length : Int) ≠ z) : symE K R a b c D T S m l q z xs = 5 := by unfold symE; rw [if_neg (by simpa using h), if_neg (by simpa using h2), if_pos h3]
theorem symE_ok (h : modE K R a b c D T S m l q z = 0) (h2 : Bits xs) (h3 : (xs.length : Int) = z) : symE K R a b c D T S m l q z xs = 0 := by unfold symE; rw [if_neg (by simpa using h), if_neg (by simpa using h2), if_neg (by simpa using h3)]
theorem symO_none (h : symE K R a b c D T S m l q z xs ≠ 0) : symO K R a b c D T S m l q z xs = [] := if_neg h
theorem symO_some (h : symE K R a b c D T S m l q z xs = 0) : symO K R a b c D T S m l q z xs = symL (K - 1).toNat R.toNat a b c D.toNat T S m l.toNat q.toNat z.toNat xs := if_pos h
end
theorem symO_good (n r a b c d T S m l q z : Nat) (hg : GMod n r a b c d T S m l q z) (xs : List Nat) (hl : xs.length = z) (hb : Bits xs) : symO (n + 1) r a b c d T S m l q z xs = symL n r a b c d T S m l q z xs := by
  rw [symO_some (symE_ok hg.ok hb (by omega))]
  simp only [Int.toNat_natCast]
  rw [show ((n : Int) + 1 - 1).toNat = n by omega]
theorem symL_len (n r a b c d T S m l q z : Nat) (hg : GMod n r a b c d T S m l q z) (xs : List Nat) (hl : xs.length = z) : (symL n r a b c d T S m l q z xs).length = l + (z + n) * r := by
  unfold symL
  rw [List.length_append, markL_length, whiteL_length, shufL_length, word_length, hg.rate, hl]
set_option maxRecDepth 100000 in
set_option maxHeartbeats 2000000 in
theorem symbols_good (n r a b c d T S m l q z : Nat) (hg : GMod n r a b c d T S m l q z) (ad : Option Addr) (cap : Nat) (xs : List Nat) (hl : xs.length = z) (hb : Bits xs) (w : World) (hx : RowA w ad xs) :
    Calls Try.prog 30 #[.agg #[.int .i64 (n + 1), .int .i64 r, .int .u32 a, .int .u32 b, .int .u32 c, .int .i64 d, .int .u64 T, .int .u64 S, .int .u64 m, .int .i64 l, .int .i64 q, .int .i64 z], .slice ad xs.length cap] w fun e w' => ∃ v, e = .returned (.tuple #[v, .int .i64 0]) ∧ OwnB w' w.heap.size v (symL n r a b c d T S m l q z xs) ∧ Below w.heap.size w w' := by
  have hmf : ∀ (fn : Fn) (first cap : Array Value) (w : World), (Instr.makeFunc fn first cap).run Try.prog w = .ok (.func fn first cap) w := fun _ _ _ _ => rfl
  have HC := hide (modcheck_any (n + 1) r a b c d T S m l q z hg.hA hg.hB hg.hC hg.regs.1 hg.regs.2)
  rw [hg.ok] at HC
  have hz1 := hg.hz
  have HV := hide fun w hx => valid_yes ad cap xs (by omega) hb w hx
  have hwl : (wordF r a b c n xs).length ≤ 3165 := by rw [word_length, hg.rate, hl]; exact hg.body_le
  have HS1 := hide fun B g w0 hm hgB => stage1 n r a b c d T S m l q z hg B g w0 hm hgB xs hl hb
  have HS2 := hide fun B g w0 hm hgB => stage2 n r a b c d T S m l q z hg B g w0 hm hgB (wordF r a b c n xs) hwl
  have HS3 := hide fun B g w0 hm hgB => stage3 n r a b c d T S m l q z hg B g w0 hm hgB (shufL q (wordF r a b c n xs)) (by rw [shufL_length]; exact hwl) (fun i => shufL_all (P := fun y => y ≤ 1) (by decide) (fun i => wordF_le _ _ _ _ _ _ i) i)
  have HS4 := hide fun B g w0 hm hgB => stage4 n r a b c d T S m l q z hg B g w0 hm hgB (whiteL d T S (shufL q (wordF r a b c n xs))) (by rw [whiteL_length, shufL_length]; exact hwl)
  have HLEN := hide hl
  have hlen : (xs.length : Int) = z := by omega
  have HX := hide hx
  unfold symL
  generalize wordF r a b c n xs = x1 at *
  generalize shufL q x1 = x2 at *
  generalize whiteL d T S x2 = x3 at *
  generalize markL m l ++ x3 = x4 at *
  clear hl hb hx hwl hg
  obtain ⟨z1, z2⟩ := hz1
  have hne : ((xs.length : Int) != (z : Int)) = false := by rw [hlen]; simp
  clear hlen
  go_enter Try.func30, Try.ntmps30
  go_wp2_with fail
  have hM0 := ModB.new (K := n + 1) (R := r) (a := a) (b := b) (c := c) (D := d) (T := T) (S := S) (m := m) (l := l) (q := q) (z := z) w
  have hb0 : Below w.heap.size w (w.alloc (.cells #[.int .i64 (n + 1), .int .i64 r, .int .u32 a, .int .u32 b, .int .u32 c, .int .i64 d, .int .u64 T, .int .u64 S, .int .u64 m, .int .i64 l, .int .i64 q, .int .i64 z] 32)) := (Below.refl _ _).alloc (Nat.le_refl _) _
  generalize w.alloc (.cells #[.int .i64 (n + 1), .int .i64 r, .int .u32 a, .int .u32 b, .int .u32 c, .int .i64 d, .int .u64 T, .int .u64 S, .int .u64 m, .int .i64 l, .int .i64 q, .int .i64 z] 32) = W0 at *
  have HU := hide fun (u : World) (hb : Below W0.heap.size W0 u) => hM0.keep hb hM0.lt
  have HB0 := hide hb0
  have hz0 := hM0.lt
  clear hM0 hb0
  refine (HC.out _).mono ?_
  rintro e w1 ⟨rfl, hb1⟩
  have HB1 := hide hb1
  have hz2 := hb1.size
  obtain ⟨s0, s1, s2, s3, s4, s5, s6, s7, s8, s9, s10, s11⟩ := (HU.out _ hb1).cells
  clear hb1
  go_wp2_with fail
  refine (HV.out _ (HX.out.below (below_then HB0.out HB1.out))).mono ?_
  rintro e w' ⟨rfl, rfl⟩
  go_wp2_with fail
  clear s0 s1 s2 s3 s4 s5 s6 s7 s8 s9 s10 s11
  have hg0 : w.heap.size < w1.heap.size := by omega
  refine (thru4 (w1.heap.size + 1) w1.heap.size w.heap.size _ xs x1 x2 x3 x4 (HS1.out _ _ _ ((HU.out _ HB1.out).alloc _) (by omega)) (HS2.out _ _ _ ((HU.out _ HB1.out).alloc _) (by omega)) (HS3.out _ _ _ ((HU.out _ HB1.out).alloc _) (by omega)) (HS4.out _ _ _ ((HU.out _ HB1.out).alloc _) (by omega)) (by omega) ?hf ad cap (by simp) (RowA.alloc (HX.out.below (below_then HB0.out HB1.out)) _)).mono ?_
  case hf => refine ⟨?_, ?_, ?_, ?_⟩ <;> simp [go_sem]
  rintro e w2 ⟨v, rfl, ho, hb2⟩
  go_wp2_with fail
  go_ret2
  refine ⟨_, rfl, ho.mono (by omega), below_then HB0.out (below_then HB1.out ?_)⟩
  exact ((Below.refl _ _).alloc (Nat.le_refl _) _).trans (hb2.mono (by omega))
set_option maxHeartbeats 2000000 in
theorem symbols_any (K R : Int) (a b c : Nat) (D : Int) (T S m : Nat) (l q z : Int) (hA : a ≤ 4294967295) (hB : b ≤ 4294967295) (hC : c ≤ 4294967295) (hT : T ≤ 18446744073709551615) (hS : S ≤ 18446744073709551615) (hM : m ≤ 18446744073709551615) (ad : Option Addr) (cap : Nat) (xs : List Nat) (hx47 : xs.length ≤ 140737488351232) (w : World) (hx : RowA w ad xs) :
    Calls Try.prog 30 #[.agg #[.int .i64 K, .int .i64 R, .int .u32 a, .int .u32 b, .int .u32 c, .int .i64 D, .int .u64 T, .int .u64 S, .int .u64 m, .int .i64 l, .int .i64 q, .int .i64 z], .slice ad xs.length cap] w fun e w' => ∃ v, e = .returned (.tuple #[v, .int .i64 (symE K R a b c D T S m l q z xs)]) ∧ OwnB w' w.heap.size v (symO K R a b c D T S m l q z xs) ∧ Below w.heap.size w w' := by
  have HC := hide (modcheck_any K R a b c D T S m l q z hA hB hC hT hS)
  by_cases h : modE K R a b c D T S m l q z = 0
  · by_cases h2 : Bits xs
    · by_cases h3 : (xs.length : Int) = z
      · rw [symE_ok h h2 h3]
        obtain ⟨n, r, d, l', q', z', rfl, rfl, rfl, rfl, rfl, rfl, hg⟩ := modE_gmod K R a b c D T S m l q z hA hB hC hT hS hM h
        rw [symO_good _ _ _ _ _ _ _ _ _ _ _ _ hg xs (by omega) h2]
        exact symbols_good n r a b c d T S m l' q' z' hg ad cap xs (by omega) h2 w hx
      · rw [symO_none (by rw [symE_len h h2 h3]; decide), symE_len h h2 h3]
        rw [h] at HC
        have HV := hide fun w hx => valid_yes ad cap xs hx47 h2 w hx
        have HX := hide hx
        have hne : ((xs.length : Int) != z) = true := bne_iff_ne.2 h3
        clear h h2 h3 hx
        go_enter Try.func30, Try.ntmps30
        go_wp2_with fail
        refine (HC.out _).mono ?_
        rintro e w1 ⟨rfl, hb1⟩
        have k1 := bk hb1 w.heap.size (by simp)
        have HB1 := hide (below_one hb1)
        clear hb1
        go_wp2_with fail
        refine (HV.out _ (HX.out.below HB1.out)).mono ?_
        rintro e w' ⟨rfl, rfl⟩
        go_wp2_with fail
        go_ret2
        exact ⟨_, rfl, OwnB.nil _ _, HB1.out⟩
    · rw [symO_none (by rw [symE_bit h h2]; decide), symE_bit h h2]
      rw [h] at HC
      have HV := hide fun w hx => valid_no ad cap xs hx47 h2 w hx
      have HX := hide hx
      clear h h2 hx
      go_enter Try.func30, Try.ntmps30
      go_wp2_with fail
      refine (HC.out _).mono ?_
      rintro e w1 ⟨rfl, hb1⟩
      have k1 := bk hb1 w.heap.size (by simp)
      have HB1 := hide (below_one hb1)
      clear hb1
      go_wp2_with fail
      refine (HV.out _ (HX.out.below HB1.out)).mono ?_
      rintro e w' ⟨rfl, rfl⟩
      go_wp2_with fail
      go_ret2
      exact ⟨_, rfl, OwnB.nil _ _, HB1.out⟩
  · rw [symO_none (by rw [symE_bad h]; exact h), symE_bad h]
    have nz := nzBne h
    generalize modE K R a b c D T S m l q z = ef at *
    clear h
    go_enter Try.func30, Try.ntmps30
    go_wp2_with fail
    refine (HC.out _).mono ?_
    rintro e w1 ⟨rfl, hb1⟩
    go_wp2_with fail
    go_ret2
    exact ⟨_, rfl, OwnB.nil _ _, below_one hb1⟩
end Go.Proofs.Ytlbfndibgojbiaa
