/- The law LfsrFound, walked: it returns true. -/
import Derived.Test.YtknkkoemghceeaaDoorRows
import Derived.Test.YtknkkoemghceeaaDoorR2Irr
import Derived.Test.YtknkkoemghceeaaDoorRRev2
import Derived.Test.YtknkkoemghceeaaDoorR4Per
import Derived.Test.YtknkkoemghceeaaDoorLjGrows
import Derived.Test.YtknkkoemghceeaaDoorLfLive
namespace Go.Proofs.YtknkkoemghceeaaDoor
open Go.RowKit
open Gf2.BM

theorem bits_zero {S n : Nat} (hS : S < 2 ^ n) (h : ∀ j, j < n → S / 2 ^ j % 2 = 0) : S = 0 := by
  refine Nat.eq_of_testBit_eq fun j => ?_
  rw [Nat.zero_testBit]
  by_cases hj : j < n
  · rw [Nat.testBit_eq_decide_div_mod_eq, h j hj]; rfl
  · exact Nat.testBit_lt_two_pow (Nat.lt_of_lt_of_le hS (Nat.pow_le_pow_right (by omega) (by omega)))
theorem pol_odd2 {n T : Nat} (h2 : 2 ≤ n) (hT : T % 2 = 1) : (2 ^ n + T) % 2 = 1 := by
  obtain ⟨d, rfl⟩ : ∃ d, n = d + 1 := ⟨n - 1, by omega⟩
  rw [Nat.pow_succ]; omega
theorem mod_bit {x m j : Nat} (h : j < m) : x % 2 ^ m / 2 ^ j % 2 = x / 2 ^ j % 2 := by
  have := Nat.testBit_mod_two_pow x m j
  rw [Nat.testBit_eq_decide_div_mod_eq, Nat.testBit_eq_decide_div_mod_eq, show decide (j < m) = true by simpa using h, Bool.true_and] at this
  have := decide_eq_decide.1 this
  omega
/-- a register found again -/
theorem found_reg {n T S m : Nat} (hg : GoodL n T S) (hm : 2 * n ≤ m) :
    (run (rowN (firstL n T S m)) m).L ≤ n ∧ (Gf2.Irr (2 ^ n + T) → (run (rowN (firstL n T S m)) m).L = n ∧ fin (rowN (firstL n T S m)) m = Rev.revP n (2 ^ n + T)) := by
  have h2 := hg.lo
  have h20 := hg.hi
  have hat : ∀ i, i < m → (firstL n T S m).getD i 0 = Gf2.stpN n T i S % 2 := fun i hi => firstL_at n T S hi
  have hz := turned_fits (n := m) (xs := firstL n T S m) (by omega) (by omega) hg.tap hg.seed hat
  have hodd := pol_odd2 hg.lo hg.odd
  have hlt : 2 ^ n + T < 2 ^ (n + 1) := by have := hg.tap; rw [Nat.pow_succ]; omega
  have hlow := Rev.revP_low n (2 ^ n + T)
  have htop : (2 ^ n + T) / 2 ^ n % 2 = 1 := by
    have := Nat.two_pow_pos n
    rw [Nat.add_div_left _ this, Nat.div_eq_of_lt hg.tap]
  rw [htop] at hlow
  have hfit : Fits (rowN (firstL n T S m)) m n (Rev.revP n (2 ^ n + T)) := ⟨hlow, Rev.revP_lt n _, hz⟩
  have hL := run_min _ m _ _ hfit
  refine ⟨hL, fun hI => ?_⟩
  obtain ⟨hIr, hlen⟩ := hI.turned hlt hodd htop
  obtain ⟨lb, hinv⟩ := fin_inv (rowN (firstL n T S m)) m
  refine found hIr hlen hlow hz ⟨hinv.odd, hinv.deg, hinv.zero⟩ hL (by omega) (fun h0 => hg.ne (bits_zero hg.seed fun j hj => ?_))
  rw [Gf2.bit_out (T := T) hg.seed j hj, ← hat j (by omega), ← rowN_at (xs := firstL n T S m) (fun i => by
    by_cases hi : i < m
    · rw [hat i hi]; omega
    · rw [List.getD_eq_getElem?_getD, List.getElem?_eq_none (by rw [firstL_length]; omega)]; simp) j]
  have := congrArg (fun x => x / 2 ^ j % 2) h0
  simp only [Nat.zero_div, Nat.zero_mod] at this
  rw [← this, mod_bit (by omega : j < m)]
theorem lfound_bad (D : Int) (T S : Nat) (hT : T ≤ 18446744073709551615) (hS : S ≤ 18446744073709551615) (hne : lchk D T S ≠ 0) (m : Value) (w : World) (ht : TabW w) :
    Calls Tryd.prog 14 #[.agg #[.int .i64 D, .int .u64 T, .int .u64 S], m] w fun e w' => e = .returned (.bool true) ∧ Below w.heap.size w w' := by
  have HC := hide (r4check_any D T S hT hS)
  have hb := nzBne hne
  have HL := hide (fun u (h : Below w.heap.size w u) => llive_any u (ht.below h))
  generalize lchk D T S = cf at *
  clear hne ht
  go_enter Tryd.func14, Tryd.ntmps14
  go_wp2_with fail
  refine (HC.out _).mono ?_
  rintro e w1 ⟨rfl, hb1⟩
  have HB := hide (below_one hb1)
  clear hb1
  go_wp2_with fail
  refine (HL.out _ HB.out).mono ?_
  rintro e w2 ⟨rfl, hb2⟩
  go_wp2_with fail
  go_ret
  exact ⟨rfl, below_then HB.out hb2⟩
set_option maxRecDepth 100000 in
theorem lfound_size (n T S : Nat) (hg : GoodL n T S) (m : Int) (hm : m < 0 ∨ 63 - 2 * (n : Int) < m) (w : World) (ht : TabW w) :
    Calls Tryd.prog 14 #[.agg #[.int .i64 n, .int .u64 T, .int .u64 S], .int .i64 m] w fun e w' => e = .returned (.bool true) ∧ Below w.heap.size w w' := by
  have HC := hide (r4check_any n T S (by have := hg.small; omega) (by have := hg.small; omega))
  rw [lchk_good hg] at HC
  have HL := hide (fun u (h : Below w.heap.size w u) => llive_any u (ht.below h))
  have h20 := hg.hi
  clear hg ht
  by_cases h1 : m < 0
  · clear hm
    go_enter Tryd.func14, Tryd.ntmps14
    go_wp2_with fail
    refine (HC.out _).mono ?_
    rintro e w1 ⟨rfl, hb1⟩
    have c0 := bcell hb1 (b := w.heap.size) (o := 0) (v := .int .i64 n) (by simp) (by simp [go_sem])
    have HB := hide (below_one hb1)
    clear hb1
    go_wp2_with fail
    refine (HL.out _ HB.out).mono ?_
    rintro e w2 ⟨rfl, hb2⟩
    go_wp2_with fail
    go_ret
    exact ⟨rfl, below_then HB.out hb2⟩
  · have h2 : 63 - 2 * (n : Int) < m := by omega
    clear hm
    go_enter Tryd.func14, Tryd.ntmps14
    go_wp2_with fail
    refine (HC.out _).mono ?_
    rintro e w1 ⟨rfl, hb1⟩
    have c0 := bcell hb1 (b := w.heap.size) (o := 0) (v := .int .i64 n) (by simp) (by simp [go_sem])
    have HB := hide (below_one hb1)
    clear hb1
    go_wp2_with fail
    refine (HL.out _ HB.out).mono ?_
    rintro e w2 ⟨rfl, hb2⟩
    go_wp2_with fail
    go_ret
    exact ⟨rfl, below_then HB.out hb2⟩
set_option maxRecDepth 100000 in
set_option maxHeartbeats 2000000 in
theorem lfound_good (n T S k : Nat) (hg : GoodL n T S) (hk : 2 * n + k ≤ 63) (w : World) (ht : TabW w) :
    Calls Tryd.prog 14 #[.agg #[.int .i64 n, .int .u64 T, .int .u64 S], .int .i64 k] w fun e w' => e = .returned (.bool true) ∧ Below w.heap.size w w' := by
  have HC := hide (r4check_any n T S (by have := hg.small; omega) (by have := hg.small; omega))
  rw [lchk_good hg] at HC
  have HL := hide (fun u (h : Below w.heap.size w u) => llive_any u (ht.below h))
  have h20 := hg.hi
  have h2 := hg.lo
  have hp20 := pow20 hg.hi
  obtain ⟨m, hm⟩ : ∃ m, m = 2 * n + k := ⟨_, rfl⟩
  have HBI := hide (lbits_ok n T S hg m (by omega))
  have hx1 : ∀ i, (firstL n T S m).getD i 0 ≤ 1 := fun i => by
    by_cases hi : i < m
    · rw [firstL_at n T S hi]; omega
    · rw [List.getD_eq_getElem?_getD, List.getElem?_eq_none (by rw [firstL_length]; omega)]; simp
  have HSH := hide (fun ad cp u hr => shortest_n ad cp m (firstL n T S m) (firstL_length _ _ _ _) (by omega) hx1 u hr)
  have HPO := hide (lpoly_good n T S hg)
  have htp := hg.tap
  have hlen : Gf2.len (2 ^ n + T) = n + 1 := Gf2.len_pol hg.tap
  have HIR := hide (rirr_any (2 ^ n + T) (by have := Nat.pow_le_pow_right (n := 2) (by omega) h2; omega) (by omega))
  have HRV := hide (rrev2_ok (2 ^ n + T) n (by omega) (by omega) (by omega))
  obtain ⟨hLn, hfd⟩ := found_reg (m := m) hg (by omega)
  have HFD := hide hfd
  obtain ⟨-, e1⟩ := poly_or hg.hi hg.tap
  have HFL := hide (firstL_length n T S m)
  generalize (run (rowN (firstL n T S m)) m).L = L at *
  generalize fin (rowN (firstL n T S m)) m = c at *
  generalize Rev.revP n (2 ^ n + T) = tu at *
  generalize firstL n T S m = xs at *
  have HE := hide e1
  generalize 2 ^ n + T = P at *
  have hLI : ¬ (n : Int) < L := by omega
  have hmI : (2 : Int) * n + k = m := by omega
  have hk0 : ¬ (k : Int) < 0 := by omega
  have hk63 : ¬ 63 - 2 * (n : Int) < k := by omega
  clear hg ht hx1 hfd e1 hlen hm hk htp hp20
  go_enter Tryd.func14, Tryd.ntmps14
  go_wp2_with fail
  refine (HC.out _).mono ?_
  rintro e w1 ⟨rfl, hb1⟩
  have hr1 : RegL w1 w.heap.size n T S := ⟨_, (hb1.block w.heap.size (by simp)).trans (heap_alloc_new w _)⟩
  obtain ⟨hl1, q0, q1, q2, -⟩ := hr1.parts
  have HB1 := hide (below_one hb1)
  have HR1 := hide hr1
  clear hr1 hb1
  go_wp2_with fail
  refine (HBI.out _).mono ?_
  rintro e w2 ⟨v, rfl, ho, hb2⟩
  obtain ⟨ad, cap, rfl, hrow⟩ := ho.row
  have HROW := hide hrow
  rw [HFL.out]
  have HB2 := hide (below_then HB1.out hb2)
  have HR2 := hide (HR1.out.below hb2 hl1)
  obtain ⟨hl2, r0, r1, r2, -⟩ := HR2.out.parts
  clear hb2 ho hrow
  go_wp2_with fail
  refine (HSH.out _ _ _ HROW.out).mono ?_
  rintro e w' ⟨rfl, rfl⟩
  go_wp2_with fail
  refine (num_any _ _).mono ?_
  rintro e w' ⟨rfl, rfl⟩
  go_wp2_with fail
  refine (num_any _ _).mono ?_
  rintro e w' ⟨rfl, rfl⟩
  go_wp2_with fail
  refine (HL.out _ HB2.out).mono ?_
  rintro e w3 ⟨rfl, hb3⟩
  have HB3 := hide (below_then HB2.out hb3)
  have HR3 := hide (HR2.out.below hb3 hl2)
  obtain ⟨hl3, s0, s1, s2, -⟩ := HR3.out.parts
  clear hb3
  go_wp2_with fail
  refine (HPO.out _).mono ?_
  rintro e w4 ⟨rfl, hb4⟩
  have HB4 := hide (below_then HB3.out hb4)
  have HR4 := hide (HR3.out.below hb4 hl3)
  obtain ⟨hl4, t0, t1, t2, -⟩ := HR4.out.parts
  clear hb4
  go_wp2_with fail
  refine (HIR.out _).mono ?_
  rintro e w5 ⟨b, rfl, hI, hb5⟩
  have HB5 := hide (below_then HB4.out hb5)
  have HR5 := hide (HR4.out.below hb5 hl4)
  obtain ⟨hl5, x0, x1, x2, -⟩ := HR5.out.parts
  have HII := hide hI
  clear hb5 hI
  cases b
  · go_wp2_with fail
    go_ret
    exact ⟨rfl, HB5.out⟩
  · obtain ⟨e1, e2⟩ := HFD.out (HII.out rfl)
    subst e1 e2
    go_wp2_with fail
    rw [HE.out]
    refine (HRV.out _).mono ?_
    rintro e w' ⟨rfl, rfl⟩
    go_wp2_with fail
    go_ret
    exact ⟨rfl, HB5.out⟩
theorem law_found (D : Int) (T S : Nat) (m : Int) (hT : T ≤ 18446744073709551615) (hS : S ≤ 18446744073709551615) (w : World) (ht : TabW w) :
    Calls Tryd.prog 14 #[.agg #[.int .i64 D, .int .u64 T, .int .u64 S], .int .i64 m] w fun e w' => e = .returned (.bool true) ∧ Below w.heap.size w w' := by
  by_cases h : lchk D T S = 0
  · obtain ⟨n, rfl, hg⟩ := lchk_zero h
    have h20 := hg.hi
    by_cases hm : m < 0 ∨ 63 - 2 * (n : Int) < m
    · exact lfound_size n T S hg m hm w ht
    · obtain ⟨k, rfl⟩ : ∃ k : Nat, m = k := ⟨m.toNat, by omega⟩
      exact lfound_good n T S k hg (by omega) w ht
  · exact lfound_bad D T S hT hS h _ w ht
end Go.Proofs.YtknkkoemghceeaaDoor
