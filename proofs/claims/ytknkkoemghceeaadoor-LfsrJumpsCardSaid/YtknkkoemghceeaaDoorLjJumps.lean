/- The law LfsrJumps, walked: it returns true. -/
import Derived.Test.YtknkkoemghceeaaDoorRows
import Derived.Test.YtknkkoemghceeaaDoorLfLive
import Derived.Test.YtknkkoemghceeaaDoorR4Check
import Derived.Test.YtknkkoemghceeaaDoorEqL
import Derived.Deep.RegionHeld3
import Derived.IntWalk
namespace Go.Proofs.YtknkkoemghceeaaDoor
open Go.RowKit

set_option maxHeartbeats 400000 in
theorem ljumps_bad (D : Int) (T S : Nat) (a b : Value) (hT : T ≤ 18446744073709551615) (hS : S ≤ 18446744073709551615) (hne : lchk D T S ≠ 0) (w : World) (ht : TabW w) :
    Calls Tryd.prog 4 #[.agg #[.int .i64 D, .int .u64 T, .int .u64 S], a, b] w fun e w' => e = .returned (.bool true) ∧ Below w.heap.size w w' := by
  have HC := hide (r4check_any D T S hT hS)
  have HL := hide (fun u (h : Below w.heap.size w u) => llive_any u (ht.below h))
  have hb := nzBne hne
  generalize lchk D T S = cf at *
  clear hne ht
  go_enter Tryd.func4, Tryd.ntmps4
  go_wp2_with fail
  refine (HC.out _).mono ?_
  rintro e w1 ⟨rfl, hb1⟩
  go_wp2_with fail
  refine (HL.out _ (below_one hb1)).mono ?_
  rintro e w2 ⟨rfl, hb2⟩
  go_wp2_with fail
  go_ret
  exact ⟨rfl, below_then (below_one hb1) hb2⟩
theorem firstL_drop (n T S k m : Nat) : (firstL n T S (k + m)).drop k = firstL n T (Gf2.stpN n T k S) m := by
  unfold firstL
  refine List.ext_getElem (by simp) fun i h1 h2 => ?_
  simp [← Gf2.stpN_add]
/-- two registers in two boxes -/
def TwoL (b0 b1 n T S X : Nat) (w0 u : World) : Prop :=
  u.cell? ⟨b0, 0, none⟩ = some (.int .i64 n) ∧ u.cell? ⟨b0, 1, none⟩ = some (.int .u64 T) ∧ u.cell? ⟨b0, 2, none⟩ = some (.int .u64 S)
      ∧ u.cell? ⟨b1, 0, none⟩ = some (.int .i64 n) ∧ u.cell? ⟨b1, 1, none⟩ = some (.int .u64 T) ∧ u.cell? ⟨b1, 2, none⟩ = some (.int .u64 X) ∧ Below w0.heap.size w0 u
theorem TwoL.keep {b0 b1 n T S X : Nat} {w0 u u' : World} (h : TwoL b0 b1 n T S X w0 u) (h0 : b0 < w0.heap.size) (h1 : b1 < w0.heap.size) (hb : Below u.heap.size u u') : TwoL b0 b1 n T S X w0 u' := by
  obtain ⟨a0, a1, a2, c0, c1, c2, hw⟩ := h
  have hz := hw.size
  have g0 := Nat.lt_of_lt_of_le h0 hz
  have g1 := Nat.lt_of_lt_of_le h1 hz
  exact ⟨bcell hb g0 a0, bcell hb g0 a1, bcell hb g0 a2, bcell hb g1 c0, bcell hb g1 c1, bcell hb g1 c2, hw.trans (hb.mono hz)⟩
set_option maxRecDepth 100000 in
set_option maxHeartbeats 2000000 in
theorem ljumps_good (n T S a b N : Nat) (hg : GoodL n T S) (ha : a ≤ 18446744073709551615) (hb : b ≤ 18446744073709551615) (hN : Gf2.Per n T S N) (hN2 : N ≤ 1048576) (w : World) (ht : TabW w) :
    Calls Tryd.prog 4 #[.agg #[.int .i64 n, .int .u64 T, .int .u64 S], .int .u64 a, .int .u64 b] w fun e w' => e = .returned (.bool true) ∧ Below w.heap.size w w' := by
  have HC := hide (r4check_any n T S (by have := hg.small; omega) (by have := hg.small; omega))
  rw [lchk_good hg] at HC
  have HJ := hide (fun u (h : Below w.heap.size w u) => jump_good n T S a hg ha u (ht.below h))
  have HP := hide (lperiod_ok n T S N hg hN hN2)
  have HL := hide (fun u (h : Below w.heap.size w u) => llive_any u (ht.below h))
  generalize hX : Gf2.stpN n T a S = X at *
  go_enter Tryd.func4, Tryd.ntmps4
  go_wp2_with fail
  refine (HC.out _).mono ?_
  rintro e w1 ⟨rfl, hb1⟩
  have hr1 : RegL w1 w.heap.size n T S := ⟨_, (hb1.block w.heap.size (by simp)).trans (heap_alloc_new w _)⟩
  obtain ⟨hl1, q0, q1, q2, -⟩ := hr1.parts
  have HB1 := hide (below_one hb1)
  have HR1 := hide hr1
  clear hr1 hb1
  go_wp2_with fail
  refine (HJ.out _ HB1.out).mono ?_
  rintro e w2 ⟨rfl, hb2⟩
  have hl2 : w.heap.size < w2.heap.size := Nat.lt_of_lt_of_le hl1 hb2.size
  have HB2 := hide (below_then HB1.out hb2)
  have HR2 := hide (HR1.out.below hb2 hl1)
  obtain ⟨_, r0, r1, r2, -⟩ := HR2.out.parts
  clear hb2
  go_wp2_with fail
  refine (HP.out _).mono ?_
  rintro e w3 ⟨rfl, hb3⟩
  have hz2 : w2.heap.size < w3.heap.size := by have := hb3.size; simp at this; omega
  have HB3 := hide (below_then (HB2.out.alloc HB2.out.size _) hb3)
  have hl3 : w.heap.size < w3.heap.size := by omega
  have HR3 := hide ((HR2.out.alloc (.cells #[.int .i64 n, .int .u64 T, .int .u64 X] 24)).below hb3 (by simp; omega))
  have HX3 := hide (show RegL w3 w2.heap.size n T X from ⟨_, (hb3.block w2.heap.size (by simp)).trans (heap_alloc_new w2 _)⟩)
  obtain ⟨_, s0, s1, s2, -⟩ := HR3.out.parts
  obtain ⟨_, t0, t1, t2, -⟩ := HX3.out.parts
  clear hb3
  have hX2 : (X = S) ↔ a % N = 0 := by rw [← hX]; exact hN.iff a
  obtain ⟨eb, heq, hrem⟩ : ∃ eb : Bool, (∀ u : World, (Op.equalIn 10000 24 (.agg #[.int .i64 n, .int .u64 T, .int .u64 X]) (.agg #[.int .i64 n, .int .u64 T, .int .u64 S])).run Tryd.prog u = .ok eb u) ∧ ((a : Int) % N == 0) = eb := by
    refine ⟨(a : Int) % N == 0, fun u => ?_, rfl⟩
    rw [eq_lfsr 9998 n T X n T S u]
    have : ((X : Int) == S) = ((a : Int) % N == 0) := by
      rw [Bool.eq_iff_iff, beq_iff_eq, beq_iff_eq]
      constructor
      · intro e; have := hX2.1 (by omega); rw [← Int.natCast_emod, this]; rfl
      · intro e; have := hX2.2 (by rw [← Int.natCast_emod] at e; exact_mod_cast e); rw [this]
    rw [this]; simp
  have HEB := hide hX2
  clear hX2
  have hN0 : (1 : Int) ≤ N := by have := hN.1; omega
  have HN := hide hN
  have HG := hide hg
  have HHX := hide hX
  have HTW := hide ht
  clear hN hg hX ht
  have hwN : IntKind.u64.wrap (N : Int) = N := IntWalk.u64_in _ ⟨by omega, by omega⟩
  have htm : (a : Int).tmod N = (a : Int) % N := Int.tmod_eq_emod_of_nonneg (by omega)
  have ht0 : 0 ≤ (a : Int) % N := Int.emod_nonneg _ (by omega)
  have ht1 : (a : Int) % N < N := Int.emod_lt_of_pos _ (by omega)
  have hNn : ¬ (N : Int) = 0 := by omega
  have hNn2 : ¬ N = 0 := by omega
  have hN1 : ¬ (N : Int) < 1 := by omega
  have hN2 : decide ((N : Int) < 1) = false := decide_eq_false hN1
  have hNb : ((N : Int) == 0) = false := by rw [beq_eq_false_iff_ne]; omega
  rw [← htm] at hrem ht0 ht1
  clear htm
  generalize hte : (a : Int).tmod N = t at *
  have hwt : IntKind.u64.wrap t = t := IntWalk.u64_in _ ⟨by omega, by omega⟩
  have hrem2 : decide (t = 0) = eb := by rw [← hrem]; rfl
  have HL3 := hide (fun u (h : TwoL w.heap.size w2.heap.size n T S X w3 u) => HL.out u (below_then HB3.out h.2.2.2.2.2.2))
  have HK := hide (fun u u' (h : TwoL w.heap.size w2.heap.size n T S X w3 u) (hb : Below u.heap.size u u') => h.keep hl3 hz2 hb)
  clear HL
  go_wp2_with fail
  go_region_held3 (fun u => u.cell? ⟨w.heap.size, 0, none⟩ = some (.int .i64 n) ∧ u.cell? ⟨w.heap.size, 1, none⟩ = some (.int .u64 T) ∧ u.cell? ⟨w.heap.size, 2, none⟩ = some (.int .u64 S)
      ∧ u.cell? ⟨w2.heap.size, 0, none⟩ = some (.int .i64 n) ∧ u.cell? ⟨w2.heap.size, 1, none⟩ = some (.int .u64 T) ∧ u.cell? ⟨w2.heap.size, 2, none⟩ = some (.int .u64 X) ∧ Below w3.heap.size w3 u)
    (first | exact ⟨s0, s1, s2, t0, t1, t2, (Below.refl _ _).drew⟩ | exact ⟨s0, s1, s2, t0, t1, t2, Below.refl _ _⟩ | assumption | exact HK.out _ _ (by assumption) (by assumption) | exact HK.out _ _ (by assumption) (Below.refl _ _))
    (first
      | (go_at_call 21; refine (num_any _ _).mono ?_; rintro e w' ⟨rfl, rfl⟩)
      | (go_at_call 24; refine (HL3.out _ (by assumption)).mono ?_; rintro e w' ⟨rfl, hb'⟩))
  rename_i hh4
  clear hb'
  generalize w' = w4 at *
  have HS4 := hide (show TwoL w.heap.size w2.heap.size n T S X w3 w4 from hh4)
  have HB4 := hide (below_then HB3.out HS4.out.2.2.2.2.2.2)
  obtain ⟨a0, a1, a2, b0, b1, b2, -⟩ := hh4
  have hz4 : w3.heap.size ≤ w4.heap.size := HS4.out.2.2.2.2.2.2.size
  have HT := hide (fun u (h : Below w.heap.size w u) => HTW.out.below h)
  clear hrem hrem2 hte hwt ht0 ht1 heq q0 q1 q2 r0 r1 r2 s0 s1 s2 t0 t1 t2 HL3 HJ HC HP hwN hNn hNn2 hN1 hN2 hNb hN0 HB1 HR1 HB2 HR2 HR3 HX3
  obtain ⟨ov, hov⟩ : ∃ ov : Bool, decide (a + b ≤ 18446744073709551615) = ov := ⟨_, rfl⟩
  obtain ⟨sm, hw1, hge⟩ : ∃ sm : Int, IntKind.u64.wrap ((a : Int) + b) = sm ∧ decide ((a : Int) ≤ sm) = ov := by
    refine ⟨_, rfl, ?_⟩
    rw [← hov, decide_eq_decide, IntKind.wrap_u64]
    omega
  have hsm : ov = true → sm = ((a + b : Nat) : Int) := fun e => by
    rw [← hov, decide_eq_true_eq] at e
    rw [← hw1, IntKind.wrap_u64]; omega
  have HSM := hide hsm
  have HOV := hide hov
  clear hsm hov
  go_upto_if 68 with fail
  go_cut [6] (fun v6 wx => v6 = .bool false ∧ Hid (TwoL w.heap.size w2.heap.size n T S X w3 wx) ∧ Hid (Below w.heap.size w wx))
  case first =>
    cases ov
    case true =>
      have hov : a + b ≤ 18446744073709551615 := by simpa using HOV.out
      have hs2 := HSM.out rfl
      subst hs2
      have HJ1 := hide (fun u (h : Below w.heap.size w u) => jump_good n T X b (by rw [← HHX.out]; exact HG.out.stpN a) hb u (HT.out u h))
      have HJ2 := hide (fun u (h : Below w.heap.size w u) => jump_good n T S (a + b) HG.out hov u (HT.out u h))
      rw [Gf2.stpN_add, HHX.out] at HJ2
      generalize Gf2.stpN n T b X = Y at *
      go_wp2_with fail
      refine (HJ1.out _ HB4.out).mono ?_
      rintro e w5 ⟨rfl, hb5⟩
      have hl5 : w.heap.size < w5.heap.size := by have := hb5.size; omega
      have hm5 : w2.heap.size < w5.heap.size := by have := hb5.size; omega
      have HS5 := hide (HS4.out.keep hl3 hz2 hb5)
      have HB5 := hide (below_then HB4.out hb5)
      obtain ⟨c0, c1, c2, d0, d1, d2, -⟩ := HS5.out
      clear hb5
      go_wp2_with fail
      refine (HJ2.out _ (HB5.out.alloc HB5.out.size _)).mono ?_
      rintro e w6 ⟨rfl, hb6⟩
      have hz6 : w5.heap.size < w6.heap.size := by have := hb6.size; simp at this; omega
      have HS6 := hide ((HS5.out.keep hl3 hz2 ((Below.refl _ _).alloc (Nat.le_refl _) _)).keep hl3 hz2 hb6)
      have HB6 := hide (below_then (HB5.out.alloc HB5.out.size _) hb6)
      have f0 := bcell hb6 (b := w5.heap.size) (o := 0) (v := .int .i64 n) (by simp) (by simp [go_sem])
      have f1 := bcell hb6 (b := w5.heap.size) (o := 1) (v := .int .u64 T) (by simp) (by simp [go_sem])
      have f2 := bcell hb6 (b := w5.heap.size) (o := 2) (v := .int .u64 Y) (by simp) (by simp [go_sem])
      have heq := fun u => eq_lfsr_same (n : Int) (T : Int) (Y : Int) u
      clear hb6
      go_wp2_with fail
      refine (num_any _ _).mono ?_
      rintro e w' ⟨rfl, rfl⟩
      go_wp2_with fail
      refine (num_any _ _).mono ?_
      rintro e w' ⟨rfl, rfl⟩
      go_wp2_with fail
      go_meet
      case rel => exact ⟨rfl, hide (HS6.out.keep hl3 hz2 ((Below.refl _ _).alloc (Nat.le_refl _) _)), hide (HB6.out.alloc HB6.out.size _)⟩
    case false =>
      go_wp2_with fail
      go_meet
      case rel => exact ⟨rfl, HS4, HB4⟩
  case rest =>
    obtain ⟨rfl, hS5, hB5⟩ := hcut
    clear HS4 HB4 HSM HOV hw1 hge a0 a1 a2 b0 b1 b2
    generalize wc = w5 at *
    obtain ⟨c0, c1, c2, d0, d1, d2, -⟩ := hS5.out
    have hk0 : (a : Int).tmod 1000 = ((a % 1000 : Nat) : Int) := by rw [Int.tmod_eq_emod_of_nonneg (by omega)]; omega
    have hk1 : a % 1000 < 1000 := Nat.mod_lt _ (by omega)
    generalize a % 1000 = k at *
    have hwk : IntKind.i64.wrap (k : Int) = k := IntWalk.i64_in _ ⟨by omega, by omega⟩
    have hwk2 : IntKind.u64.wrap (k : Int) = k := IntWalk.u64_in _ ⟨by omega, by omega⟩
    have HBI := hide (lbits_ok n T S HG.out (k + 50) (by omega))
    rw [show ((k + 50 : Nat) : Int) = (k : Int) + 50 by omega] at HBI
    have HJ3 := hide (fun u (h : Below w.heap.size w u) => jump_good n T S k HG.out (by omega) u (HT.out u h))
    have HB2 := hide (lbits_ok n T (Gf2.stpN n T k S) (HG.out.stpN k) 50 (by omega))
    have HFL := hide (firstL_drop n T S k 50)
    generalize Gf2.stpN n T k S = Z at *
    go_wp2_with fail
    refine (HBI.out _).mono ?_
    rintro e w6 ⟨v1, rfl, ho6, hb6⟩
    have hl5 : w.heap.size < w5.heap.size := by have := hS5.out.2.2.2.2.2.2.size; omega
    have hm5 : w2.heap.size < w5.heap.size := by have := hS5.out.2.2.2.2.2.2.size; omega
    have hl6 : w.heap.size < w6.heap.size := by have := hb6.size; omega
    have hm6 : w2.heap.size < w6.heap.size := by have := hb6.size; omega
    have hrow6 := ho6.row
    obtain ⟨g, cp, rfl, hg1, hg2, hg3, hg4⟩ := ho6.full (by rw [firstL_length]; omega)
    rw [firstL_length] at hg3 hrow6
    rw [firstL_length]
    have HS6 := hide (hS5.out.keep hl3 hz2 hb6)
    have HB6 := hide (below_then hB5.out hb6)
    obtain ⟨f0, f1, f2, -⟩ := HS6.out
    obtain ⟨ad6, c6, e6, hr6⟩ := hrow6
    simp only [Value.slice.injEq] at e6
    obtain ⟨rfl, -, rfl⟩ := e6
    have hrd := hr6.drop k
    rw [HFL.out, Nat.zero_add] at hrd
    have HR6 := hide hrd
    have hk2 : (k : Int) ≤ (k : Int) + 50 := by omega
    have hk3 : ((k + 50 : Nat) : Int) ≤ cp := by omega
    have hk4 : (k : Int) ≤ cp := by omega
    clear hb6 ho6 hr6 hrd hg4 hB5 hS5
    go_wp2_with fail
    refine (HJ3.out _ HB6.out).mono ?_
    rintro e w7 ⟨rfl, hb7⟩
    have hl7 : w.heap.size < w7.heap.size := by have := hb7.size; omega
    have HS7 := hide (HS6.out.keep hl3 hz2 hb7)
    have HB7 := hide (below_then HB6.out hb7)
    have HR7 := hide (HR6.out.below hb7)
    clear hb7
    go_wp2_with fail
    refine (HB2.out _).mono ?_
    rintro e w8 ⟨v2, rfl, ho8, hb8⟩
    have HR8 := hide ((HR7.out.alloc _).below hb8)
    have HB8 := hide (below_then (HB7.out.alloc HB7.out.size _) hb8)
    have hrow8 := ho8.row
    obtain ⟨ad8, c8, e8, hr8⟩ := hrow8
    rw [firstL_length] at e8
    subst e8
    have HRR8 := hide hr8
    clear hb8 ho8 hr8
    go_wp2_with fail
    refine (num_any _ _).mono ?_
    rintro e w' ⟨rfl, rfl⟩
    go_wp2_with fail
    refine (num_any _ _).mono ?_
    rintro e w' ⟨rfl, rfl⟩
    go_wp2_with fail
    refine (same_yes _ _ _ _ _ _ (firstL n T Z 50) (firstL_length _ _ _ _).symm (firstL_length _ _ _ _).symm _ HR8.out HRR8.out).mono ?_
    rintro e w' ⟨rfl, rfl⟩
    go_wp2_with fail
    go_ret
    exact ⟨rfl, HB8.out⟩
theorem law_jumps (D : Int) (T S a b : Nat) (hT : T ≤ 18446744073709551615) (hS : S ≤ 18446744073709551615) (ha : a ≤ 18446744073709551615) (hb : b ≤ 18446744073709551615) (w : World) (ht : TabW w) :
    Calls Tryd.prog 4 #[.agg #[.int .i64 D, .int .u64 T, .int .u64 S], .int .u64 a, .int .u64 b] w fun e w' => e = .returned (.bool true) ∧ Below w.heap.size w w' := by
  by_cases h : lchk D T S = 0
  · obtain ⟨n, rfl, hg⟩ := lchk_zero h
    obtain ⟨N, hN, hle⟩ := Gf2.per_ex (D := n) (T := T) (v := S) (by have := hg.lo; omega) hg.odd hg.seed
    have := pow20 hg.hi
    exact ljumps_good n T S a b N hg ha hb hN (by omega) w ht
  · exact ljumps_bad D T S _ _ hT hS h w ht
end Go.Proofs.YtknkkoemghceeaaDoor
