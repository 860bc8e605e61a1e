/- lfsr.each, walked, with each of the closures that are handed to it. -/
import Derived.Test.YtknkkoemghceeaaDoorRows
import Derived.Test.YtknkkoemghceeaaDoorLfRun
namespace Go.Proofs.YtknkkoemghceeaaDoor
open Go.RowKit

set_option maxHeartbeats 1000000 in
theorem each_bits (n T S g m : Nat) (hg : GoodL n T S) (hm : m ≤ 140737488351232) (c0 : Value) (I : Nat → World → Prop)
    (hI : ∀ (k : Nat) (u u1 : World), k < m → I k u → u.grownBy u1 (some g) → RegL u1 g n T (Gf2.stpN n T (k + 1) S) →
      Calls Tryd.prog 56 #[.int .i64 k, .int .u8 (Gf2.stpN n T k S % 2 : Nat), c0] u1 fun e u2 => e = .returned (.tuple #[]) ∧ RegL u2 g n T (Gf2.stpN n T (k + 1) S) ∧ I (k + 1) u2)
    (w : World) (hr : RegL w g n T S) (h0 : I 0 w) :
    Calls Tryd.prog 55 #[.int .i64 m, .func (.func 32) #[.pointer (some ⟨g, 0, none⟩)] #[], .func (.func 56) #[] #[c0]] w fun e w' => e = .returned (.tuple #[]) ∧ RegL w' g n T (Gf2.stpN n T m S) ∧ I m w' := by
  have HN := hide fun (k : Nat) (W : World) (h : RegL W g n T (Gf2.stpN n T k S)) => lnext_good n T _ g (hg.stpN k) W h
  have HI := hide hI
  have HR := hide hr
  have H0 := hide h0
  clear hI hr h0 hg
  go_enter Tryd.func55, Tryd.ntmps55
  go_wp2_with fail
  go_loopw [8] (fun i u => ∃ k : Nat, k ≤ m ∧ i = .int .i64 k ∧ Hid (RegL u g n T (Gf2.stpN n T k S)) ∧ Hid (I k u)) (fun i _ => m - (intOf i).toNat)
  case atStart => exact ⟨0, by omega, rfl, HR, H0⟩
  case round =>
    obtain ⟨k, hk, rfl, hr, hi⟩ := hrel
    by_cases hlt : k < m
    · have HK := hide (HN.out k _ hr.out)
      have HIk := hide fun u1 => HI.out k _ u1 hlt hi.out
      have E2 := hide (Gf2.stpN_succ (D := n) (T := T) k S)
      have hq1 : Gf2.stpN n T k S % 2 ≤ 1 := by omega
      generalize hq : Gf2.stpN n T k S % 2 = q at *
      have HQ := hide hq
      clear hq
      go_wp2_with fail
      refine HK.out.mono ?_
      rintro e w1 ⟨rfl, hr1, hg1⟩
      rw [← E2.out] at hr1
      have HC := hide (HIk.out w1 hg1 hr1)
      clear hr1 hg1
      go_wp2_with fail
      refine HC.out.mono ?_
      rintro e w2 ⟨rfl, hr2, hi2⟩
      have HR2 := hide hr2
      have HI2 := hide hi2
      clear hr2 hi2
      go_wp2_with fail
      go_roundw
      case rel => exact ⟨k + 1, by omega, by simp, HR2, HI2⟩
      case measure => simp [intOf]; omega
    · obtain rfl : k = m := by omega
      go_wp2_with fail
      go_end0
      exact ⟨rfl, hr.out, hi.out⟩
set_option maxHeartbeats 1000000 in
theorem each_whiten (n T S g m : Nat) (hg : GoodL n T S) (hm : m ≤ 140737488351232) (c0 c1 : Value) (I : Nat → World → Prop)
    (hI : ∀ (k : Nat) (u u1 : World), k < m → I k u → u.grownBy u1 (some g) → RegL u1 g n T (Gf2.stpN n T (k + 1) S) →
      Calls Tryd.prog 65 #[.int .i64 k, .int .u8 (Gf2.stpN n T k S % 2 : Nat), c0, c1] u1 fun e u2 => e = .returned (.tuple #[]) ∧ RegL u2 g n T (Gf2.stpN n T (k + 1) S) ∧ I (k + 1) u2)
    (w : World) (hr : RegL w g n T S) (h0 : I 0 w) :
    Calls Tryd.prog 55 #[.int .i64 m, .func (.func 32) #[.pointer (some ⟨g, 0, none⟩)] #[], .func (.func 65) #[] #[c0, c1]] w fun e w' => e = .returned (.tuple #[]) ∧ RegL w' g n T (Gf2.stpN n T m S) ∧ I m w' := by
  have HN := hide fun (k : Nat) (W : World) (h : RegL W g n T (Gf2.stpN n T k S)) => lnext_good n T _ g (hg.stpN k) W h
  have HI := hide hI
  have HR := hide hr
  have H0 := hide h0
  clear hI hr h0 hg
  go_enter Tryd.func55, Tryd.ntmps55
  go_wp2_with fail
  go_loopw [8] (fun i u => ∃ k : Nat, k ≤ m ∧ i = .int .i64 k ∧ Hid (RegL u g n T (Gf2.stpN n T k S)) ∧ Hid (I k u)) (fun i _ => m - (intOf i).toNat)
  case atStart => exact ⟨0, by omega, rfl, HR, H0⟩
  case round =>
    obtain ⟨k, hk, rfl, hr, hi⟩ := hrel
    by_cases hlt : k < m
    · have HK := hide (HN.out k _ hr.out)
      have HIk := hide fun u1 => HI.out k _ u1 hlt hi.out
      have E2 := hide (Gf2.stpN_succ (D := n) (T := T) k S)
      have hq1 : Gf2.stpN n T k S % 2 ≤ 1 := by omega
      generalize hq : Gf2.stpN n T k S % 2 = q at *
      have HQ := hide hq
      clear hq
      go_wp2_with fail
      refine HK.out.mono ?_
      rintro e w1 ⟨rfl, hr1, hg1⟩
      rw [← E2.out] at hr1
      have HC := hide (HIk.out w1 hg1 hr1)
      clear hr1 hg1
      go_wp2_with fail
      refine HC.out.mono ?_
      rintro e w2 ⟨rfl, hr2, hi2⟩
      have HR2 := hide hr2
      have HI2 := hide hi2
      clear hr2 hi2
      go_wp2_with fail
      go_roundw
      case rel => exact ⟨k + 1, by omega, by simp, HR2, HI2⟩
      case measure => simp [intOf]; omega
    · obtain rfl : k = m := by omega
      go_wp2_with fail
      go_end0
      exact ⟨rfl, hr.out, hi.out⟩
set_option maxHeartbeats 1000000 in
theorem each_turn (n T S g m : Nat) (hg : GoodL n T S) (hm : m ≤ 140737488351232) (c0 c1 c2 : Value) (I : Nat → World → Prop)
    (hI : ∀ (k : Nat) (u u1 : World), k < m → I k u → u.grownBy u1 (some g) → RegL u1 g n T (Gf2.stpN n T (k + 1) S) →
      Calls Tryd.prog 66 #[.int .i64 k, .int .u8 (Gf2.stpN n T k S % 2 : Nat), c0, c1, c2] u1 fun e u2 => e = .returned (.tuple #[]) ∧ RegL u2 g n T (Gf2.stpN n T (k + 1) S) ∧ I (k + 1) u2)
    (w : World) (hr : RegL w g n T S) (h0 : I 0 w) :
    Calls Tryd.prog 55 #[.int .i64 m, .func (.func 32) #[.pointer (some ⟨g, 0, none⟩)] #[], .func (.func 66) #[] #[c0, c1, c2]] w fun e w' => e = .returned (.tuple #[]) ∧ RegL w' g n T (Gf2.stpN n T m S) ∧ I m w' := by
  have HN := hide fun (k : Nat) (W : World) (h : RegL W g n T (Gf2.stpN n T k S)) => lnext_good n T _ g (hg.stpN k) W h
  have HI := hide hI
  have HR := hide hr
  have H0 := hide h0
  clear hI hr h0 hg
  go_enter Tryd.func55, Tryd.ntmps55
  go_wp2_with fail
  go_loopw [8] (fun i u => ∃ k : Nat, k ≤ m ∧ i = .int .i64 k ∧ Hid (RegL u g n T (Gf2.stpN n T k S)) ∧ Hid (I k u)) (fun i _ => m - (intOf i).toNat)
  case atStart => exact ⟨0, by omega, rfl, HR, H0⟩
  case round =>
    obtain ⟨k, hk, rfl, hr, hi⟩ := hrel
    by_cases hlt : k < m
    · have HK := hide (HN.out k _ hr.out)
      have HIk := hide fun u1 => HI.out k _ u1 hlt hi.out
      have E2 := hide (Gf2.stpN_succ (D := n) (T := T) k S)
      have hq1 : Gf2.stpN n T k S % 2 ≤ 1 := by omega
      generalize hq : Gf2.stpN n T k S % 2 = q at *
      have HQ := hide hq
      clear hq
      go_wp2_with fail
      refine HK.out.mono ?_
      rintro e w1 ⟨rfl, hr1, hg1⟩
      rw [← E2.out] at hr1
      have HC := hide (HIk.out w1 hg1 hr1)
      clear hr1 hg1
      go_wp2_with fail
      refine HC.out.mono ?_
      rintro e w2 ⟨rfl, hr2, hi2⟩
      have HR2 := hide hr2
      have HI2 := hide hi2
      clear hr2 hi2
      go_wp2_with fail
      go_roundw
      case rel => exact ⟨k + 1, by omega, by simp, HR2, HI2⟩
      case measure => simp [intOf]; omega
    · obtain rfl : k = m := by omega
      go_wp2_with fail
      go_end0
      exact ⟨rfl, hr.out, hi.out⟩
end Go.Proofs.YtknkkoemghceeaaDoor
