/- What poly.inverse and poly.Bezout compute: an inverse, reduced; Bezout's polynomials. -/
import Derived.Test.YtfjaohadjmigoaaDoorMul
import Derived.Test.YtfjaohadjmigoaaDoorDiv
import Derived.Test.YtfjaohadjmigoaaDoorPoly
import Derived.Test.YtfjaohadjmigoaaDoorBez
namespace Go.Proofs.YtfjaohadjmigoaaDoor
open Go.RowKit

theorem quo_len_le (a : Nat) {b : Nat} (hb : b ≠ 0) : Gf2.len (Gf2.quo a b) ≤ Gf2.len a := by
  by_cases hq : Gf2.quo a b = 0
  · rw [hq, Gf2.len_zero]; omega
  · have h1 := Gf2.len_cm hq hb
    have h2 := Gf2.len_rem a hb
    have h3 := Gf2.len_pos hb
    have h4 := Gf2.len_pos hq
    have h5 := Gf2.len_xor_eq (a := Gf2.cm (Gf2.quo a b) b) (b := Gf2.rem a b) (by omega)
    rw [Gf2.quo_rem] at h5
    omega
theorem quoL_small {a b : Nat} (ha : a ≤ 18446744073709551615) (hb : b ≠ 0) : quoL a b = Gf2.quo a b := by
  unfold quoL
  exact Nat.mod_eq_of_lt (Gf2.lt_of_len (Nat.le_trans (quo_len_le a hb) (len_le64 ha)))
theorem quo_le {a b : Nat} (ha : a ≤ 18446744073709551615) (hb : b ≠ 0) : Gf2.quo a b ≤ 18446744073709551615 := by
  rw [← quoL_small ha hb]; exact quoL_le _ _
theorem pair_mul (k q : Nat) : pair64 (mulH k q) (mulL k q) = Gf2.cm k q := Gf2.join_of _ 64
theorem pair_mul_xor (u a g : Nat) (hg : g ≤ 18446744073709551615) : pair64 (mulH u a) (mulL u a ^^^ g) = Gf2.cm u a ^^^ g := by
  have hl : mulL u a ^^^ g < 2 ^ 64 := Nat.xor_lt_two_pow (by have := mulL_le u a; omega) (by omega)
  unfold pair64
  have h1 := Gf2.join_of (Gf2.cm u a ^^^ g) 64
  rw [Gf2.xor_high, Gf2.xor_low, Nat.div_eq_of_lt (show g < 2 ^ 64 by omega), Nat.mod_eq_of_lt (show g < 2 ^ 64 by omega), Nat.xor_zero] at h1
  exact h1
theorem le_of_len {x : Nat} (h : Gf2.len x ≤ 64) : x ≤ 18446744073709551615 := le_of_lt64 (Gf2.lt_len x) h

set_option maxHeartbeats 1000000 in
theorem inverse_any (x m : Nat) (hx : x ≤ 18446744073709551615) (hm : m ≤ 18446744073709551615) (hm0 : m ≠ 0) (hg : Gf2.gcd x m = 1) (w : World) :
    Calls Tryd.prog 36 #[.int .u64 x, .int .u64 m] w fun e w' => ∃ u : Nat, Gf2.InvR x m u ∧ e = .returned (.int .u64 u) ∧ w = w' := by
  have HS := hide (Gf2.EucR.start hm0 hg)
  have hl := len_le64 hm
  have HM := hide hm0
  have r1 := rem_le (a := x) hm hm0
  have r2 := rem_le (a := 1) hm hm0
  clear hg hm0
  go_enter Tryd.func36, Tryd.ntmps36
  go_wp2_with fail
  refine (rest_any x m hx hm HM.out _).mono ?_
  rintro e w' ⟨rfl, rfl⟩
  go_wp2_with fail
  refine (rest_any 1 m (by omega) hm HM.out _).mono ?_
  rintro e w' ⟨rfl, rfl⟩
  go_wp2_with fail
  go_loop [5, 6, 7, 8] (fun r s p q => ∃ r' s' p' q' : Nat, Gf2.EucR x m 1 r' s' p' q' ∧ r' ≤ 18446744073709551615 ∧ s' ≤ 18446744073709551615 ∧ r = .int .u64 r' ∧ s = .int .u64 s' ∧ p = .int .u64 p' ∧ q = .int .u64 q') (fun _ s _ _ => Gf2.len (intOf s).toNat)
  case atStart => exact ⟨m, _, 0, _, HS.out, hm, r1, rfl, rfl, rfl, rfl⟩
  case round =>
    clear r1 r2 HS
    obtain ⟨r, s, p, q, hE, hr, hs, rfl, rfl, rfl, rfl⟩ := hrel
    have hp := le_of_len (x := p) (by have := hE.1; omega)
    have hq := le_of_len (x := q) (by have := hE.2.1; omega)
    have HE := hide hE
    clear hE
    by_cases h0 : s = 0
    · have hfin := hide (show Gf2.InvR x m p from by have h := HE.out; rw [h0] at h; exact h.done)
      have hb0 := zBeq h0
      clear h0
      go_wp2_with fail
      go_ret
      exact ⟨p, hfin.out, rfl, rfl⟩
    · have hN := hide (HE.out.step HM.out h0)
      have hb0 := zBne h0
      have H0 := hide h0
      have L1 := hide (long_any 0 r s (by omega) hr hs h0 w)
      rw [pair64_zero, quoL_small hr h0] at L1
      have hk := quo_le (a := r) hr h0
      have hrm := rem_le (a := r) hs h0
      have L2 := hide (mul_any (Gf2.quo r s) q hk hq w)
      have L3 := hide (long_any (mulH (Gf2.quo r s) q) (mulL (Gf2.quo r s) q) m (mulH_le hk hq) (mulL_le _ _) hm HM.out w)
      rw [pair_mul] at L3
      have hw := rem_le (a := Gf2.cm (Gf2.quo r s) q) hm HM.out
      have hxor := hide (xor64 hp hw)
      have hmes := hide (Gf2.len_rem r h0)
      clear h0
      generalize Gf2.cm (Gf2.quo r s) q = kq at *
      generalize Gf2.quo r s = k at *
      generalize Gf2.rem r s = t at *
      go_wp2_with fail
      refine L1.out.mono ?_
      rintro e w' ⟨rfl, rfl⟩
      go_wp2_with fail
      refine L2.out.mono ?_
      rintro e w' ⟨rfl, rfl⟩
      go_wp2_with fail
      refine L3.out.mono ?_
      rintro e w' ⟨rfl, rfl⟩
      go_wp2_with fail
      go_round
      case rel => exact ⟨s, t, q, p ^^^ Gf2.rem kq m, hN.out, hs, hrm, rfl, rfl, rfl, by rw [hxor.out]⟩
      case measure => have := hmes.out; simpa [intOf] using this

set_option maxHeartbeats 1000000 in
theorem bezout_any (a b : Nat) (ha : a ≤ 18446744073709551615) (hb : b ≤ 18446744073709551615) (hb0 : b ≠ 0) (w : World) :
    Calls Tryd.prog 23 #[.int .u64 a, .int .u64 b] w fun e w' => ∃ u v : Nat, Gf2.BezR a b u v ∧ e = .returned (.tuple #[.int .u64 (Gf2.gcd a b), .int .u64 u, .int .u64 v]) ∧ w = w' := by
  have hg := gcd_le (a := a) (b := b) ha hb
  have hg0 := Gf2.gcd_ne (a := a) hb0
  have hm0 := Gf2.quo_ne (a := a) hb0
  have hcop := Gf2.gcd_quo (a := a) hb0
  have HMK := hide fun u h => Gf2.BezR.mk (a := a) (u := u) hb0 h
  have L1 := hide (long_any 0 b (Gf2.gcd a b) (by omega) hb hg hg0 w)
  have L2 := hide (long_any 0 a (Gf2.gcd a b) (by omega) ha hg hg0 w)
  rw [pair64_zero, quoL_small hb hg0] at L1
  rw [pair64_zero, quoL_small ha hg0] at L2
  have HI := hide (inverse_any _ _ (quo_le ha hg0) (quo_le hb hg0) hm0 hcop w)
  have hne := zNe hb0
  have HB := hide hb0
  have HLV := hide fun u v (h : Gf2.BezR a b u v) => h.len_v hb0
  have HLU := hide fun u v (h : Gf2.BezR a b u v) => h.len_u hb0
  have HG := hide (gcd_any a b ha hb w)
  clear hb0 hg0 hm0 hcop
  have hla := len_le64 ha
  have hlb := len_le64 hb
  generalize Gf2.quo b (Gf2.gcd a b) = m at *
  generalize Gf2.quo a (Gf2.gcd a b) = x at *
  go_enter Tryd.func23, Tryd.ntmps23
  go_wp2_with fail
  refine HG.out.mono ?_
  rintro e w' ⟨rfl, rfl⟩
  go_wp2_with fail
  refine L1.out.mono ?_
  rintro e w' ⟨rfl, rfl⟩
  go_wp2_with fail
  refine L2.out.mono ?_
  rintro e w' ⟨rfl, rfl⟩
  go_wp2_with fail
  refine HI.out.mono ?_
  rintro e w' ⟨u, hu, rfl, rfl⟩
  have hbz := HMK.out u hu
  have hul := HLU.out _ _ hbz
  have hvl := HLV.out _ _ hbz
  have hu64 := le_of_len (x := u) (by omega)
  have L3 := hide (mul_any u a hu64 ha w)
  have hx := hide (xor64 (mulL_le u a) hg)
  have L4 := hide (long_any (mulH u a) (mulL u a ^^^ Gf2.gcd a b) b (mulH_le hu64 ha) (xor64_le (mulL_le u a) hg) hb HB.out w)
  rw [pair_mul_xor u a _ hg] at L4
  have e64 : quoL (Gf2.cm u a ^^^ Gf2.gcd a b) b = Gf2.quo (Gf2.cm u a ^^^ Gf2.gcd a b) b := by
    unfold quoL
    exact Nat.mod_eq_of_lt (Gf2.lt_of_len (by omega))
  rw [e64] at L4
  have HBZ := hide hbz
  clear hu hbz e64 hul hvl
  go_wp2_with fail
  refine L3.out.mono ?_
  rintro e w' ⟨rfl, rfl⟩
  go_wp2_with fail
  rw [hx.out]
  refine L4.out.mono ?_
  rintro e w' ⟨rfl, rfl⟩
  go_wp2_with fail
  go_ret3
  exact ⟨u, _, HBZ.out, rfl, rfl⟩
end Go.Proofs.YtfjaohadjmigoaaDoor
