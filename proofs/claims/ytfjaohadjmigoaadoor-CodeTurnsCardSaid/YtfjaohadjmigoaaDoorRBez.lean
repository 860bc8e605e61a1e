/- outpostref02.Bezout, walked. -/
import Derived.Test.YtfjaohadjmigoaaDoorRows
import Derived.Test.YtfjaohadjmigoaaDoorRMul
import Derived.Test.YtfjaohadjmigoaaDoorRef2
import Derived.Test.YtfjaohadjmigoaaDoorRBezM
import Derived.Test.YtfjaohadjmigoaaDoorBezout
namespace Go.Proofs.YtfjaohadjmigoaaDoor
open Go.RowKit

set_option maxHeartbeats 2000000 in
theorem lowest_any (a b g m A : Nat) (ha : a ≤ 18446744073709551615) (hb : b ≤ 18446744073709551615) (_hgl : g ≤ 18446744073709551615) (hm : m ≤ 18446744073709551615) (hm0 : m ≠ 0) (hg0 : g ≠ 0) (hg : Gf2.gcd a b = g) (hmg : Gf2.cm m g = b) (hA : Gf2.cm A g = a) (w : World) :
    Calls Tryd.prog 42 #[.int .u64 a, .int .u64 b, .int .u64 g, .int .u64 m] w fun e w' => ∃ u : Nat, Gf2.InvR A m u ∧ e = .returned (.int .u64 u) ∧ w = w' := by
  have HD := hide (show Gf2.Dvd b (Gf2.cm m a) from ⟨A, by rw [← hA, ← hmg, ← Gf2.cm_assoc, ← Gf2.cm_assoc, Gf2.cm_comm A m]⟩)
  have HS := hide (Gf2.LowR.start a b)
  rw [hg] at HS
  have HF := hide fun y p q (h : Gf2.LowR a b g g y p q) => h.done hm0 hg0 hmg hA
  have HM := hide hm0
  clear hm0 hg0 hg hmg hA
  go_enter Tryd.func42, Tryd.ntmps42
  go_wp2_with fail
  go_loop [9, 10, 11, 12] (fun r s p q => ∃ x y p' q' : Nat, Hid (Gf2.LowR a b g x y p' q') ∧ x ≤ 18446744073709551615 ∧ y ≤ 18446744073709551615 ∧ p' ≤ 18446744073709551615 ∧ q' ≤ 18446744073709551615 ∧ r = .int .u64 x ∧ s = .int .u64 y ∧ p = .int .u64 p' ∧ q = .int .u64 q') (fun _ s _ _ => Gf2.len (intOf s).toNat)
  case atStart => exact ⟨a, b, 1, 0, HS, ha, hb, by omega, by omega, rfl, rfl, rfl, rfl⟩
  case round =>
    clear HS
    obtain ⟨x, y, p, q, HE, hx, hy, hp, hq, rfl, rfl, rfl, rfl⟩ := hrel
    by_cases h0 : x = g
    · have hb0 : ((x : Int) != (g : Int)) = false := natBeq h0
      have hfin := hide (HF.out y p q (by have := HE.out; rw [h0] at this; exact this))
      have L := hide (whole_any 0 p m (by omega) hp hm HM.out w)
      rw [pair64_zero] at L
      clear h0
      generalize quoL p m = z at *
      generalize Gf2.rem p m = u at *
      go_wp2_with fail
      refine L.out.mono ?_
      rintro e w' ⟨rfl, rfl⟩
      go_wp2_with fail
      go_ret
      exact ⟨u, hfin.out, rfl, rfl⟩
    · have hb0 : ((x : Int) != (g : Int)) = true := natBne h0
      have hy0 := HE.out.more h0
      have hz := zNe hy0
      have hN := hide (HE.out.step HD.out hy0)
      have L1 := hide (whole_any 0 x y (by omega) hx hy hy0 w)
      rw [pair64_zero, quoL_small hx hy0] at L1
      have hk := quo_le (a := x) hx hy0
      have hrm := rem_le (a := x) hy hy0
      have L2 := hide (rmul_any (Gf2.quo x y) q hk hq w)
      have L3 := hide (whole_any (mulH (Gf2.quo x y) q) (mulL (Gf2.quo x y) q) m (mulH_le hk hq) (mulL_le _ _) hm HM.out w)
      rw [pair_mul] at L3
      have hw := rem_le (a := Gf2.cm (Gf2.quo x y) q) hm HM.out
      have hxor := xor64 hp hw
      have hxl := xor64_le hp hw
      have L4 := hide (whole_any 0 (p ^^^ Gf2.rem (Gf2.cm (Gf2.quo x y) q) m) m (by omega) hxl hm HM.out w)
      rw [pair64_zero] at L4
      have hql := rem_le (a := p ^^^ Gf2.rem (Gf2.cm (Gf2.quo x y) q) m) hm HM.out
      have hmes := hide (Gf2.len_rem x hy0)
      clear h0 hy0
      generalize hz3 : quoL (p ^^^ Gf2.rem (Gf2.cm (Gf2.quo x y) q) m) m = z3 at *
      generalize hz4 : Gf2.rem (p ^^^ Gf2.rem (Gf2.cm (Gf2.quo x y) q) m) m = q4 at *
      clear hz3 hz4
      generalize Gf2.rem (Gf2.cm (Gf2.quo x y) q) m = s3 at *
      generalize quoL (Gf2.cm (Gf2.quo x y) q) m = z5 at *
      generalize mulH (Gf2.quo x y) q = z6 at *
      generalize mulL (Gf2.quo x y) q = z7 at *
      generalize Gf2.quo x y = k at *
      generalize Gf2.rem x y = t at *
      generalize p ^^^ s3 = ps at *
      go_wp2_with fail
      refine L1.out.mono ?_
      rintro e w' ⟨rfl, rfl⟩
      go_wp2_with fail
      refine L2.out.mono ?_
      rintro e w' ⟨rfl, rfl⟩
      go_wp2_with fail
      refine L3.out.mono ?_
      rintro e w' ⟨rfl, rfl⟩
      go_wp2_with fail
      refine L4.out.mono ?_
      rintro e w' ⟨rfl, rfl⟩
      go_wp2_with fail
      go_round
      case rel => exact ⟨y, t, q, q4, hN, hy, hrm, hq, hql, rfl, rfl, rfl, rfl⟩
      case measure => have := hmes.out; simpa [intOf] using this
set_option maxHeartbeats 1000000 in
theorem rbezout_any (a b : Nat) (ha : a ≤ 18446744073709551615) (hb : b ≤ 18446744073709551615) (hb0 : b ≠ 0) (w : World) :
    Calls Tryd.prog 27 #[.int .u64 a, .int .u64 b] w fun e w' => ∃ u v : Nat, Gf2.BezR a b u v ∧ e = .returned (.tuple #[.int .u64 (Gf2.gcd a b), .int .u64 u, .int .u64 v]) ∧ w = w' := by
  have hg := gcd_le (a := a) (b := b) ha hb
  have hg0 := Gf2.gcd_ne (a := a) hb0
  have hm0 := Gf2.quo_ne (a := a) hb0
  have HMK := hide fun u h => Gf2.BezR.mk (a := a) (u := u) hb0 h
  have L1 := hide (whole_any 0 b (Gf2.gcd a b) (by omega) hb hg hg0 w)
  rw [pair64_zero, quoL_small hb hg0] at L1
  have hmg := Gf2.quo_mul hg0 (Gf2.gcd_dvd a b).2
  have hAg := Gf2.quo_mul hg0 (Gf2.gcd_dvd a b).1
  have HI := hide (lowest_any a b (Gf2.gcd a b) (Gf2.quo b (Gf2.gcd a b)) (Gf2.quo a (Gf2.gcd a b)) ha hb hg (quo_le hb hg0) hm0 hg0 rfl hmg hAg w)
  have hne := zNe hb0
  have HB := hide hb0
  have HLV := hide fun u v (h : Gf2.BezR a b u v) => h.len_v hb0
  have HLU := hide fun u v (h : Gf2.BezR a b u v) => h.len_u hb0
  have HG := hide (rgcd_any a b ha hb w)
  clear hb0 hg0 hm0 hmg hAg
  have hla := len_le64 ha
  have hlb := len_le64 hb
  generalize Gf2.quo b (Gf2.gcd a b) = m at *
  generalize Gf2.quo a (Gf2.gcd a b) = x at *
  go_enter Tryd.func27, Tryd.ntmps27
  go_wp2_with fail
  refine HG.out.mono ?_
  rintro e w' ⟨rfl, rfl⟩
  go_wp2_with fail
  refine L1.out.mono ?_
  rintro e w' ⟨rfl, rfl⟩
  go_wp2_with fail
  refine HI.out.mono ?_
  rintro e w' ⟨u, hu, rfl, rfl⟩
  have hbz := HMK.out u hu
  have hul := HLU.out _ _ hbz
  have hvl := HLV.out _ _ hbz
  have hu64 := le_of_len (x := u) (by omega)
  have L3 := hide (rmul_any u a hu64 ha w)
  have hx := hide (xor64 (mulL_le u a) hg)
  have L4 := hide (whole_any (mulH u a) (mulL u a ^^^ Gf2.gcd a b) b (mulH_le hu64 ha) (xor64_le (mulL_le u a) hg) hb HB.out w)
  rw [pair_mul_xor u a _ hg] at L4
  have e64 : quoL (Gf2.cm u a ^^^ Gf2.gcd a b) b = Gf2.quo (Gf2.cm u a ^^^ Gf2.gcd a b) b := by
    unfold quoL
    exact Nat.mod_eq_of_lt (Gf2.lt_of_len (by omega))
  rw [e64] at L4
  have HBZ := hide hbz
  clear hu hbz e64 hul hvl
  go_wp2_with fail
  refine L3.out.mono ?_
  rintro e w' ⟨rfl, rfl⟩
  go_wp2_with fail
  rw [hx.out]
  refine L4.out.mono ?_
  rintro e w' ⟨rfl, rfl⟩
  go_wp2_with fail
  go_ret3
  exact ⟨u, _, HBZ.out, rfl, rfl⟩
end Go.Proofs.YtfjaohadjmigoaaDoor
