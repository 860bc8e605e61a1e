/- poly.MulMod, prime, Irreducible, Order, Primitive, walked. -/
import Derived.Test.YtknkkoemghceeaaDoorRows
import Derived.Test.YtknkkoemghceeaaDoorMul
import Derived.Test.YtknkkoemghceeaaDoorLfCheck
import Derived.Test.YtknkkoemghceeaaDoorOrd
namespace Go.Proofs.YtknkkoemghceeaaDoor
open Go.RowKit

theorem poly_pair (k q : Nat) : pair64 (mulH k q) (mulL k q) = Gf2.cm k q := Gf2.join_of _ 64
set_option maxHeartbeats 400000 in
theorem pmulmod_any (a b m : Nat) (ha : a ≤ 18446744073709551615) (hb : b ≤ 18446744073709551615) (hm : m ≤ 18446744073709551615) (h0 : m ≠ 0) (w : World) :
    Calls Tryd.prog 82 #[.int .u64 a, .int .u64 b, .int .u64 m] w fun e w' => e = .returned (.tuple #[.int .u64 (Gf2.rem (Gf2.cm a b) m : Nat), .int .i64 0]) ∧ w = w' := by
  have HM := hide (mul_any a b ha hb)
  have HW := hide (long_any (mulH a b) (mulL a b) m (mulH_le ha hb) (mulL_le a b) hm h0)
  rw [poly_pair] at HW
  generalize mulH a b = h at *
  generalize mulL a b = l at *
  generalize Gf2.rem (Gf2.cm a b) m = r at *
  generalize quoL (Gf2.cm a b) m = q at *
  have hmb : ((m : Int) == 0) = false := by rw [beq_eq_false_iff_ne]; omega
  have hmn : ¬ (m : Int) = 0 := by omega
  clear ha hb hm h0
  go_enter Tryd.func82, Tryd.ntmps82
  go_wp2_with fail
  refine (HM.out _).mono ?_
  rintro e w' ⟨rfl, rfl⟩
  go_wp2_with fail
  refine (HW.out _).mono ?_
  rintro e w' ⟨rfl, rfl⟩
  go_wp2_with fail
  go_ret2
  exact ⟨rfl, rfl⟩
/-- what prime has found out up to round k -/
def PrimeS (a n k x : Nat) : Prop := Gf2.Cg a x (Gf2.fr (k - 1)) ∧ Gf2.len x < Gf2.len a ∧ ∀ j, 1 ≤ j → j < k → j < n → n % j = 0 → ∃ y, Gf2.Cg a y (Gf2.fr j) ∧ Gf2.gcd (y ^^^ Gf2.rem 2 a) a = 1
theorem PrimeS.start {a n : Nat} (h0 : a ≠ 0) : PrimeS a n 1 (Gf2.rem 2 a) := ⟨Gf2.Cg.rem a 2, Gf2.len_rem 2 h0, fun j h1 h2 => by omega⟩
theorem PrimeS.next {a n k x : Nat} (h0 : a ≠ 0) (hk : 1 ≤ k) (h : PrimeS a n k x) (hg : k < n → n % k = 0 → Gf2.gcd (Gf2.rem (Gf2.cm x x) a ^^^ Gf2.rem 2 a) a = 1) : PrimeS a n (k + 1) (Gf2.rem (Gf2.cm x x) a) := by
  obtain ⟨h1, h2, h3⟩ := h
  have hc : Gf2.Cg a (Gf2.rem (Gf2.cm x x) a) (Gf2.fr k) := by
    refine (Gf2.Cg.rem a _).trans ?_
    have := h1.cm h1
    obtain ⟨j, rfl⟩ : ∃ j, k = j + 1 := ⟨k - 1, by omega⟩
    exact this
  refine ⟨hc, Gf2.len_rem _ h0, fun j a1 a2 a3 a4 => ?_⟩
  by_cases e : j = k
  · subst e; exact ⟨_, hc, hg a3 a4⟩
  · exact h3 j a1 (by omega) a3 a4
theorem PrimeS.done {a n x : Nat} (ho : a % 2 = 1) (hl : Gf2.len a = n + 1) (hn : 1 ≤ n) (h : PrimeS a n (n + 1) x) (e : x = Gf2.rem 2 a) : Gf2.Irr a := by
  obtain ⟨h1, h2, h3⟩ := h
  refine Gf2.rabin ho hl hn ?_ (fun i a1 a2 a3 => h3 i a1 (by omega) a2 a3)
  refine h1.symm.trans ?_
  rw [e]; exact Gf2.Cg.rem a 2
theorem le64_of_len {x : Nat} (h : Gf2.len x ≤ 64) : x ≤ 18446744073709551615 := le_of_lt64 (Gf2.lt_len x) h
set_option maxHeartbeats 2000000 in
theorem prime_odd (a n : Nat) (ho : a % 2 = 1) (hl : Gf2.len a = n + 1) (hn : 1 ≤ n) (hn32 : n ≤ 32) (w : World) :
    Calls Tryd.prog 74 #[.int .u64 a] w fun e w' => ∃ b : Bool, e = .returned (.bool b) ∧ (b = true → Gf2.Irr a) ∧ w = w' := by
  have ha : a ≤ 18446744073709551615 := le64_of_len (by omega)
  have h0 : a ≠ 0 := by omega
  have hla64 : Gf2.len a ≤ 33 := by omega
  have HD := hide (degree_nz a n hl ha)
  have HR2 := hide (rest_any 2 a (by omega) ha h0)
  have HMM := hide (fun (x : Nat) (hx : x ≤ 18446744073709551615) => pmulmod_any x x a hx hx ha h0)
  have HG := hide (fun (x : Nat) (hx : x ≤ 18446744073709551615) => gcd_any x a hx ha)
  have HS := hide (PrimeS.start (n := n) h0)
  have hr64 := rem_le (a := 2) ha h0
  have HN := hide (fun k x hk h hg => PrimeS.next (n := n) (k := k) (x := x) h0 hk h hg)
  have HE := hide (fun x h e => PrimeS.done (x := x) ho hl hn h e)
  have HLE := hide (fun x => rem_le (a := x) ha h0)
  generalize hrr : Gf2.rem 2 a = r at *
  clear hrr ho hl h0 hla64
  go_enter Tryd.func74, Tryd.ntmps74
  go_wp2_with fail
  refine (HD.out _).mono ?_
  rintro e w' ⟨rfl, rfl⟩
  go_wp2_with fail
  refine (HR2.out _).mono ?_
  rintro e w' ⟨rfl, rfl⟩
  go_wp2_with fail
  go_loop [4, 5] (fun x i => ∃ k x' : Nat, 1 ≤ k ∧ k ≤ n + 1 ∧ x' ≤ 18446744073709551615 ∧ Hid (PrimeS a n k x') ∧ x = .int .u64 x' ∧ i = .int .i64 k) (fun _ i => n + 1 - (intOf i).toNat)
  case atStart => exact ⟨1, r, by omega, by omega, hr64, HS, rfl, rfl⟩
  case round =>
    obtain ⟨k, x, hk1, hk, hx, hP, rfl, rfl⟩ := hrel
    clear HS
    by_cases hkn : k ≤ n
    · have HM := hide (HMM.out x hx)
      have hx2 := HLE.out (Gf2.cm x x)
      have HP2 := hide (HN.out k x hk1 hP.out)
      generalize Gf2.rem (Gf2.cm x x) a = y at *
      have hxo := xor64 hx2 hr64
      by_cases hlt : k < n
      · by_cases hd : n % k = 0
        · have hdI : ((n : Int) % (k : Int) == 0) = true := by rw [beq_iff_eq]; omega
          have hdI2 : (n : Int) % (k : Int) = 0 := by omega
          have HGC := hide (HG.out (y ^^^ r) (xor64_le hx2 hr64))
          by_cases hg : Gf2.gcd (y ^^^ r) a = 1
          · have HQ := hide (HP2.out (fun _ _ => hg))
            rw [hg] at HGC
            have HX := hide hxo
            clear hg hxo hd HP2
            go_wp2_with fail
            refine (HM.out _).mono ?_
            rintro e w' ⟨rfl, rfl⟩
            go_wp2_with fail
            refine (HR2.out _).mono ?_
            rintro e w' ⟨rfl, rfl⟩
            go_wp2_with fail
            rw [HX.out]
            refine (HGC.out _).mono ?_
            rintro e w' ⟨rfl, rfl⟩
            go_wp2_with fail
            go_round
            case rel => exact ⟨k + 1, y, by omega, by omega, hx2, HQ, rfl, by simp⟩
            case measure => simp [intOf]; omega
          · have hgb : ((Gf2.gcd (y ^^^ r) a : Int) != 1) = true := by rw [bne_iff_ne]; omega
            have HX := hide hxo
            generalize Gf2.gcd (y ^^^ r) a = g at *
            clear hg hxo hd HP2
            go_wp2_with fail
            refine (HM.out _).mono ?_
            rintro e w' ⟨rfl, rfl⟩
            go_wp2_with fail
            refine (HR2.out _).mono ?_
            rintro e w' ⟨rfl, rfl⟩
            go_wp2_with fail
            rw [HX.out]
            refine (HGC.out _).mono ?_
            rintro e w' ⟨rfl, rfl⟩
            go_wp2_with fail
            go_ret
            exact ⟨false, rfl, (fun h => by cases h), rfl⟩
        · have hdI : ((n : Int) % (k : Int) == 0) = false := by rw [beq_eq_false_iff_ne]; omega
          have hdI2 : ¬ (n : Int) % (k : Int) = 0 := by omega
          have HQ := hide (HP2.out (fun _ h => absurd h hd))
          clear hxo hd HP2
          go_wp2_with fail
          refine (HM.out _).mono ?_
          rintro e w' ⟨rfl, rfl⟩
          go_wp2_with fail
          go_round
          case rel => exact ⟨k + 1, y, by omega, by omega, hx2, HQ, rfl, by simp⟩
          case measure => simp [intOf]; omega
      · have HQ := hide (HP2.out (fun h => absurd h hlt))
        clear hxo HP2
        go_wp2_with fail
        refine (HM.out _).mono ?_
        rintro e w' ⟨rfl, rfl⟩
        go_wp2_with fail
        go_round
        case rel => exact ⟨k + 1, y, by omega, by omega, hx2, HQ, rfl, by simp⟩
        case measure => simp [intOf]; omega
    · obtain rfl : k = n + 1 := by omega
      have HQ := hide (HE.out x hP.out)
      clear hP HN HMM
      by_cases he : x = r
      · have hb : ((x : Int) == (r : Int)) = true := by rw [beq_iff_eq]; omega
        have HI := hide (HQ.out he)
        clear he
        go_wp2_with fail
        refine (HR2.out _).mono ?_
        rintro e w' ⟨rfl, rfl⟩
        go_wp2_with fail
        go_ret
        exact ⟨true, rfl, fun _ => HI.out, rfl⟩
      · have hb : ((x : Int) == (r : Int)) = false := by rw [beq_eq_false_iff_ne]; omega
        clear he
        go_wp2_with fail
        refine (HR2.out _).mono ?_
        rintro e w' ⟨rfl, rfl⟩
        go_wp2_with fail
        go_ret
        exact ⟨false, rfl, (fun h => by cases h), rfl⟩
set_option maxHeartbeats 400000 in
theorem pirr_odd (a n : Nat) (ho : a % 2 = 1) (hl : Gf2.len a = n + 1) (hn : 1 ≤ n) (hn32 : n ≤ 32) (w : World) :
    Calls Tryd.prog 53 #[.int .u64 a] w fun e w' => ∃ b : Bool, e = .returned (.tuple #[.bool b, .int .i64 0]) ∧ (b = true → Gf2.Irr a) ∧ w = w' := by
  have ha : a ≤ 18446744073709551615 := le64_of_len (by omega)
  have HD := hide (degree_nz a n hl ha)
  have HP := hide (prime_odd a n ho hl hn hn32)
  clear ho hl ha
  go_enter Tryd.func53, Tryd.ntmps53
  go_wp2_with fail
  refine (HD.out _).mono ?_
  rintro e w' ⟨rfl, rfl⟩
  go_wp2_with fail
  refine (HP.out _).mono ?_
  rintro e w' ⟨b, rfl, hI, rfl⟩
  have HI := hide hI
  clear hI
  go_wp2_with fail
  go_ret2
  exact ⟨b, rfl, HI.out, rfl⟩
set_option maxHeartbeats 1000000 in
theorem order_odd (a n N : Nat) (ho : a % 2 = 1) (hl : Gf2.len a = n + 1) (hn20 : n ≤ 20) (hN : Gf2.OrdP a N) (hNn : N ≤ 1048576) (w : World) :
    Calls Tryd.prog 52 #[.int .u64 a] w fun e w' => e = .returned (.tuple #[.int .i64 N, .int .i64 0]) ∧ w = w' := by
  have ha : a ≤ 18446744073709551615 := le64_of_len (by omega)
  have h0 : a ≠ 0 := by omega
  have HD := hide (degree_nz a n hl ha)
  have HR := hide (fun (x : Nat) (hx : x ≤ 18446744073709551615) => rest_any x a hx ha h0)
  have HX := hide (fun k => Gf2.px_next h0 k)
  have HL := hide (fun k => Gf2.px_lt hl k)
  have h20 : 2 ^ n ≤ 2 ^ 20 := Nat.pow_le_pow_right (by omega) hn20
  have HEQ := hide (fun k => Gf2.px_eq h0 k)
  have HN := hide hN
  have hN1 := hN.1
  have hodd : (bits .and .u64 (a : Int) 1 == 0) = false := by
    rw [and1_64 ha, ho]; rfl
  have hodd2 : ¬ bits .and .u64 (a : Int) 1 = 0 := by
    rw [and1_64 ha, ho]; decide
  have H1 := hide (HR.out 1 (by omega))
  have H2 := hide (HR.out 2 (by omega))
  rw [← Gf2.px_one] at H2
  clear hN ho hl
  go_enter Tryd.func52, Tryd.ntmps52
  go_wp2_with fail
  refine (HD.out _).mono ?_
  rintro e w' ⟨rfl, rfl⟩
  go_wp2_with fail
  refine (H1.out _).mono ?_
  rintro e w' ⟨rfl, rfl⟩
  go_wp2_with fail
  refine (H2.out _).mono ?_
  rintro e w' ⟨rfl, rfl⟩
  go_wp2_with fail
  go_loop [6, 7] (fun x i => ∃ k : Nat, 1 ≤ k ∧ k ≤ N ∧ x = .int .u64 (Gf2.px a k : Nat) ∧ i = .int .i64 k) (fun _ i => N - (intOf i).toNat)
  case atStart => exact ⟨1, by omega, hN1, rfl, rfl⟩
  case round =>
    obtain ⟨k, hk1, hk, rfl, rfl⟩ := hrel
    by_cases hkN : k < N
    · have hne : ((Gf2.px a k : Int) != (Gf2.rem 1 a : Int)) = true := by
        rw [bne_iff_ne]
        intro e
        exact HN.out.2.2 k hk1 hkN ((HEQ.out k).1 (by omega))
      have hlt := HL.out k
      have HQ := hide (HR.out (2 * Gf2.px a k) (by omega))
      rw [HX.out k] at HQ
      generalize Gf2.px a k = x at *
      generalize Gf2.rem 1 a = one at *
      have hsh : IntKind.u64.wrap ((x : Int) * 2) = ((2 * x : Nat) : Int) := by rw [IntWalk.u64_in _ ⟨by omega, by omega⟩]; omega
      have hsh2 : (x : Int) * 2 = ((2 * x : Nat) : Int) := by omega
      generalize hyy : 2 * x = y at *
      clear hyy
      go_wp2_with fail
      refine (HQ.out _).mono ?_
      rintro e w' ⟨rfl, rfl⟩
      go_wp2_with fail
      go_round
      case rel => exact ⟨k + 1, by omega, by omega, rfl, by simp⟩
      case measure => simp [intOf]; omega
    · obtain rfl : k = N := by omega
      have hne : ((Gf2.px a k : Int) != (Gf2.rem 1 a : Int)) = false := by
        rw [(HEQ.out k).2 HN.out.2.1]; simp
      generalize Gf2.px a k = x at *
      generalize Gf2.rem 1 a = one at *
      go_wp2_with fail
      go_ret2
      exact ⟨rfl, rfl⟩
set_option maxHeartbeats 1000000 in
theorem primitive_odd (a n N : Nat) (ho : a % 2 = 1) (hl : Gf2.len a = n + 1) (hn : 1 ≤ n) (hn20 : n ≤ 20) (hN : Gf2.OrdP a N) (hNn : N ≤ 1048576) (w : World) :
    Calls Tryd.prog 54 #[.int .u64 a] w fun e w' => ∃ b : Bool, e = .returned (.tuple #[.bool b, .int .i64 0]) ∧ (b = true → Gf2.Irr a ∧ N = 2 ^ n - 1) ∧ w = w' := by
  have ha : a ≤ 18446744073709551615 := le64_of_len (by omega)
  have HD := hide (degree_nz a n hl ha)
  have HP := hide (prime_odd a n ho hl hn (by omega))
  have HO := hide (order_odd a n N ho hl hn20 hN hNn)
  have hodd : (bits .and .u64 (a : Int) 1 == 0) = false := by
    rw [and1_64 ha, ho]; rfl
  have hodd2 : ¬ bits .and .u64 (a : Int) 1 = 0 := by
    rw [and1_64 ha, ho]; decide
  have h20 : 2 ^ n ≤ 2 ^ 20 := Nat.pow_le_pow_right (by omega) hn20
  have hp := Nat.two_pow_pos n
  have hmin : min n 64 = n := by omega
  have hsub : wrap64 (wrap64 ((2 : Int) ^ n) - 1) = ((2 ^ n - 1 : Nat) : Int) := by
    have e : ((2 : Int) ^ n) = ((2 ^ n : Nat) : Int) := by simp
    rw [e, IntWalk.wrap64_in ((2 ^ n : Nat) : Int) ⟨by omega, by omega⟩, IntWalk.wrap64_in _ ⟨by omega, by omega⟩]; omega
  have HSUB := hide hsub
  clear hsub
  clear ho hl ha hN
  go_enter Tryd.func54, Tryd.ntmps54
  go_wp2_with fail
  refine (HD.out _).mono ?_
  rintro e w' ⟨rfl, rfl⟩
  go_wp2_with fail
  refine (HP.out _).mono ?_
  rintro e w' ⟨b, rfl, hI, rfl⟩
  have HI := hide hI
  clear hI
  cases b
  · go_wp2_with fail
    go_ret2
    exact ⟨false, rfl, (fun h => by cases h), rfl⟩
  · go_wp2_with fail
    refine (HO.out _).mono ?_
    rintro e w' ⟨rfl, rfl⟩
    go_wp2_with fail
    go_ret2
    exact ⟨(N : Int) == wrap64 (wrap64 ((2 : Int) ^ n) - 1), rfl, fun h => ⟨HI.out trivial, by rw [HSUB.out, beq_iff_eq] at h; omega⟩, rfl⟩
end Go.Proofs.YtknkkoemghceeaaDoor
