/- What the reference of layer 2 (outpostref02) computes: by the plain words of Gf2. -/
import Derived.Test.YtpmnbdkncmjafaaRows
import Derived.Test.YtpmnbdkncmjafaaPoly
namespace Go.Proofs.Ytpmnbdkncmjafaa
open Go.RowKit

set_option maxHeartbeats 400000 in
theorem rbit_any (a n : Nat) (i : Int) (ha : a ≤ 18446744073709551615) (hi : i = n) (hn : n ≤ 63) (w : World) :
    Calls Try.prog 67 #[.int .u64 a, .int .i64 i] w fun e w' => e = .returned (.int .u64 (a / 2 ^ n % 2 : Nat)) ∧ w = w' := by
  subst hi
  go_enter Try.func67, Try.ntmps67
  go_wp2
  go_ret
  exact ⟨by rw [← bit64 n ha]; rfl, rfl⟩

set_option maxHeartbeats 400000 in
theorem rdegree_any (a : Nat) (ha : a ≤ 18446744073709551615) (w : World) :
    Calls Try.prog 66 #[.int .u64 a] w fun e w' => e = .returned (.int .i64 ((Gf2.len a : Int) - 1)) ∧ w = w' := by
  have h64 := len_le64 ha
  go_enter Try.func66, Try.ntmps66
  go_wp2_with fail
  go_loop [0, 3] (fun x n => ∃ a' k : Nat, a' ≤ 18446744073709551615 ∧ k ≤ 64 ∧ Gf2.len a' + k = Gf2.len a ∧ x = .int .u64 a' ∧ n = .int .i64 ((k : Int) - 1)) (fun x _ => Gf2.len (intOf x).toNat)
  case atStart => exact ⟨a, 0, ha, by omega, rfl, rfl, rfl⟩
  case round =>
    obtain ⟨a', k, ha', hk, hg, rfl, rfl⟩ := hrel
    have hG := hide hg
    have hlk : k ≤ Gf2.len a := by omega
    clear hg
    by_cases h0 : a' = 0
    · subst h0
      go_wp2
      go_ret
      have e := hG.out
      rw [Gf2.len_zero, Nat.zero_add] at e
      exact ⟨by rw [← e]; rfl, rfl⟩
    · have hne : ((a' : Int) != 0) = true := by rw [bne_iff_ne]; omega
      have hN := hide (Gf2.len_pos h0)
      have hk2 : k < 64 := by have := hG.out; have := Gf2.len_pos h0; omega
      clear h0
      go_wp2
      go_round
      case rel => exact ⟨a' / 2, k + 1, by omega, by omega, by have := hG.out; have := hN.out; omega, by go_num, by go_num⟩
      case measure =>
        have := hN.out
        have e : ((a' : Int) / 2).toNat = a' / 2 := by omega
        simp only [intOf, Int.toNat_natCast, e]
        omega

/-- a round of the reference's division: the next coefficient comes down -/
theorem whole_bit_hi (hi lo n : Nat) (hlo : lo ≤ 18446744073709551615) (hn : 64 ≤ n) : pair64 hi lo / 2 ^ n % 2 = hi / 2 ^ (n - 64) % 2 := by
  unfold pair64
  have e : 2 ^ n = 2 ^ 64 * 2 ^ (n - 64) := by rw [← Nat.pow_add]; congr 1; omega
  rw [e, ← Nat.div_div_eq_div_mul, Gf2.join_high (by omega)]
theorem whole_bit_lo (hi lo n : Nat) (hn : n < 64) : pair64 hi lo / 2 ^ n % 2 = lo / 2 ^ n % 2 := by
  unfold pair64
  have e : hi * 2 ^ 64 = 2 ^ n * (2 * (hi * 2 ^ (63 - n))) := by
    have : 2 ^ 64 = 2 ^ n * 2 * 2 ^ (63 - n) := by rw [← Nat.pow_succ, ← Nat.pow_add]; congr 1; omega
    rw [this]; simp only [Nat.mul_assoc, Nat.mul_comm, Nat.mul_left_comm]
  rw [e, Nat.mul_add_div (Nat.two_pow_pos n), Nat.add_mod, Nat.mul_mod_right, Nat.zero_add, Nat.mod_mod]
theorem half_up (A n : Nat) : A / 2 ^ n = 2 * (A / 2 ^ (n + 1)) ^^^ (A / 2 ^ n % 2) := by
  have h := Gf2.split_bit (A / 2 ^ n)
  rw [Nat.div_div_eq_div_mul, ← Nat.pow_succ, Nat.xor_comm] at h
  exact h
theorem bit_or (r x : Nat) (hx : x < 2) : 2 * r ||| x = 2 * r ^^^ x := by
  apply Nat.eq_of_testBit_eq
  intro i
  rw [Nat.testBit_or, Nat.testBit_xor]
  cases i with
  | zero => simp [Nat.testBit_zero]
  | succ i =>
    have : x.testBit (i + 1) = false := Nat.testBit_lt_two_pow (by
      have : 2 ^ 1 ≤ 2 ^ (i + 1) := Nat.pow_le_pow_right (by omega) (by omega)
      omega)
    rw [this]; simp
def lift2 (X b x : Nat) : Nat := 2 * Gf2.rem X b ^^^ x
theorem lift2_lt {X b x d : Nat} (hd : Gf2.len b = d + 1) (hx : x < 2) : lift2 X b x < 2 ^ (d + 1) := by
  have hb : b ≠ 0 := by rintro rfl; rw [Gf2.len_zero] at hd; omega
  have h := Gf2.len_rem X hb
  have h2 : Gf2.rem X b < 2 ^ d := Gf2.lt_of_len (by omega)
  unfold lift2
  apply Nat.xor_lt_two_pow
  · rw [Nat.pow_succ]; omega
  · have : 2 ^ 1 ≤ 2 ^ (d + 1) := Nat.pow_le_pow_right (by omega) (by omega)
    omega
theorem lift2_eq (X b x : Nat) : Gf2.cm (2 * Gf2.quo X b) b ^^^ lift2 X b x = 2 * X ^^^ x := by
  unfold lift2
  rw [Gf2.cm_two_left, ← Nat.xor_assoc, ← Gf2.two_xor, Gf2.quo_rem]
theorem whole_no {X b x d : Nat} (hd : Gf2.len b = d + 1) (hx : x < 2) (h : lift2 X b x / 2 ^ d % 2 = 0) : Gf2.quo (2 * X ^^^ x) b = 2 * Gf2.quo X b ∧ Gf2.rem (2 * X ^^^ x) b = lift2 X b x := by
  refine Gf2.rem_eq ?_ (lift2_eq X b x)
  have := Gf2.len_le (Gf2.lt_of_bit (lift2_lt (X := X) hd hx) h)
  omega
theorem whole_yes {X b x d : Nat} (hd : Gf2.len b = d + 1) (hx : x < 2) (h : lift2 X b x / 2 ^ d % 2 = 1) : Gf2.quo (2 * X ^^^ x) b = 2 * Gf2.quo X b ^^^ 1 ∧ Gf2.rem (2 * X ^^^ x) b = lift2 X b x ^^^ b := by
  have hl := Gf2.len_of_bit (lift2_lt (X := X) hd hx) h
  refine Gf2.rem_eq ?_ ?_
  · rw [← hd] at hl
    have hne : lift2 X b x ≠ 0 := by intro e; rw [e, Gf2.len_zero] at hl; omega
    have := Gf2.len_xor_lt hne hl
    omega
  · rw [Gf2.cm_xor_left, Gf2.cm_one_left, Gf2.xor_swap_self, lift2_eq]
theorem low_double (q : Nat) : 2 * q % 2 ^ 64 = 2 * (q % 2 ^ 64) % 2 ^ 64 := by omega
theorem low_one (q : Nat) : (2 * q ^^^ 1) % 2 ^ 64 = 2 * (q % 2 ^ 64) % 2 ^ 64 ||| 1 := by
  rw [Gf2.xor_low, low_double]
  have e : 2 * (q % 2 ^ 64) % 2 ^ 64 = 2 * (q % 2 ^ 63) := by omega
  rw [e, bit_or _ _ (by omega)]
def WholeR (A b m q r : Nat) : Prop := q = quoL (A / 2 ^ m) b ∧ r = Gf2.rem (A / 2 ^ m) b
section
variable {A b m n d q r x : Nat}
theorem WholeR.q_le (h : WholeR A b m q r) : q ≤ 18446744073709551615 := by rw [h.1]; exact quoL_le _ _
theorem WholeR.r_le (h : WholeR A b m q r) (hb : b ≤ 18446744073709551615) (hb0 : b ≠ 0) : r ≤ 18446744073709551615 := by rw [h.2]; exact rem_le hb hb0
theorem WholeR.start (hA : A < 2 ^ 128) (hb0 : b ≠ 0) : WholeR A b 128 0 0 := by
  have e : A / 2 ^ 128 = 0 := Nat.div_eq_of_lt hA
  have := Gf2.len_pos hb0
  obtain ⟨g1, g2⟩ := Gf2.rem_eq (a := 0) (b := b) (q := 0) (r := 0) (by rw [Gf2.len_zero]; omega) (by rw [Gf2.cm_zero]; rfl)
  exact ⟨by unfold quoL; rw [e, g1], by rw [e, g2]⟩
theorem double_or {q x : Nat} (hx : x < 2) : bits .or .u64 (IntKind.u64.wrap ((q : Int) * 2)) (x : Int) = ((2 * q % 2 ^ 64 ||| x : Nat) : Int) := by
  have h := shlI64 q 1
  rw [Int.pow_one, Nat.pow_one, Nat.mul_comm q 2] at h
  rw [h, or64 (mod64_le _) (by omega)]
theorem double_wrap (q : Nat) : IntKind.u64.wrap ((q : Int) * 2) = ((2 * q % 2 ^ 64 : Nat) : Int) := by
  have h := shlI64 q 1
  rwa [Int.pow_one, Nat.pow_one, Nat.mul_comm q 2] at h
theorem WholeR.zero (h : WholeR A b (n + 1) q r) (hd : Gf2.len b = 0 + 1) (hx : x = A / 2 ^ n % 2) :
    ∃ q', WholeR A b n q' r ∧ bits .or .u64 (IntKind.u64.wrap ((q : Int) * 2)) (x : Int) = (q' : Int) := by
  have hx2 : x < 2 := by rw [hx]; exact Nat.mod_lt _ (by decide)
  refine ⟨2 * q % 2 ^ 64 ||| x, ?_, double_or hx2⟩
  have hr : r = 0 := by
    rw [h.2]
    have hb : b ≠ 0 := by rintro rfl; rw [Gf2.len_zero] at hd; omega
    have := Gf2.len_rem (A / 2 ^ (n + 1)) hb
    exact Gf2.len_eq_zero.1 (by omega)
  have e := half_up A n
  rw [← hx] at e
  have hl : lift2 (A / 2 ^ (n + 1)) b x = x := by unfold lift2; rw [← h.2, hr]; simp
  by_cases hx1 : x = 0
  · obtain ⟨g1, g2⟩ := whole_no (X := A / 2 ^ (n + 1)) hd hx2 (by rw [hl, hx1])
    refine ⟨?_, ?_⟩
    · rw [h.1, hx1, Nat.or_zero, e]; unfold quoL; rw [g1]; omega
    · rw [e, g2, hl, hr, hx1]
  · obtain ⟨g1, g2⟩ := whole_yes (X := A / 2 ^ (n + 1)) hd hx2 (by rw [hl]; omega)
    have hx1 : x = 1 := by omega
    have hb1 : b = 1 := by
      have h1 := Gf2.lt_len b
      have h2 : b ≠ 0 := by rintro rfl; rw [Gf2.len_zero] at hd; omega
      rw [hd] at h1
      omega
    refine ⟨?_, ?_⟩
    · unfold quoL; rw [e, g1, low_one, h.1, hx1]; rfl
    · rw [e, g2, hl, hr, hx1, hb1]; rfl
theorem WholeR.lift (h : WholeR A b (n + 1) q r) (hd : Gf2.len b = d + 1) (hd64 : d < 64) (hx : x < 2) : bits .or .u64 (IntKind.u64.wrap ((r : Int) * 2)) (x : Int) = (lift2 (A / 2 ^ (n + 1)) b x : Int) ∧ lift2 (A / 2 ^ (n + 1)) b x ≤ 18446744073709551615 := by
  have hb : b ≠ 0 := by rintro rfl; rw [Gf2.len_zero] at hd; omega
  have hr : r < 2 ^ d := by rw [h.2]; exact Gf2.lt_of_len (by have := Gf2.len_rem (A / 2 ^ (n + 1)) hb; omega)
  have hp : 2 ^ d ≤ 2 ^ 63 := Nat.pow_le_pow_right (by omega) (by omega)
  refine ⟨?_, le_of_lt64 (lift2_lt hd hx) (by omega)⟩
  rw [double_or hx, Nat.mod_eq_of_lt (by omega), bit_or _ _ hx, h.2]
  rfl
theorem WholeR.no (h : WholeR A b (n + 1) q r) (hd : Gf2.len b = d + 1) (hx : x = A / 2 ^ n % 2) (hbit : lift2 (A / 2 ^ (n + 1)) b x / 2 ^ d % 2 = 0) :
    ∃ q', WholeR A b n q' (lift2 (A / 2 ^ (n + 1)) b x) ∧ IntKind.u64.wrap ((q : Int) * 2) = (q' : Int) := by
  have e := half_up A n
  rw [← hx] at e
  obtain ⟨g1, g2⟩ := whole_no hd (by rw [hx]; exact Nat.mod_lt _ (by decide)) hbit
  exact ⟨2 * q % 2 ^ 64, ⟨by rw [h.1, e]; unfold quoL; rw [g1]; omega, by rw [e, g2]⟩, double_wrap q⟩
theorem WholeR.yes (h : WholeR A b (n + 1) q r) (hd : Gf2.len b = d + 1) (hd64 : d < 64) (hb : b ≤ 18446744073709551615) (hx : x = A / 2 ^ n % 2) (hbit : lift2 (A / 2 ^ (n + 1)) b x / 2 ^ d % 2 = 1) :
    ∃ q' r', WholeR A b n q' r' ∧ bits .or .u64 (IntKind.u64.wrap ((q : Int) * 2)) 1 = (q' : Int) ∧ bits .xor .u64 (lift2 (A / 2 ^ (n + 1)) b x : Int) (b : Int) = (r' : Int) := by
  have e := half_up A n
  rw [← hx] at e
  have hx2 : x < 2 := by rw [hx]; exact Nat.mod_lt _ (by decide)
  obtain ⟨g1, g2⟩ := whole_yes hd hx2 hbit
  exact ⟨2 * q % 2 ^ 64 ||| 1, lift2 (A / 2 ^ (n + 1)) b x ^^^ b, ⟨by unfold quoL; rw [e, g1, low_one, h.1]; rfl, by rw [e, g2]⟩, double_or (x := 1) (by omega), xor64 (h.lift hd hd64 hx2).2 hb⟩
theorem WholeR.done (h : WholeR A b 0 q r) : q = quoL A b ∧ r = Gf2.rem A b := by
  obtain ⟨h1, h2⟩ := h
  rw [Nat.pow_zero, Nat.div_one] at h1 h2
  exact ⟨h1, h2⟩
end
theorem pair64_lt {hi lo : Nat} (hhi : hi ≤ 18446744073709551615) (hlo : lo ≤ 18446744073709551615) : pair64 hi lo < 2 ^ 128 := by unfold pair64; omega

set_option maxHeartbeats 1000000 in
theorem whole_any (hi lo b : Nat) (hhi : hi ≤ 18446744073709551615) (hlo : lo ≤ 18446744073709551615) (hb : b ≤ 18446744073709551615) (hb0 : b ≠ 0) (w : World) :
    Calls Try.prog 65 #[.int .u64 hi, .int .u64 lo, .int .u64 b] w fun e w' => e = .returned (.tuple #[.int .u64 (quoL (pair64 hi lo) b), .int .u64 (Gf2.rem (pair64 hi lo) b)]) ∧ w = w' := by
  obtain ⟨d, hd⟩ : ∃ d, Gf2.len b = d + 1 := ⟨_, Gf2.len_pos hb0⟩
  have hd64 : d < 64 := by have := len_le64 hb; omega
  have hD := hide hd
  have hB := hide hb0
  have hdeg : ∀ w, Calls Try.prog 66 #[.int .u64 b] w fun e w' => e = .returned (.int .i64 d) ∧ w = w' := fun w =>
    (rdegree_any b hb w).mono fun _ _ ⟨h1, h2⟩ => ⟨by rw [h1, hd]; congr 2; omega, h2⟩
  have hDeg := hide hdeg
  have hS := hide (WholeR.start (pair64_lt hhi hlo) hb0)
  have hloB := hide fun n => whole_bit_lo hi lo n
  have hhiB := hide fun n => whole_bit_hi hi lo n hlo
  clear hd hb0 hdeg
  generalize pair64 hi lo = A at *
  go_enter Try.func65, Try.ntmps65
  go_wp2_with fail
  refine (hDeg.out _).mono ?_
  rintro e w' ⟨rfl, rfl⟩
  go_wp2_with fail
  go_loop [8, 9, 11] (fun q r i => ∃ (m q' r' : Nat), m ≤ 128 ∧ WholeR A b m q' r' ∧ q = .int .u64 q' ∧ r = .int .u64 r' ∧ i = .int .i64 ((m : Int) - 1)) (fun _ _ i => (1 + intOf i).toNat)
  case atStart => exact ⟨128, 0, 0, by omega, hS.out, rfl, rfl, rfl⟩
  case round =>
    obtain ⟨m, q, r, hm, hrel, rfl, rfl, rfl⟩ := hrel
    clear hS hDeg
    rcases m with _ | n
    · have hE := hide hrel.done
      clear hrel
      go_wp2_with fail
      go_ret2
      exact ⟨by rw [← hE.out.1, ← hE.out.2]; rfl, rfl⟩
    · rw [show (((n + 1 : Nat) : Int) - 1) = (n : Int) by omega]
      have hq := hrel.q_le
      have hr := hrel.r_le hb hB.out
      have hR := hide hrel
      clear hrel
      obtain ⟨x, hx⟩ : ∃ x, x = A / 2 ^ n % 2 := ⟨_, rfl⟩
      have hx2 : x < 2 := by rw [hx]; exact Nat.mod_lt _ (by decide)
      have hX := hide hx
      clear hx
      obtain ⟨hL1, hL2⟩ := hR.out.lift hD.out hd64 hx2
      have hl1 := hide hL1
      clear hL1
      by_cases hd0 : d = 0
      · have hdne : ((d : Int) == 0) = true := by rw [hd0]; rfl
        have hN := hide (hR.out.zero (by rw [hD.out, hd0]) hX.out)
        clear hd0
        by_cases hn64 : 64 ≤ n
        · have hbit := hide (hX.out.trans (hhiB.out n hn64))
          go_wp2_with fail
          refine (rbit_any hi (n - 64) _ hhi (by omega) (by omega) _).mono ?_
          rw [← hbit.out]
          rintro e w' ⟨rfl, rfl⟩
          go_wp2_with fail
          obtain ⟨q', g1, g2⟩ := hN.out
          go_round
          case rel => exact ⟨n, q', r, by omega, g1, by rw [g2], rfl, rfl⟩
          case measure => simp [intOf]; omega
        · have hbit := hide (hX.out.trans (hloB.out n (by omega)))
          go_wp2_with fail
          refine (rbit_any lo n _ hlo (by omega) (by omega) _).mono ?_
          rw [← hbit.out]
          rintro e w' ⟨rfl, rfl⟩
          go_wp2_with fail
          obtain ⟨q', g1, g2⟩ := hN.out
          go_round
          case rel => exact ⟨n, q', r, by omega, g1, by rw [g2], rfl, rfl⟩
          case measure => simp [intOf]; omega
      · have hdne : ((d : Int) == 0) = false := by rw [beq_eq_false_iff_ne]; omega
        have hno := hide fun h => hR.out.no hD.out hX.out h
        have hyes := hide fun h => hR.out.yes hD.out hd64 hb hX.out h
        clear hd0
        by_cases hn64 : 64 ≤ n
        · have hbit := hide (hX.out.trans (hhiB.out n hn64))
          go_wp2_with fail
          refine (rbit_any hi (n - 64) _ hhi (by omega) (by omega) _).mono ?_
          rw [← hbit.out]
          rintro e w' ⟨rfl, rfl⟩
          go_wp2_with fail
          rw [hl1.out]
          refine (rbit_any _ d _ hL2 rfl (by omega) _).mono ?_
          by_cases hb1 : lift2 (A / 2 ^ (n + 1)) b x / 2 ^ d % 2 = 1
          · have hN := hide (hyes.out hb1)
            rw [hb1]
            clear hb1
            rintro e w' ⟨rfl, rfl⟩
            go_wp2_with fail
            obtain ⟨q', r', g1, g2, g3⟩ := hN.out
            go_round
            case rel => exact ⟨n, q', r', by omega, g1, by rw [g2], by rw [g3], rfl⟩
            case measure => simp [intOf]; omega
          · have hb0 : lift2 (A / 2 ^ (n + 1)) b x / 2 ^ d % 2 = 0 := by omega
            have hN := hide (hno.out hb0)
            rw [hb0]
            clear hb1 hb0
            rintro e w' ⟨rfl, rfl⟩
            go_wp2_with fail
            obtain ⟨q', g1, g2⟩ := hN.out
            go_round
            case rel => exact ⟨n, q', _, by omega, g1, by rw [g2], rfl, rfl⟩
            case measure => simp [intOf]; omega
        · have hbit := hide (hX.out.trans (hloB.out n (by omega)))
          go_wp2_with fail
          refine (rbit_any lo n _ hlo (by omega) (by omega) _).mono ?_
          rw [← hbit.out]
          rintro e w' ⟨rfl, rfl⟩
          go_wp2_with fail
          rw [hl1.out]
          refine (rbit_any _ d _ hL2 rfl (by omega) _).mono ?_
          by_cases hb1 : lift2 (A / 2 ^ (n + 1)) b x / 2 ^ d % 2 = 1
          · have hN := hide (hyes.out hb1)
            rw [hb1]
            clear hb1
            rintro e w' ⟨rfl, rfl⟩
            go_wp2_with fail
            obtain ⟨q', r', g1, g2, g3⟩ := hN.out
            go_round
            case rel => exact ⟨n, q', r', by omega, g1, by rw [g2], by rw [g3], rfl⟩
            case measure => simp [intOf]; omega
          · have hb0 : lift2 (A / 2 ^ (n + 1)) b x / 2 ^ d % 2 = 0 := by omega
            have hN := hide (hno.out hb0)
            rw [hb0]
            clear hb1 hb0
            rintro e w' ⟨rfl, rfl⟩
            go_wp2_with fail
            obtain ⟨q', g1, g2⟩ := hN.out
            go_round
            case rel => exact ⟨n, q', _, by omega, g1, by rw [g2], rfl, rfl⟩
            case measure => simp [intOf]; omega
end Go.Proofs.Ytpmnbdkncmjafaa
