/- modem.Check and outpostref25.Check, walked. -/
import Derived.Test.YtlbfndibgojbiaaRows
import Derived.Test.YtlbfndibgojbiaaMark
import Derived.Test.YtlbfndibgojbiaaMA
import Derived.Test.YtlbfndibgojbiaaMB
namespace Go.Proofs.Ytlbfndibgojbiaa
open Go.RowKit

/-- the error of a modem -/
noncomputable def modE (K R : Int) (a b c : Nat) (D : Int) (T S m : Nat) (l q z : Int) : Int :=
  if checkF K R a b c ≠ 0 then checkF K R a b c else if lchk D T S ≠ 0 then lchk D T S else if markF m l ≠ 0 then markF m l
  else if q < 1 ∨ 64 < q ∨ z < 1 ∨ 1024 < z then 1 else 0
section
variable {K R : Int} {a b c : Nat} {D : Int} {T S m : Nat} {l q z : Int}
theorem modE_code (h : checkF K R a b c ≠ 0) : modE K R a b c D T S m l q z = checkF K R a b c := if_pos h
theorem modE_reg (h : checkF K R a b c = 0) (h2 : lchk D T S ≠ 0) : modE K R a b c D T S m l q z = lchk D T S := by unfold modE; rw [if_neg (by simpa using h), if_pos h2]
theorem modE_mark (h : checkF K R a b c = 0) (h2 : lchk D T S = 0) (h3 : markF m l ≠ 0) : modE K R a b c D T S m l q z = markF m l := by unfold modE; rw [if_neg (by simpa using h), if_neg (by simpa using h2), if_pos h3]
theorem modE_arg (h : checkF K R a b c = 0) (h2 : lchk D T S = 0) (h3 : markF m l = 0) (h4 : q < 1 ∨ 64 < q ∨ z < 1 ∨ 1024 < z) : modE K R a b c D T S m l q z = 1 := by unfold modE; rw [if_neg (by simpa using h), if_neg (by simpa using h2), if_neg (by simpa using h3), if_pos h4]
theorem modE_ok (h : checkF K R a b c = 0) (h2 : lchk D T S = 0) (h3 : markF m l = 0) (h4 : ¬ (q < 1 ∨ 64 < q ∨ z < 1 ∨ 1024 < z)) : modE K R a b c D T S m l q z = 0 := by unfold modE; rw [if_neg (by simpa using h), if_neg (by simpa using h2), if_neg (by simpa using h3), if_neg h4]
theorem modE_zero (h : modE K R a b c D T S m l q z = 0) : checkF K R a b c = 0 ∧ lchk D T S = 0 ∧ markF m l = 0 ∧ ¬ (q < 1 ∨ 64 < q ∨ z < 1 ∨ 1024 < z) := by
  by_cases h1 : checkF K R a b c = 0
  · by_cases h2 : lchk D T S = 0
    · by_cases h3 : markF m l = 0
      · by_cases h4 : q < 1 ∨ 64 < q ∨ z < 1 ∨ 1024 < z
        · rw [modE_arg h1 h2 h3 h4] at h; exact absurd h (by decide)
        · exact ⟨h1, h2, h3, h4⟩
      · rw [modE_mark h1 h2 h3] at h; exact absurd h h3
    · rw [modE_reg h1 h2] at h; exact absurd h h2
  · rw [modE_code h1] at h; exact absurd h h1
end
set_option maxHeartbeats 1000000 in
theorem modcheck_any (K R : Int) (a b c : Nat) (D : Int) (T S m : Nat) (l q z : Int) (hA : a ≤ 4294967295) (hB : b ≤ 4294967295) (hC : c ≤ 4294967295) (hT : T ≤ 18446744073709551615) (hS : S ≤ 18446744073709551615) (w : World) :
    Calls Try.prog 19 #[.agg #[.int .i64 K, .int .i64 R, .int .u32 a, .int .u32 b, .int .u32 c, .int .i64 D, .int .u64 T, .int .u64 S, .int .u64 m, .int .i64 l, .int .i64 q, .int .i64 z]] w fun e w' => e = .returned (.int .i64 (modE K R a b c D T S m l q z)) ∧ Below w.heap.size w w' := by
  have H1 := hide (check_any K R a b c hA hB hC)
  have H2 := hide (lcheck_any D T S hT hS)
  have H3 := hide (mcheck_any m l)
  by_cases h1 : checkF K R a b c = 0
  · rw [h1] at H1
    by_cases h2 : lchk D T S = 0
    · rw [h2] at H2
      by_cases h3 : markF m l = 0
      · rw [h3] at H3
        by_cases h4 : q < 1 ∨ 64 < q ∨ z < 1 ∨ 1024 < z
        · rw [modE_arg h1 h2 h3 h4]
          clear h1 h2 h3
          by_cases d1 : q < 1
          · clear h4
            go_enter Try.func19, Try.ntmps19
            go_wp2_with fail
            refine (H1.out _).mono ?_
            rintro e w1 ⟨rfl, hb1⟩
            have k1 := bk hb1 w.heap.size (by simp)
            have hz1 : w.heap.size < w1.heap.size := by have := hb1.size; simp at this; omega
            have HB1 := hide (below_one hb1)
            clear hb1
            go_wp2_with fail
            refine (H2.out _).mono ?_
            rintro e w2 ⟨rfl, hb2⟩
            have k2 := bk hb2 w.heap.size (by omega)
            have hz2 : w.heap.size < w2.heap.size := by have := hb2.size; omega
            have HB2 := hide (below_then HB1.out hb2)
            clear hb2
            go_wp2_with fail
            refine (H3.out _).mono ?_
            rintro e w3 ⟨rfl, hb3⟩
            have k3 := bk hb3 w.heap.size (by omega)
            have hz3 : w.heap.size < w3.heap.size := by have := hb3.size; omega
            have HB3 := hide (below_then HB2.out hb3)
            clear hb3
            go_wp2_with fail
            go_ret
            exact ⟨rfl, HB3.out⟩
          by_cases d2 : 64 < q
          · have e1 : ¬ q < 1 := d1
            clear h4
            go_enter Try.func19, Try.ntmps19
            go_wp2_with fail
            refine (H1.out _).mono ?_
            rintro e w1 ⟨rfl, hb1⟩
            have k1 := bk hb1 w.heap.size (by simp)
            have hz1 : w.heap.size < w1.heap.size := by have := hb1.size; simp at this; omega
            have HB1 := hide (below_one hb1)
            clear hb1
            go_wp2_with fail
            refine (H2.out _).mono ?_
            rintro e w2 ⟨rfl, hb2⟩
            have k2 := bk hb2 w.heap.size (by omega)
            have hz2 : w.heap.size < w2.heap.size := by have := hb2.size; omega
            have HB2 := hide (below_then HB1.out hb2)
            clear hb2
            go_wp2_with fail
            refine (H3.out _).mono ?_
            rintro e w3 ⟨rfl, hb3⟩
            have k3 := bk hb3 w.heap.size (by omega)
            have hz3 : w.heap.size < w3.heap.size := by have := hb3.size; omega
            have HB3 := hide (below_then HB2.out hb3)
            clear hb3
            go_wp2_with fail
            go_ret
            exact ⟨rfl, HB3.out⟩
          by_cases d3 : z < 1
          · clear h4
            go_enter Try.func19, Try.ntmps19
            go_wp2_with fail
            refine (H1.out _).mono ?_
            rintro e w1 ⟨rfl, hb1⟩
            have k1 := bk hb1 w.heap.size (by simp)
            have hz1 : w.heap.size < w1.heap.size := by have := hb1.size; simp at this; omega
            have HB1 := hide (below_one hb1)
            clear hb1
            go_wp2_with fail
            refine (H2.out _).mono ?_
            rintro e w2 ⟨rfl, hb2⟩
            have k2 := bk hb2 w.heap.size (by omega)
            have hz2 : w.heap.size < w2.heap.size := by have := hb2.size; omega
            have HB2 := hide (below_then HB1.out hb2)
            clear hb2
            go_wp2_with fail
            refine (H3.out _).mono ?_
            rintro e w3 ⟨rfl, hb3⟩
            have k3 := bk hb3 w.heap.size (by omega)
            have hz3 : w.heap.size < w3.heap.size := by have := hb3.size; omega
            have HB3 := hide (below_then HB2.out hb3)
            clear hb3
            go_wp2_with fail
            go_ret
            exact ⟨rfl, HB3.out⟩
          have d4 : 1024 < z := by omega
          clear h4
          go_enter Try.func19, Try.ntmps19
          go_wp2_with fail
          refine (H1.out _).mono ?_
          rintro e w1 ⟨rfl, hb1⟩
          have k1 := bk hb1 w.heap.size (by simp)
          have hz1 : w.heap.size < w1.heap.size := by have := hb1.size; simp at this; omega
          have HB1 := hide (below_one hb1)
          clear hb1
          go_wp2_with fail
          refine (H2.out _).mono ?_
          rintro e w2 ⟨rfl, hb2⟩
          have k2 := bk hb2 w.heap.size (by omega)
          have hz2 : w.heap.size < w2.heap.size := by have := hb2.size; omega
          have HB2 := hide (below_then HB1.out hb2)
          clear hb2
          go_wp2_with fail
          refine (H3.out _).mono ?_
          rintro e w3 ⟨rfl, hb3⟩
          have k3 := bk hb3 w.heap.size (by omega)
          have hz3 : w.heap.size < w3.heap.size := by have := hb3.size; omega
          have HB3 := hide (below_then HB2.out hb3)
          clear hb3
          go_wp2_with fail
          go_ret
          exact ⟨rfl, HB3.out⟩
        · rw [modE_ok h1 h2 h3 h4]
          clear h1 h2 h3
          have d1 : ¬ q < 1 := by omega
          have d2 : ¬ 64 < q := by omega
          have d3 : ¬ z < 1 := by omega
          have d4 : ¬ 1024 < z := by omega
          clear h4
          go_enter Try.func19, Try.ntmps19
          go_wp2_with fail
          refine (H1.out _).mono ?_
          rintro e w1 ⟨rfl, hb1⟩
          have k1 := bk hb1 w.heap.size (by simp)
          have hz1 : w.heap.size < w1.heap.size := by have := hb1.size; simp at this; omega
          have HB1 := hide (below_one hb1)
          clear hb1
          go_wp2_with fail
          refine (H2.out _).mono ?_
          rintro e w2 ⟨rfl, hb2⟩
          have k2 := bk hb2 w.heap.size (by omega)
          have hz2 : w.heap.size < w2.heap.size := by have := hb2.size; omega
          have HB2 := hide (below_then HB1.out hb2)
          clear hb2
          go_wp2_with fail
          refine (H3.out _).mono ?_
          rintro e w3 ⟨rfl, hb3⟩
          have k3 := bk hb3 w.heap.size (by omega)
          have hz3 : w.heap.size < w3.heap.size := by have := hb3.size; omega
          have HB3 := hide (below_then HB2.out hb3)
          clear hb3
          go_wp2_with fail
          go_ret
          exact ⟨rfl, HB3.out⟩
      · rw [modE_mark h1 h2 h3]
        clear h1 h2
        have nz := nzBne h3
        generalize markF m l = ef at *
        clear h3
        go_enter Try.func19, Try.ntmps19
        go_wp2_with fail
        refine (H1.out _).mono ?_
        rintro e w1 ⟨rfl, hb1⟩
        have k1 := bk hb1 w.heap.size (by simp)
        have hz1 : w.heap.size < w1.heap.size := by have := hb1.size; simp at this; omega
        have HB1 := hide (below_one hb1)
        clear hb1
        go_wp2_with fail
        refine (H2.out _).mono ?_
        rintro e w2 ⟨rfl, hb2⟩
        have k2 := bk hb2 w.heap.size (by omega)
        have hz2 : w.heap.size < w2.heap.size := by have := hb2.size; omega
        have HB2 := hide (below_then HB1.out hb2)
        clear hb2
        go_wp2_with fail
        refine (H3.out _).mono ?_
        rintro e w3 ⟨rfl, hb3⟩
        have k3 := bk hb3 w.heap.size (by omega)
        have hz3 : w.heap.size < w3.heap.size := by have := hb3.size; omega
        have HB3 := hide (below_then HB2.out hb3)
        clear hb3
        go_wp2_with fail
        go_ret
        exact ⟨rfl, HB3.out⟩
    · rw [modE_reg h1 h2]
      clear h1
      have nz := nzBne h2
      generalize lchk D T S = ef at *
      clear h2
      go_enter Try.func19, Try.ntmps19
      go_wp2_with fail
      refine (H1.out _).mono ?_
      rintro e w1 ⟨rfl, hb1⟩
      have k1 := bk hb1 w.heap.size (by simp)
      have hz1 : w.heap.size < w1.heap.size := by have := hb1.size; simp at this; omega
      have HB1 := hide (below_one hb1)
      clear hb1
      go_wp2_with fail
      refine (H2.out _).mono ?_
      rintro e w2 ⟨rfl, hb2⟩
      have k2 := bk hb2 w.heap.size (by omega)
      have hz2 : w.heap.size < w2.heap.size := by have := hb2.size; omega
      have HB2 := hide (below_then HB1.out hb2)
      clear hb2
      go_wp2_with fail
      go_ret
      exact ⟨rfl, HB2.out⟩
  · rw [modE_code h1]
    have nz := nzBne h1
    generalize checkF K R a b c = ef at *
    clear h1
    go_enter Try.func19, Try.ntmps19
    go_wp2_with fail
    refine (H1.out _).mono ?_
    rintro e w1 ⟨rfl, hb1⟩
    have k1 := bk hb1 w.heap.size (by simp)
    have hz1 : w.heap.size < w1.heap.size := by have := hb1.size; simp at this; omega
    have HB1 := hide (below_one hb1)
    clear hb1
    go_wp2_with fail
    go_ret
    exact ⟨rfl, HB1.out⟩
set_option maxHeartbeats 1000000 in
theorem r25check_any (K R : Int) (a b c : Nat) (D : Int) (T S m : Nat) (l q z : Int) (hA : a ≤ 4294967295) (hB : b ≤ 4294967295) (hC : c ≤ 4294967295) (hT : T ≤ 18446744073709551615) (hS : S ≤ 18446744073709551615) (w : World) :
    Calls Try.prog 20 #[.agg #[.int .i64 K, .int .i64 R, .int .u32 a, .int .u32 b, .int .u32 c, .int .i64 D, .int .u64 T, .int .u64 S, .int .u64 m, .int .i64 l, .int .i64 q, .int .i64 z]] w fun e w' => e = .returned (.int .i64 (modE K R a b c D T S m l q z)) ∧ Below w.heap.size w w' := by
  have H1 := hide (rcheck_any K R a b c hA hB hC)
  have H2 := hide (r4check_any D T S hT hS)
  have H3 := hide (r22check_any m l)
  by_cases h1 : checkF K R a b c = 0
  · rw [h1] at H1
    by_cases h2 : lchk D T S = 0
    · rw [h2] at H2
      by_cases h3 : markF m l = 0
      · rw [h3] at H3
        by_cases h4 : q < 1 ∨ 64 < q ∨ z < 1 ∨ 1024 < z
        · rw [modE_arg h1 h2 h3 h4]
          clear h1 h2 h3
          by_cases d1 : q < 1
          · clear h4
            go_enter Try.func20, Try.ntmps20
            go_wp2_with fail
            refine (H1.out _).mono ?_
            rintro e w1 ⟨rfl, hb1⟩
            have k1 := bk hb1 w.heap.size (by simp)
            have hz1 : w.heap.size < w1.heap.size := by have := hb1.size; simp at this; omega
            have HB1 := hide (below_one hb1)
            clear hb1
            go_wp2_with fail
            refine (H2.out _).mono ?_
            rintro e w2 ⟨rfl, hb2⟩
            have k2 := bk hb2 w.heap.size (by omega)
            have hz2 : w.heap.size < w2.heap.size := by have := hb2.size; omega
            have HB2 := hide (below_then HB1.out hb2)
            clear hb2
            go_wp2_with fail
            refine (H3.out _).mono ?_
            rintro e w3 ⟨rfl, hb3⟩
            have k3 := bk hb3 w.heap.size (by omega)
            have hz3 : w.heap.size < w3.heap.size := by have := hb3.size; omega
            have HB3 := hide (below_then HB2.out hb3)
            clear hb3
            go_wp2_with fail
            go_ret
            exact ⟨rfl, HB3.out⟩
          by_cases d2 : 64 < q
          · have e1 : ¬ q < 1 := d1
            clear h4
            go_enter Try.func20, Try.ntmps20
            go_wp2_with fail
            refine (H1.out _).mono ?_
            rintro e w1 ⟨rfl, hb1⟩
            have k1 := bk hb1 w.heap.size (by simp)
            have hz1 : w.heap.size < w1.heap.size := by have := hb1.size; simp at this; omega
            have HB1 := hide (below_one hb1)
            clear hb1
            go_wp2_with fail
            refine (H2.out _).mono ?_
            rintro e w2 ⟨rfl, hb2⟩
            have k2 := bk hb2 w.heap.size (by omega)
            have hz2 : w.heap.size < w2.heap.size := by have := hb2.size; omega
            have HB2 := hide (below_then HB1.out hb2)
            clear hb2
            go_wp2_with fail
            refine (H3.out _).mono ?_
            rintro e w3 ⟨rfl, hb3⟩
            have k3 := bk hb3 w.heap.size (by omega)
            have hz3 : w.heap.size < w3.heap.size := by have := hb3.size; omega
            have HB3 := hide (below_then HB2.out hb3)
            clear hb3
            go_wp2_with fail
            go_ret
            exact ⟨rfl, HB3.out⟩
          by_cases d3 : z < 1
          · clear h4
            go_enter Try.func20, Try.ntmps20
            go_wp2_with fail
            refine (H1.out _).mono ?_
            rintro e w1 ⟨rfl, hb1⟩
            have k1 := bk hb1 w.heap.size (by simp)
            have hz1 : w.heap.size < w1.heap.size := by have := hb1.size; simp at this; omega
            have HB1 := hide (below_one hb1)
            clear hb1
            go_wp2_with fail
            refine (H2.out _).mono ?_
            rintro e w2 ⟨rfl, hb2⟩
            have k2 := bk hb2 w.heap.size (by omega)
            have hz2 : w.heap.size < w2.heap.size := by have := hb2.size; omega
            have HB2 := hide (below_then HB1.out hb2)
            clear hb2
            go_wp2_with fail
            refine (H3.out _).mono ?_
            rintro e w3 ⟨rfl, hb3⟩
            have k3 := bk hb3 w.heap.size (by omega)
            have hz3 : w.heap.size < w3.heap.size := by have := hb3.size; omega
            have HB3 := hide (below_then HB2.out hb3)
            clear hb3
            go_wp2_with fail
            go_ret
            exact ⟨rfl, HB3.out⟩
          have d4 : 1024 < z := by omega
          clear h4
          go_enter Try.func20, Try.ntmps20
          go_wp2_with fail
          refine (H1.out _).mono ?_
          rintro e w1 ⟨rfl, hb1⟩
          have k1 := bk hb1 w.heap.size (by simp)
          have hz1 : w.heap.size < w1.heap.size := by have := hb1.size; simp at this; omega
          have HB1 := hide (below_one hb1)
          clear hb1
          go_wp2_with fail
          refine (H2.out _).mono ?_
          rintro e w2 ⟨rfl, hb2⟩
          have k2 := bk hb2 w.heap.size (by omega)
          have hz2 : w.heap.size < w2.heap.size := by have := hb2.size; omega
          have HB2 := hide (below_then HB1.out hb2)
          clear hb2
          go_wp2_with fail
          refine (H3.out _).mono ?_
          rintro e w3 ⟨rfl, hb3⟩
          have k3 := bk hb3 w.heap.size (by omega)
          have hz3 : w.heap.size < w3.heap.size := by have := hb3.size; omega
          have HB3 := hide (below_then HB2.out hb3)
          clear hb3
          go_wp2_with fail
          go_ret
          exact ⟨rfl, HB3.out⟩
        · rw [modE_ok h1 h2 h3 h4]
          clear h1 h2 h3
          have d1 : ¬ q < 1 := by omega
          have d2 : ¬ 64 < q := by omega
          have d3 : ¬ z < 1 := by omega
          have d4 : ¬ 1024 < z := by omega
          clear h4
          go_enter Try.func20, Try.ntmps20
          go_wp2_with fail
          refine (H1.out _).mono ?_
          rintro e w1 ⟨rfl, hb1⟩
          have k1 := bk hb1 w.heap.size (by simp)
          have hz1 : w.heap.size < w1.heap.size := by have := hb1.size; simp at this; omega
          have HB1 := hide (below_one hb1)
          clear hb1
          go_wp2_with fail
          refine (H2.out _).mono ?_
          rintro e w2 ⟨rfl, hb2⟩
          have k2 := bk hb2 w.heap.size (by omega)
          have hz2 : w.heap.size < w2.heap.size := by have := hb2.size; omega
          have HB2 := hide (below_then HB1.out hb2)
          clear hb2
          go_wp2_with fail
          refine (H3.out _).mono ?_
          rintro e w3 ⟨rfl, hb3⟩
          have k3 := bk hb3 w.heap.size (by omega)
          have hz3 : w.heap.size < w3.heap.size := by have := hb3.size; omega
          have HB3 := hide (below_then HB2.out hb3)
          clear hb3
          go_wp2_with fail
          go_ret
          exact ⟨rfl, HB3.out⟩
      · rw [modE_mark h1 h2 h3]
        clear h1 h2
        have nz := nzBne h3
        generalize markF m l = ef at *
        clear h3
        go_enter Try.func20, Try.ntmps20
        go_wp2_with fail
        refine (H1.out _).mono ?_
        rintro e w1 ⟨rfl, hb1⟩
        have k1 := bk hb1 w.heap.size (by simp)
        have hz1 : w.heap.size < w1.heap.size := by have := hb1.size; simp at this; omega
        have HB1 := hide (below_one hb1)
        clear hb1
        go_wp2_with fail
        refine (H2.out _).mono ?_
        rintro e w2 ⟨rfl, hb2⟩
        have k2 := bk hb2 w.heap.size (by omega)
        have hz2 : w.heap.size < w2.heap.size := by have := hb2.size; omega
        have HB2 := hide (below_then HB1.out hb2)
        clear hb2
        go_wp2_with fail
        refine (H3.out _).mono ?_
        rintro e w3 ⟨rfl, hb3⟩
        have k3 := bk hb3 w.heap.size (by omega)
        have hz3 : w.heap.size < w3.heap.size := by have := hb3.size; omega
        have HB3 := hide (below_then HB2.out hb3)
        clear hb3
        go_wp2_with fail
        go_ret
        exact ⟨rfl, HB3.out⟩
    · rw [modE_reg h1 h2]
      clear h1
      have nz := nzBne h2
      generalize lchk D T S = ef at *
      clear h2
      go_enter Try.func20, Try.ntmps20
      go_wp2_with fail
      refine (H1.out _).mono ?_
      rintro e w1 ⟨rfl, hb1⟩
      have k1 := bk hb1 w.heap.size (by simp)
      have hz1 : w.heap.size < w1.heap.size := by have := hb1.size; simp at this; omega
      have HB1 := hide (below_one hb1)
      clear hb1
      go_wp2_with fail
      refine (H2.out _).mono ?_
      rintro e w2 ⟨rfl, hb2⟩
      have k2 := bk hb2 w.heap.size (by omega)
      have hz2 : w.heap.size < w2.heap.size := by have := hb2.size; omega
      have HB2 := hide (below_then HB1.out hb2)
      clear hb2
      go_wp2_with fail
      go_ret
      exact ⟨rfl, HB2.out⟩
  · rw [modE_code h1]
    have nz := nzBne h1
    generalize checkF K R a b c = ef at *
    clear h1
    go_enter Try.func20, Try.ntmps20
    go_wp2_with fail
    refine (H1.out _).mono ?_
    rintro e w1 ⟨rfl, hb1⟩
    have k1 := bk hb1 w.heap.size (by simp)
    have hz1 : w.heap.size < w1.heap.size := by have := hb1.size; simp at this; omega
    have HB1 := hide (below_one hb1)
    clear hb1
    go_wp2_with fail
    go_ret
    exact ⟨rfl, HB1.out⟩
end Go.Proofs.Ytlbfndibgojbiaa
