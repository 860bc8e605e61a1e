/- The law CodeInverse, walked: it returns true. -/
import Derived.Test.YtfjaohadjmigoaaKnows
import Derived.Deep.RegionHeld3
import Derived.Test.YtfjaohadjmigoaaCodeInv
import Derived.Test.YtfjaohadjmigoaaComM
import Derived.Deep.QuietTactic
namespace Go.Proofs.Ytfjaohadjmigoaa
open Go.RowKit

theorem quiet_same {P : Program} {f : FuncId} {args : Array Value} {w : World} {d n : Nat} {v : Value}
    (h : Calls P f args (w.drewN (d + n)) fun e w' => e = .returned v ∧ w.drewN (d + n) = w') : Calls P f args (w.drewN (d + n)) fun e w'' => e = .returned v ∧ ∃ m, w'' = w.drewN (d + m) :=
  h.mono fun _ _ ⟨he, hm⟩ => ⟨he, n, hm.symm⟩
theorem wrap_u64 {x : Nat} (h : x ≤ 18446744073709551615) : IntKind.u64.wrap (x : Int) = x := by
  exact IntWalk.u64_in _ ⟨by omega, by omega⟩

theorem eq_words (d : Nat) (a b c x y z : Int) (w : World) :
    (Op.equalIn (d + 2) 45 (.agg #[.int .u64 a, .int .u64 b, .int .u64 c]) (.agg #[.int .u64 x, .int .u64 y, .int .u64 z])).run Try.prog w = .ok (a == x && (b == y && c == z)) w := by
  have e (p q : Int) (w : World) := run_equalIn_int (P := Try.prog) w d 34 .u64 .u64 p q Try.underlying34
  have part0 (w : World) : (part 34 #[.int .u64 a, .int .u64 b, .int .u64 c] 0).run Try.prog w = .ok (.int .u64 a) w := by kernel_rfl
  have part1 (w : World) : (part 34 #[.int .u64 a, .int .u64 b, .int .u64 c] Try.t34.size).run Try.prog w = .ok (.int .u64 b) w := by kernel_rfl
  have part2 (w : World) : (part 34 #[.int .u64 a, .int .u64 b, .int .u64 c] (2 * Try.t34.size)).run Try.prog w = .ok (.int .u64 c) w := by kernel_rfl
  have qart0 (w : World) : (part 34 #[.int .u64 x, .int .u64 y, .int .u64 z] 0).run Try.prog w = .ok (.int .u64 x) w := by kernel_rfl
  have qart1 (w : World) : (part 34 #[.int .u64 x, .int .u64 y, .int .u64 z] Try.t34.size).run Try.prog w = .ok (.int .u64 y) w := by kernel_rfl
  have qart2 (w : World) : (part 34 #[.int .u64 x, .int .u64 y, .int .u64 z] (2 * Try.t34.size)).run Try.prog w = .ok (.int .u64 z) w := by kernel_rfl
  unfold Op.equalIn
  simp only [Sem.run_bind, run_underlying Try.underlying45, Result.andThen_ok]
  simp only [Std.Legacy.Range.forIn_eq_forIn_range', sizeOf]
  simp [show List.range' 0 3 = [0, 1, 2] from rfl, part0, part1, part2, qart0, qart1, qart2, e]
  by_cases h1 : a = x <;> by_cases h2 : b = y <;> by_cases h3 : c = z <;> simp [h1, h2, h3]

set_option linter.unusedSimpArgs false in
set_option maxHeartbeats 1000000 in
theorem law_inv_bad (K R : Int) (a b c : Nat) (hA : a ≤ 4294967295) (hB : b ≤ 4294967295) (hC : c ≤ 4294967295) (hne : checkF K R a b c ≠ 0) (w : World) :
    Calls Try.prog 6 #[.agg #[.int .i64 K, .int .i64 R, .int .u32 a, .int .u32 b, .int .u32 c]] w fun e w' => e = .returned (.bool true) ∧ Below w.heap.size w w' := by
  have HC := hide (check_any K R a b c hA hB hC)
  have HI := hide (inv_bad K R a b c hA hB hC hne)
  have hb := zBneI hne
  generalize checkF K R a b c = cf at *
  clear hne
  go_enter Try.func6, Try.ntmps6
  go_wp2_with fail
  refine (HC.out _).mono ?_
  rintro e w1 ⟨rfl, hb1⟩
  have hz1 : w.heap.size < w1.heap.size := by have := hb1.size; simp at this; omega
  have a0 := bcell hb1 (b := w.heap.size) (o := 0) (v := .int .i64 K) (by simp) (by simp [go_sem])
  have a1 := bcell hb1 (b := w.heap.size) (o := 1) (v := .int .i64 R) (by simp) (by simp [go_sem])
  have a2 := bcell hb1 (b := w.heap.size) (o := 2) (v := .int .u32 a) (by simp) (by simp [go_sem])
  have a3 := bcell hb1 (b := w.heap.size) (o := 3) (v := .int .u32 b) (by simp) (by simp [go_sem])
  have a4 := bcell hb1 (b := w.heap.size) (o := 4) (v := .int .u32 c) (by simp) (by simp [go_sem])
  go_wp2_with fail
  refine (HI.out _).mono ?_
  rintro e w2 ⟨rfl, hb2⟩
  go_wp2_with fail
  refine (knows_any _).mono ?_
  rintro e w3 ⟨rfl, hb3⟩
  have b0 := bcell hb3 (b := w2.heap.size) (o := 0) (v := .int .u64 0) (by simp) (by simp [go_sem])
  have b1 := bcell hb3 (b := w2.heap.size) (o := 1) (v := .int .u64 0) (by simp) (by simp [go_sem])
  have b2 := bcell hb3 (b := w2.heap.size) (o := 2) (v := .int .u64 0) (by simp) (by simp [go_sem])
  have eqw := eq_words 9998 0 0 0 0 0 0
  go_wp2_with fail
  refine (num_any _ _).mono ?_
  rintro e w' ⟨rfl, rfl⟩
  go_wp2_with fail
  refine (num_any _ _).mono ?_
  rintro e w' ⟨rfl, rfl⟩
  go_wp2_with fail
  refine (num_any _ _).mono ?_
  rintro e w' ⟨rfl, rfl⟩
  go_wp2_with fail
  go_ret
  exact ⟨rfl, below_mid ((below_one hb1).trans (hb2.mono (by omega))) hb3⟩


/-! the law for numbers -/
theorem inv_sum {K R : Int} {a b c x y z : Nat} (hck : checkF K R a b c = 0) (hA : a ≤ 4294967295) (hB : b ≤ 4294967295) (hC : c ≤ 4294967295) (h : CodeInvR R a b c x y z) :
    (R = 2 ∧ z = 0 ∧ Gf2.cm x a ^^^ Gf2.cm y b = 1) ∨ (R = 3 ∧ Gf2.cm x a ^^^ Gf2.cm y b ^^^ Gf2.cm z c = 1) := by
  obtain ⟨hhead, hgens, _, _, hg⟩ := checkF_zero hck
  have hb0 : b ≠ 0 := hgens.2.1.1
  rcases h with ⟨hR, hb, hz⟩ | ⟨hR, s, t, u, h1, h2, hx, hy⟩
  · left
    refine ⟨hR, hz, ?_⟩
    have := hb.sum
    rw [show countF R = 2 from if_pos hR] at hg
    simp only [gcdK, Gf2.gcd_zero_left] at hg
    rw [this, hg]
  · right
    have hR3 : R = 3 := Decidable.byContradiction fun e => hhead (.inr (.inr (.inl ⟨hR, e⟩)))
    refine ⟨hR3, ?_⟩
    have hc0 : c ≠ 0 := (hgens.2.2 (by rw [hR3]; rfl)).1
    rw [show countF R = 3 from if_neg hR] at hg
    simp only [gcdK, Gf2.gcd_zero_left] at hg
    have la : Gf2.len a ≤ 32 := Gf2.len_le (by omega)
    have lb : Gf2.len b ≤ 32 := Gf2.len_le (by omega)
    have lc : Gf2.len c ≤ 32 := Gf2.len_le (by omega)
    have ls := h1.len_u hb0
    have lt := h1.len_v hb0
    have lu := h2.len_u hc0
    have eus : mulL u s = Gf2.cm u s := Nat.mod_eq_of_lt (Gf2.lt_of_len (by have := Gf2.len_cm_le u s; omega))
    have eut : mulL u t = Gf2.cm u t := Nat.mod_eq_of_lt (Gf2.lt_of_len (by have := Gf2.len_cm_le u t; omega))
    rw [hx, hy, eus, eut, Gf2.cm_assoc, Gf2.cm_assoc, ← Gf2.cm_xor_right, h1.sum, h2.sum, hg]
theorem low_xor (p q : Nat) : p % 2 ^ 64 ^^^ q % 2 ^ 64 = (p ^^^ q) % 2 ^ 64 := (Nat.xor_mod_two_pow).symm
theorem high_xor (p q : Nat) : p / 2 ^ 64 ^^^ q / 2 ^ 64 = (p ^^^ q) / 2 ^ 64 := by
  have := Nat.shiftRight_xor_distrib (a := p) (b := q) (i := 64)
  simpa [Nat.shiftRight_eq_div_pow] using this.symm
/-- the words of the sum -/
theorem two_words {x a y b : Nat} (h : Gf2.cm x a ^^^ Gf2.cm y b = 1) : mulL x a ^^^ mulL y b = 1 ∧ mulH x a ^^^ mulH y b = 0 := by
  unfold mulL mulH
  rw [low_xor, high_xor, h]
  exact ⟨rfl, rfl⟩
theorem three_words {x a y b z c : Nat} (h : Gf2.cm x a ^^^ Gf2.cm y b ^^^ Gf2.cm z c = 1) : mulL x a ^^^ mulL y b ^^^ mulL z c = 1 ∧ mulH x a ^^^ mulH y b ^^^ mulH z c = 0 := by
  unfold mulL mulH
  rw [low_xor, high_xor, low_xor, high_xor, h]
  exact ⟨rfl, rfl⟩

def InvS2 (n m : Nat) (K : Int) (a b c x y : Nat) (w0 w : World) : Prop :=
  w.cell? ⟨n, 0, none⟩ = some (.int .i64 K) ∧ w.cell? ⟨n, 1, none⟩ = some (.int .i64 2) ∧ w.cell? ⟨n, 2, none⟩ = some (.int .u32 a) ∧ w.cell? ⟨n, 3, none⟩ = some (.int .u32 b) ∧ w.cell? ⟨n, 4, none⟩ = some (.int .u32 c) ∧ w.cell? ⟨m, 0, none⟩ = some (.int .u64 x) ∧ w.cell? ⟨m, 1, none⟩ = some (.int .u64 y) ∧ w.cell? ⟨m, 2, none⟩ = some (.int .u64 0) ∧ Below w0.heap.size w0 w
theorem InvS2.keep {n m : Nat} {K : Int} {a b c x y : Nat} {w0 w w' : World} (h_n : n < w0.heap.size) (h_m : m < w0.heap.size) (h : InvS2 n m K a b c x y w0 w) (hb : Below w.heap.size w w') : InvS2 n m K a b c x y w0 w' := by
  obtain ⟨x0, x1, x2, x3, x4, x5, x6, x7, hw⟩ := h
  have hz := hw.size
  have g_n := Nat.lt_of_lt_of_le h_n hz
  have g_m := Nat.lt_of_lt_of_le h_m hz
  exact ⟨bcell hb g_n x0, bcell hb g_n x1, bcell hb g_n x2, bcell hb g_n x3, bcell hb g_n x4, bcell hb g_m x5, bcell hb g_m x6, bcell hb g_m x7, hw.trans (hb.mono hz)⟩
theorem InvS2.below {n m : Nat} {K : Int} {a b c x y : Nat} {w0 w : World} (h : InvS2 n m K a b c x y w0 w) : Below w0.heap.size w0 w := by
  obtain ⟨_, _, _, _, _, _, _, _, hw⟩ := h
  exact hw

set_option linter.unusedSimpArgs false in
set_option maxHeartbeats 2000000 in
theorem law_inv_two (K : Int) (a b c : Nat) (hA : a ≤ 4294967295) (hB : b ≤ 4294967295) (hC : c ≤ 4294967295) (hck : checkF K 2 a b c = 0) (w : World) :
    Calls Try.prog 6 #[.agg #[.int .i64 K, .int .i64 2, .int .u32 a, .int .u32 b, .int .u32 c]] w fun e w' => e = .returned (.bool true) ∧ Below w.heap.size w w' := by
  have HC := hide (check_any K 2 a b c hA hB hC)
  have HI := hide (inv_good K 2 a b c hA hB hC hck)
  have HM := hide (common_any K 2 a b c hA hB hC)
  rw [hck] at HC
  rw [(checkF_zero hck).2.2.2.2] at HM
  have HS := hide fun x y z (h : CodeInvR 2 a b c x y z) => inv_sum hck hA hB hC h
  clear hck
  go_enter Try.func6, Try.ntmps6
  go_wp2_with fail
  refine (HC.out _).mono ?_
  rintro e w1 ⟨rfl, hb1⟩
  have hz1 : w.heap.size < w1.heap.size := by have := hb1.size; simp at this; omega
  have a0 := bcell hb1 (b := w.heap.size) (o := 0) (v := .int .i64 K) (by simp) (by simp [go_sem])
  have a1 := bcell hb1 (b := w.heap.size) (o := 1) (v := .int .i64 2) (by simp) (by simp [go_sem])
  have a2 := bcell hb1 (b := w.heap.size) (o := 2) (v := .int .u32 a) (by simp) (by simp [go_sem])
  have a3 := bcell hb1 (b := w.heap.size) (o := 3) (v := .int .u32 b) (by simp) (by simp [go_sem])
  have a4 := bcell hb1 (b := w.heap.size) (o := 4) (v := .int .u32 c) (by simp) (by simp [go_sem])
  go_wp2_with fail
  refine (HI.out _).mono ?_
  rintro e w2 ⟨x, y, z, hinv, hx, hy, hz, rfl, hb2⟩
  obtain ⟨-, rfl, hsum⟩ := (HS.out x y z hinv).resolve_right (by omega)
  obtain ⟨hlo, hhi⟩ := two_words hsum
  have HWa := hide (wrap_u64 (x := a) (by omega))
  have HMx := hide (mul_any x a hx (by omega))
  have lp := mulL_le x a
  have mp := mulH_le (a := x) (b := a) hx (by omega)
  generalize mulL x a = p at *
  generalize mulH x a = p' at *
  have HWb := hide (wrap_u64 (x := b) (by omega))
  have HMy := hide (mul_any y b hy (by omega))
  have lq := mulL_le y b
  have mq := mulH_le (a := y) (b := b) hy (by omega)
  generalize mulL y b = q at *
  generalize mulH y b = q' at *
  have HLO := hide hlo
  have HHI := hide hhi
  clear hlo hhi hinv hsum
  go_wp2_with fail
  refine (knows_any _).mono ?_
  rintro e w3 ⟨rfl, hb3⟩
  have hz2 := hb2.size
  have hz3 := hb3.size
  simp at hz3
  have b0 := bcell hb3 (b := w2.heap.size) (o := 0) (v := .int .u64 x) (by simp) (by simp [go_sem])
  have b1 := bcell hb3 (b := w2.heap.size) (o := 1) (v := .int .u64 y) (by simp) (by simp [go_sem])
  have b2 := bcell hb3 (b := w2.heap.size) (o := 2) (v := .int .u64 0) (by simp) (by simp [go_sem])
  have d0 := bcell hb3 (b := w.heap.size) (o := 0) (v := .int .i64 K) (by simp; omega) ((World.cell?_alloc_lt w2 _ ⟨w.heap.size, 0, none⟩ (by simp; omega)).trans (bcell hb2 (by omega) a0))
  have d1 := bcell hb3 (b := w.heap.size) (o := 1) (v := .int .i64 2) (by simp; omega) ((World.cell?_alloc_lt w2 _ ⟨w.heap.size, 1, none⟩ (by simp; omega)).trans (bcell hb2 (by omega) a1))
  have d2 := bcell hb3 (b := w.heap.size) (o := 2) (v := .int .u32 a) (by simp; omega) ((World.cell?_alloc_lt w2 _ ⟨w.heap.size, 2, none⟩ (by simp; omega)).trans (bcell hb2 (by omega) a2))
  have d3 := bcell hb3 (b := w.heap.size) (o := 3) (v := .int .u32 b) (by simp; omega) ((World.cell?_alloc_lt w2 _ ⟨w.heap.size, 3, none⟩ (by simp; omega)).trans (bcell hb2 (by omega) a3))
  have d4 := bcell hb3 (b := w.heap.size) (o := 4) (v := .int .u32 c) (by simp; omega) ((World.cell?_alloc_lt w2 _ ⟨w.heap.size, 4, none⟩ (by simp; omega)).trans (bcell hb2 (by omega) a4))
  go_wp2_with fail
  refine (num_any _ _).mono ?_
  rintro e w' ⟨rfl, rfl⟩
  go_wp2_with fail
  refine (num_any _ _).mono ?_
  rintro e w' ⟨rfl, rfl⟩
  go_wp2_with fail
  refine (num_any _ _).mono ?_
  rintro e w' ⟨rfl, rfl⟩
  go_wp2_with fail
  have hfin := below_mid ((below_one hb1).trans (hb2.mono (by omega))) hb3
  have hle := hfin.size
  have HF := hide hfin
  clear hfin hb1 hb2 hb3 a0 a1 a2 a3 a4
  have g0 : w.heap.size < w3.heap.size := by omega
  have g1 : w2.heap.size < w3.heap.size := by omega
  generalize w2.heap.size = m at *
  generalize hn : w.heap.size = n at *
  have HN := hide hn
  clear hn
  go_loopw [6, 7, 8] (fun s h i u => (∃ n : Nat, u = w3.drewN n) ∧ ((i = .int .i64 0 ∧ s = .int .u64 0 ∧ h = .int .u64 0) ∨ (i = .int .i64 1 ∧ s = .int .u64 p ∧ h = .int .u64 p') ∨ (i = .int .i64 2 ∧ s = .int .u64 (p ^^^ q : Nat) ∧ h = .int .u64 (p' ^^^ q' : Nat)))) (fun _ _ i _ => 3 - (intOf i).toNat)
  case atStart => exact ⟨⟨0, rfl⟩, .inl ⟨rfl, rfl, rfl⟩⟩
  case round =>
    obtain ⟨⟨dn, rfl⟩, hrel⟩ := hrel
    rcases hrel with ⟨rfl, rfl, rfl⟩ | ⟨rfl, rfl, rfl⟩ | ⟨rfl, rfl, rfl⟩
    · have hE1 := hide (show bits .xor .u64 0 (p : Int) = (p : Nat) from (xor64 (a := 0) (b := p) (by omega) (by omega)).trans (by rw [Nat.zero_xor]))
      have hE2 := hide (show bits .xor .u64 0 (p' : Int) = (p' : Nat) from (xor64 (a := 0) (b := p') (by omega) (by omega)).trans (by rw [Nat.zero_xor]))
      go_wp2_with fail
      go_quiet (first | (go_at_call 19; rw [HWa.out]; exact quiet_same (HMx.out _)))
      go_wp2_with fail
      go_roundw
      case rel => exact ⟨⟨_, rfl⟩, .inr (.inl ⟨rfl, by rw [hE1.out], by rw [hE2.out]⟩)⟩
      case measure => simp [intOf]
    · have hE1 := hide (xor64 (a := p) (b := q) (by omega) (by omega))
      have hE2 := hide (xor64 (a := p') (b := q') (by omega) (by omega))
      go_wp2_with fail
      go_quiet (first | (go_at_call 19; rw [HWb.out]; exact quiet_same (HMy.out _)))
      go_wp2_with fail
      go_roundw
      case rel => exact ⟨⟨_, rfl⟩, .inr (.inr ⟨rfl, by rw [hE1.out], by rw [hE2.out]⟩)⟩
      case measure => simp [intOf]
    · have hE3 := HLO.out; have hE4 := HHI.out; rw [hE3, hE4]; clear hE3 hE4; go_wp2_with fail
      refine (HM.out _).mono ?_
      rintro e w4 ⟨rfl, hb4⟩
      go_wp2_with fail
      go_ret
      exact ⟨rfl, by rw [HN.out]; exact HF.out.trans (((below_drewN (Below.refl _ _) dn).trans hb4).mono hle)⟩
def InvS3 (n m : Nat) (K : Int) (a b c x y z : Nat) (w0 w : World) : Prop :=
  w.cell? ⟨n, 0, none⟩ = some (.int .i64 K) ∧ w.cell? ⟨n, 1, none⟩ = some (.int .i64 3) ∧ w.cell? ⟨n, 2, none⟩ = some (.int .u32 a) ∧ w.cell? ⟨n, 3, none⟩ = some (.int .u32 b) ∧ w.cell? ⟨n, 4, none⟩ = some (.int .u32 c) ∧ w.cell? ⟨m, 0, none⟩ = some (.int .u64 x) ∧ w.cell? ⟨m, 1, none⟩ = some (.int .u64 y) ∧ w.cell? ⟨m, 2, none⟩ = some (.int .u64 z) ∧ Below w0.heap.size w0 w
theorem InvS3.keep {n m : Nat} {K : Int} {a b c x y z : Nat} {w0 w w' : World} (h_n : n < w0.heap.size) (h_m : m < w0.heap.size) (h : InvS3 n m K a b c x y z w0 w) (hb : Below w.heap.size w w') : InvS3 n m K a b c x y z w0 w' := by
  obtain ⟨x0, x1, x2, x3, x4, x5, x6, x7, hw⟩ := h
  have hz := hw.size
  have g_n := Nat.lt_of_lt_of_le h_n hz
  have g_m := Nat.lt_of_lt_of_le h_m hz
  exact ⟨bcell hb g_n x0, bcell hb g_n x1, bcell hb g_n x2, bcell hb g_n x3, bcell hb g_n x4, bcell hb g_m x5, bcell hb g_m x6, bcell hb g_m x7, hw.trans (hb.mono hz)⟩
theorem InvS3.below {n m : Nat} {K : Int} {a b c x y z : Nat} {w0 w : World} (h : InvS3 n m K a b c x y z w0 w) : Below w0.heap.size w0 w := by
  obtain ⟨_, _, _, _, _, _, _, _, hw⟩ := h
  exact hw

set_option linter.unusedSimpArgs false in
set_option maxHeartbeats 2000000 in
theorem law_inv_three (K : Int) (a b c : Nat) (hA : a ≤ 4294967295) (hB : b ≤ 4294967295) (hC : c ≤ 4294967295) (hck : checkF K 3 a b c = 0) (w : World) :
    Calls Try.prog 6 #[.agg #[.int .i64 K, .int .i64 3, .int .u32 a, .int .u32 b, .int .u32 c]] w fun e w' => e = .returned (.bool true) ∧ Below w.heap.size w w' := by
  have HC := hide (check_any K 3 a b c hA hB hC)
  have HI := hide (inv_good K 3 a b c hA hB hC hck)
  have HM := hide (common_any K 3 a b c hA hB hC)
  rw [hck] at HC
  rw [(checkF_zero hck).2.2.2.2] at HM
  have HS := hide fun x y z (h : CodeInvR 3 a b c x y z) => inv_sum hck hA hB hC h
  clear hck
  go_enter Try.func6, Try.ntmps6
  go_wp2_with fail
  refine (HC.out _).mono ?_
  rintro e w1 ⟨rfl, hb1⟩
  have hz1 : w.heap.size < w1.heap.size := by have := hb1.size; simp at this; omega
  have a0 := bcell hb1 (b := w.heap.size) (o := 0) (v := .int .i64 K) (by simp) (by simp [go_sem])
  have a1 := bcell hb1 (b := w.heap.size) (o := 1) (v := .int .i64 3) (by simp) (by simp [go_sem])
  have a2 := bcell hb1 (b := w.heap.size) (o := 2) (v := .int .u32 a) (by simp) (by simp [go_sem])
  have a3 := bcell hb1 (b := w.heap.size) (o := 3) (v := .int .u32 b) (by simp) (by simp [go_sem])
  have a4 := bcell hb1 (b := w.heap.size) (o := 4) (v := .int .u32 c) (by simp) (by simp [go_sem])
  go_wp2_with fail
  refine (HI.out _).mono ?_
  rintro e w2 ⟨x, y, z, hinv, hx, hy, hz, rfl, hb2⟩
  obtain ⟨-, hsum⟩ := (HS.out x y z hinv).resolve_left (by omega)
  obtain ⟨hlo, hhi⟩ := three_words hsum
  have HWa := hide (wrap_u64 (x := a) (by omega))
  have HMx := hide (mul_any x a hx (by omega))
  have lp := mulL_le x a
  have mp := mulH_le (a := x) (b := a) hx (by omega)
  generalize mulL x a = p at *
  generalize mulH x a = p' at *
  have HWb := hide (wrap_u64 (x := b) (by omega))
  have HMy := hide (mul_any y b hy (by omega))
  have lq := mulL_le y b
  have mq := mulH_le (a := y) (b := b) hy (by omega)
  generalize mulL y b = q at *
  generalize mulH y b = q' at *
  have HWc := hide (wrap_u64 (x := c) (by omega))
  have HMz := hide (mul_any z c hz (by omega))
  have lr := mulL_le z c
  have mr := mulH_le (a := z) (b := c) hz (by omega)
  generalize mulL z c = r at *
  generalize mulH z c = r' at *
  have HLO := hide hlo
  have HHI := hide hhi
  clear hlo hhi hinv hsum
  go_wp2_with fail
  refine (knows_any _).mono ?_
  rintro e w3 ⟨rfl, hb3⟩
  have hz2 := hb2.size
  have hz3 := hb3.size
  simp at hz3
  have b0 := bcell hb3 (b := w2.heap.size) (o := 0) (v := .int .u64 x) (by simp) (by simp [go_sem])
  have b1 := bcell hb3 (b := w2.heap.size) (o := 1) (v := .int .u64 y) (by simp) (by simp [go_sem])
  have b2 := bcell hb3 (b := w2.heap.size) (o := 2) (v := .int .u64 z) (by simp) (by simp [go_sem])
  have d0 := bcell hb3 (b := w.heap.size) (o := 0) (v := .int .i64 K) (by simp; omega) ((World.cell?_alloc_lt w2 _ ⟨w.heap.size, 0, none⟩ (by simp; omega)).trans (bcell hb2 (by omega) a0))
  have d1 := bcell hb3 (b := w.heap.size) (o := 1) (v := .int .i64 3) (by simp; omega) ((World.cell?_alloc_lt w2 _ ⟨w.heap.size, 1, none⟩ (by simp; omega)).trans (bcell hb2 (by omega) a1))
  have d2 := bcell hb3 (b := w.heap.size) (o := 2) (v := .int .u32 a) (by simp; omega) ((World.cell?_alloc_lt w2 _ ⟨w.heap.size, 2, none⟩ (by simp; omega)).trans (bcell hb2 (by omega) a2))
  have d3 := bcell hb3 (b := w.heap.size) (o := 3) (v := .int .u32 b) (by simp; omega) ((World.cell?_alloc_lt w2 _ ⟨w.heap.size, 3, none⟩ (by simp; omega)).trans (bcell hb2 (by omega) a3))
  have d4 := bcell hb3 (b := w.heap.size) (o := 4) (v := .int .u32 c) (by simp; omega) ((World.cell?_alloc_lt w2 _ ⟨w.heap.size, 4, none⟩ (by simp; omega)).trans (bcell hb2 (by omega) a4))
  go_wp2_with fail
  refine (num_any _ _).mono ?_
  rintro e w' ⟨rfl, rfl⟩
  go_wp2_with fail
  refine (num_any _ _).mono ?_
  rintro e w' ⟨rfl, rfl⟩
  go_wp2_with fail
  refine (num_any _ _).mono ?_
  rintro e w' ⟨rfl, rfl⟩
  go_wp2_with fail
  have hfin := below_mid ((below_one hb1).trans (hb2.mono (by omega))) hb3
  have hle := hfin.size
  have HF := hide hfin
  clear hfin hb1 hb2 hb3 a0 a1 a2 a3 a4
  have g0 : w.heap.size < w3.heap.size := by omega
  have g1 : w2.heap.size < w3.heap.size := by omega
  generalize w2.heap.size = m at *
  generalize hn : w.heap.size = n at *
  have HN := hide hn
  clear hn
  go_loopw [6, 7, 8] (fun s h i u => (∃ n : Nat, u = w3.drewN n) ∧ ((i = .int .i64 0 ∧ s = .int .u64 0 ∧ h = .int .u64 0) ∨ (i = .int .i64 1 ∧ s = .int .u64 p ∧ h = .int .u64 p') ∨ (i = .int .i64 2 ∧ s = .int .u64 (p ^^^ q : Nat) ∧ h = .int .u64 (p' ^^^ q' : Nat)) ∨ (i = .int .i64 3 ∧ s = .int .u64 1 ∧ h = .int .u64 0))) (fun _ _ i _ => 3 - (intOf i).toNat)
  case atStart => exact ⟨⟨0, rfl⟩, .inl ⟨rfl, rfl, rfl⟩⟩
  case round =>
    obtain ⟨⟨dn, rfl⟩, hrel⟩ := hrel
    rcases hrel with ⟨rfl, rfl, rfl⟩ | ⟨rfl, rfl, rfl⟩ | ⟨rfl, rfl, rfl⟩ | ⟨rfl, rfl, rfl⟩
    · have hE1 := hide (show bits .xor .u64 0 (p : Int) = (p : Nat) from (xor64 (a := 0) (b := p) (by omega) (by omega)).trans (by rw [Nat.zero_xor]))
      have hE2 := hide (show bits .xor .u64 0 (p' : Int) = (p' : Nat) from (xor64 (a := 0) (b := p') (by omega) (by omega)).trans (by rw [Nat.zero_xor]))
      go_wp2_with fail
      go_quiet (first | (go_at_call 19; rw [HWa.out]; exact quiet_same (HMx.out _)))
      go_wp2_with fail
      go_roundw
      case rel => exact ⟨⟨_, rfl⟩, .inr (.inl ⟨rfl, by rw [hE1.out], by rw [hE2.out]⟩)⟩
      case measure => simp [intOf]
    · have hE1 := hide (xor64 (a := p) (b := q) (by omega) (by omega))
      have hE2 := hide (xor64 (a := p') (b := q') (by omega) (by omega))
      go_wp2_with fail
      go_quiet (first | (go_at_call 19; rw [HWb.out]; exact quiet_same (HMy.out _)))
      go_wp2_with fail
      go_roundw
      case rel => exact ⟨⟨_, rfl⟩, .inr (.inr (.inl ⟨rfl, by rw [hE1.out], by rw [hE2.out]⟩))⟩
      case measure => simp [intOf]
    · have hE1 := hide (show bits .xor .u64 ((p ^^^ q : Nat) : Int) (r : Int) = 1 from (xor64 (a := p ^^^ q) (b := r) (xor64_le (by omega) (by omega)) (by omega)).trans (by rw [HLO.out]; rfl))
      have hE2 := hide (show bits .xor .u64 ((p' ^^^ q' : Nat) : Int) (r' : Int) = 0 from (xor64 (a := p' ^^^ q') (b := r') (xor64_le (by omega) (by omega)) (by omega)).trans (by rw [HHI.out]; rfl))
      go_wp2_with fail
      go_quiet (first | (go_at_call 19; rw [HWc.out]; exact quiet_same (HMz.out _)))
      go_wp2_with fail
      go_roundw
      case rel => exact ⟨⟨_, rfl⟩, .inr (.inr (.inr ⟨rfl, by rw [hE1.out], by rw [hE2.out]⟩))⟩
      case measure => simp [intOf]
    · go_wp2_with fail
      refine (HM.out _).mono ?_
      rintro e w4 ⟨rfl, hb4⟩
      go_wp2_with fail
      go_ret
      exact ⟨rfl, by rw [HN.out]; exact HF.out.trans (((below_drewN (Below.refl _ _) dn).trans hb4).mono hle)⟩

theorem law_inv (K R : Int) (a b c : Nat) (hA : a ≤ 4294967295) (hB : b ≤ 4294967295) (hC : c ≤ 4294967295) (w : World) :
    Calls Try.prog 6 #[.agg #[.int .i64 K, .int .i64 R, .int .u32 a, .int .u32 b, .int .u32 c]] w fun e w' => e = .returned (.bool true) ∧ Below w.heap.size w w' := by
  by_cases h : checkF K R a b c = 0
  · have hh := (checkF_zero h).1
    by_cases hR : R = 2
    · subst hR; exact law_inv_two K a b c hA hB hC h w
    · have hR3 : R = 3 := Decidable.byContradiction fun e => hh (.inr (.inr (.inl ⟨hR, e⟩)))
      subst hR3; exact law_inv_three K a b c hA hB hC h w
  · exact law_inv_bad K R a b c hA hB hC h w
end Go.Proofs.Ytfjaohadjmigoaa
