/- code.Systematic and code.Look of a good code, walked. -/
import Derived.Test.YtfjaohadjmigoaaDoorRows
import Derived.Test.YtfjaohadjmigoaaDoorTz32
import Derived.Test.YtfjaohadjmigoaaDoorOnes
import Derived.Test.YtfjaohadjmigoaaDoorRight1
import Derived.Test.YtfjaohadjmigoaaDoorCodeB
namespace Go.Proofs.YtfjaohadjmigoaaDoor
open Go.RowKit

theorem xor_le32 {a b : Nat} (ha : a ≤ 4294967295) (hb : b ≤ 4294967295) : a ^^^ b ≤ 4294967295 := by
  have := Nat.xor_lt_two_pow (n := 32) (x := a) (y := b) (by omega) (by omega)
  omega
/-- is one of the first n generators 1: where -/
def oneAt (a b c n : Nat) : Int := if a = 1 then 0 else if b = 1 then 1 else if n = 3 ∧ c = 1 then 2 else -1
set_option maxHeartbeats 1000000 in
theorem index_one (g n a b c : Nat) (hn : n = 2 ∨ n = 3) (w : World) (c2 : w.cell? ⟨g, 2, none⟩ = some (.int .u32 a)) (c3 : w.cell? ⟨g, 3, none⟩ = some (.int .u32 b)) (c4 : w.cell? ⟨g, 4, none⟩ = some (.int .u32 c)) :
    Calls Tryd.prog 34 #[.slice (some ⟨g, 2, none⟩) n 3, .int .u32 1] w fun e w' => e = .returned (.int .i64 (oneAt a b c n)) ∧ w = w' := by
  go_enter Tryd.func34, Tryd.ntmps34
  go_wp2_with fail
  go_loop [8] (fun i => ∃ k : Nat, k ≤ n ∧ i = .int .i64 k ∧ (0 < k → a ≠ 1) ∧ (1 < k → b ≠ 1) ∧ (2 < k → c ≠ 1)) (fun i => n - (intOf i).toNat)
  case atStart => exact ⟨0, by omega, rfl, fun h => absurd h (by omega), fun h => absurd h (by omega), fun h => absurd h (by omega)⟩
  case round =>
    obtain ⟨k, hk, rfl, g0, g1, g2⟩ := hrel
    by_cases hkn : k = n
    · have ha := g0 (by omega)
      have hb := g1 (by omega)
      have hc : ¬ (n = 3 ∧ c = 1) := fun h => g2 (by omega) h.2
      have hE := hide (show oneAt a b c n = -1 by unfold oneAt; rw [if_neg ha, if_neg hb, if_neg hc])
      have hlt : ¬ (k : Int) < n := by omega
      clear g0 g1 g2 ha hb hc hkn
      go_wp2_with fail
      go_ret
      exact ⟨by simp [hE.out], rfl⟩
    · have hk3 : k = 0 ∨ k = 1 ∨ k = 2 := by omega
      have hlt : (k : Int) < n := by omega
      rcases hk3 with rfl | rfl | rfl
      · by_cases h1 : a = 1
        · have hE := hide (show oneAt a b c n = 0 by unfold oneAt; rw [if_pos h1])
          have ht : ((1 : Int) == (a : Int)) = true := by rw [beq_iff_eq]; omega
          clear g0 g1 g2 hkn h1
          go_wp2_with fail
          go_ret
          exact ⟨by simp [hE.out], rfl⟩
        · have ht : ((1 : Int) == (a : Int)) = false := by rw [beq_eq_false_iff_ne]; omega
          have H1 := hide h1
          clear g0 g1 g2 hkn h1
          go_wp2_with fail
          go_round
          case rel => exact ⟨1, by omega, rfl, fun _ => H1.out, fun h => absurd h (by omega), fun h => absurd h (by omega)⟩
          case measure => simp [intOf]; omega
      · have h0 := g0 (by omega)
        by_cases h1 : b = 1
        · have hE := hide (show oneAt a b c n = 1 by unfold oneAt; rw [if_neg h0, if_pos h1])
          have ht : ((1 : Int) == (b : Int)) = true := by rw [beq_iff_eq]; omega
          clear g0 g1 g2 hkn h0 h1
          go_wp2_with fail
          go_ret
          exact ⟨by simp [hE.out], rfl⟩
        · have ht : ((1 : Int) == (b : Int)) = false := by rw [beq_eq_false_iff_ne]; omega
          have H0 := hide h0
          have H1 := hide h1
          clear g0 g1 g2 hkn h1 h0
          go_wp2_with fail
          go_round
          case rel => exact ⟨2, by omega, rfl, fun _ => H0.out, fun _ => H1.out, fun h => absurd h (by omega)⟩
          case measure => simp [intOf]; omega
      · have h0 := g0 (by omega)
        have h2 := g1 (by omega)
        have hn3 : n = 3 := by omega
        by_cases h1 : c = 1
        · have hE := hide (show oneAt a b c n = 2 by unfold oneAt; rw [if_neg h0, if_neg h2, if_pos ⟨hn3, h1⟩])
          have ht : ((1 : Int) == (c : Int)) = true := by rw [beq_iff_eq]; omega
          clear g0 g1 g2 hkn h0 h2 h1 hn3
          go_wp2_with fail
          go_ret
          exact ⟨by simp [hE.out], rfl⟩
        · have ht : ((1 : Int) == (c : Int)) = false := by rw [beq_eq_false_iff_ne]; omega
          have H0 := hide h0
          have H1 := hide h1
          have H2 := hide h2
          clear g0 g1 g2 hkn h1 h0 h2
          go_wp2_with fail
          go_round
          case rel => exact ⟨3, by omega, rfl, fun _ => H0.out, fun _ => H2.out, fun _ => H1.out⟩
          case measure => simp [intOf]; omega
theorem oneAt_le (a b c n : Nat) : -1 ≤ oneAt a b c n ∧ oneAt a b c n ≤ 2 := by unfold oneAt; split <;> (try split) <;> (try split) <;> omega
/-- is one generator 1 -/
def sysB (a b c : Nat) : Bool := decide (a = 1) || decide (b = 1) || decide (c = 1)
theorem oneAt_sys {a b c n : Nat} (h : n = 3 ∨ c = 0) : decide (0 ≤ oneAt a b c n) = sysB a b c := by
  unfold oneAt sysB
  by_cases h1 : a = 1
  · simp [h1]
  · by_cases h2 : b = 1
    · simp [h1, h2]
    · by_cases h3 : c = 1
      · have : n = 3 := by omega
        simp [h1, h2, h3, this]
      · simp [h1, h2, h3]
set_option maxHeartbeats 400000 in
theorem contains_one (g n a b c : Nat) (hn : n = 2 ∨ n = 3) (hc0 : n = 3 ∨ c = 0) (w : World) (c2 : w.cell? ⟨g, 2, none⟩ = some (.int .u32 a)) (c3 : w.cell? ⟨g, 3, none⟩ = some (.int .u32 b)) (c4 : w.cell? ⟨g, 4, none⟩ = some (.int .u32 c)) :
    Calls Tryd.prog 20 #[.slice (some ⟨g, 2, none⟩) n 3, .int .u32 1] w fun e w' => e = .returned (.bool (sysB a b c)) ∧ w = w' := by
  have HI := hide (index_one g n a b c hn w c2 c3 c4)
  have hE := hide (oneAt_sys (a := a) (b := b) hc0)
  generalize oneAt a b c n = r at *
  clear c2 c3 c4 hn hc0
  go_enter Tryd.func20, Tryd.ntmps20
  go_wp2_with fail
  refine HI.out.mono ?_
  rintro e w' ⟨rfl, rfl⟩
  go_wp2_with fail
  go_ret
  exact ⟨by simp [← hE.out], rfl⟩
theorem good_count {K R : Int} {a b c : Nat} (h : checkF K R a b c = 0) : (countF R = 2 ∨ countF R = 3) ∧ (countF R = 3 ∨ c = 0) := by
  obtain ⟨hh, _⟩ := checkF_zero h
  have h1 : R = 2 ∨ R = 3 := by
    by_cases h2 : R = 2
    · exact .inl h2
    · exact .inr (Decidable.byContradiction fun e => hh (.inr (.inr (.inl ⟨h2, e⟩))))
  rcases h1 with rfl | rfl
  · exact ⟨.inl rfl, .inr (Decidable.byContradiction fun e => hh (.inr (.inr (.inr ⟨rfl, e⟩))))⟩
  · exact ⟨.inr rfl, .inl rfl⟩
set_option maxHeartbeats 1000000 in
theorem sys_good (K R : Int) (a b c : Nat) (hA : a ≤ 4294967295) (hB : b ≤ 4294967295) (hC : c ≤ 4294967295) (hck : checkF K R a b c = 0) (w : World) :
    Calls Tryd.prog 9 #[.agg #[.int .i64 K, .int .i64 R, .int .u32 a, .int .u32 b, .int .u32 c]] w fun e w' => e = .returned (.tuple #[.bool (sysB a b c), .int .i64 0]) ∧ Below w.heap.size w w' := by
  have HC := hide (check_any K R a b c hA hB hC)
  rw [hck] at HC
  have HU := hide (used_any K R a b c)
  obtain ⟨g1, g2⟩ := good_count hck
  have HN := hide fun g => contains_one g (countF R) a b c g1 g2
  have HK := hide g1
  clear hck g1 g2
  generalize sysB a b c = sb at *
  generalize countF R = n at *
  go_enter Tryd.func9, Tryd.ntmps9
  go_wp2_with fail
  have hcb := hide (CodeB.new w K R a b c)
  have hcl := hide (CodeB.new w K R a b c).lt
  refine (HC.out _).mono ?_
  rintro e w1 ⟨rfl, hb1⟩
  obtain ⟨s0, s1, s2, s3, s4⟩ := (hcb.out.keep hb1 hcl.out).cells
  have HB1 := hide (below_one hb1)
  clear hb1 hcb hcl
  go_wp2_with fail
  refine (HU.out _).mono ?_
  rintro e w' ⟨rfl, rfl⟩
  have q := (CodeB.new w1 K R a b c).cells
  go_wp2_with fail
  refine (HN.out _ _ q.2.2.1 q.2.2.2.1 q.2.2.2.2).mono ?_
  rintro e w' ⟨rfl, rfl⟩
  go_wp2_with fail
  go_ret2
  exact ⟨rfl, HB1.out.alloc HB1.out.size _⟩
set_option maxHeartbeats 1000000 in
theorem look_no (K R : Int) (a b c : Nat) (hA : a ≤ 4294967295) (hB : b ≤ 4294967295) (hC : c ≤ 4294967295) (hck : checkF K R a b c = 0) (hs : Gf2.popF 32 (a ^^^ b ^^^ c) ≠ 1) (w : World) :
    Calls Tryd.prog 10 #[.agg #[.int .i64 K, .int .i64 R, .int .u32 a, .int .u32 b, .int .u32 c]] w fun e w' => e = .returned (.tuple #[.int .i64 0, .bool false, .int .i64 0]) ∧ Below w.heap.size w w' := by
  have HC := hide (check_any K R a b c hA hB hC)
  rw [hck] at HC
  have hab : a ^^^ b ≤ 4294967295 := xor_le32 hA hB
  have x1 := xor32 hA hB
  have x2 := xor32 hab hC
  have HO := hide (ones_any (a ^^^ b ^^^ c) (xor_le32 hab hC))
  have hb := oneBne hs
  generalize Gf2.popF 32 (a ^^^ b ^^^ c) = pp at *
  generalize a ^^^ b ^^^ c = s at *
  generalize a ^^^ b = ab at *
  clear hck hs
  go_enter Tryd.func10, Tryd.ntmps10
  go_wp2_with fail
  have hcb := hide (CodeB.new w K R a b c)
  have hcl := hide (CodeB.new w K R a b c).lt
  refine (HC.out _).mono ?_
  rintro e w1 ⟨rfl, hb1⟩
  obtain ⟨s0, s1, s2, s3, s4⟩ := (hcb.out.keep hb1 hcl.out).cells
  have HB1 := hide (below_one hb1)
  clear hb1 hcb hcl
  go_wp2_with fail
  refine (HO.out _).mono ?_
  rintro e w' ⟨rfl, m, rfl⟩
  go_wp2_with fail
  go_ret3
  exact ⟨rfl, ⟨HB1.out.os, HB1.out.tape, HB1.out.output, HB1.out.size, HB1.out.block⟩⟩
set_option maxHeartbeats 1000000 in
theorem look_yes (K R : Int) (a b c i : Nat) (hA : a ≤ 4294967295) (hB : b ≤ 4294967295) (hC : c ≤ 4294967295) (hck : checkF K R a b c = 0) (hi : i < 32) (hs : a ^^^ b ^^^ c = 2 ^ i) (w : World) (ht : TabW w) :
    Calls Tryd.prog 10 #[.agg #[.int .i64 K, .int .i64 R, .int .u32 a, .int .u32 b, .int .u32 c]] w fun e w' => e = .returned (.tuple #[.int .i64 i, .bool true, .int .i64 0]) ∧ Below w.heap.size w w' := by
  have HC := hide (check_any K R a b c hA hB hC)
  rw [hck] at HC
  have hab : a ^^^ b ≤ 4294967295 := xor_le32 hA hB
  have x1 := xor32 hA hB
  have x2 := xor32 hab hC
  have HO := hide (ones_any (a ^^^ b ^^^ c) (xor_le32 hab hC))
  have HT := hide fun w => tz_any i hi w
  have hp := Gf2.popF_pow 32 i hi
  rw [hs] at HO x2
  rw [hp] at HO
  generalize 2 ^ i = s at *
  generalize a ^^^ b = ab at *
  have HTW := hide ht
  clear hck hs hp ht
  go_enter Tryd.func10, Tryd.ntmps10
  go_wp2_with fail
  have hcb := hide (CodeB.new w K R a b c)
  have hcl := hide (CodeB.new w K R a b c).lt
  refine (HC.out _).mono ?_
  rintro e w1 ⟨rfl, hb1⟩
  obtain ⟨s0, s1, s2, s3, s4⟩ := (hcb.out.keep hb1 hcl.out).cells
  have HB1 := hide (below_one hb1)
  clear hb1 hcb hcl
  go_wp2_with fail
  refine (HO.out _).mono ?_
  rintro e w' ⟨rfl, m, rfl⟩
  go_wp2_with fail
  refine (HT.out _ ((HTW.out.below HB1.out).drewN m)).mono ?_
  rintro e w' ⟨rfl, rfl⟩
  go_wp2_with fail
  go_ret3
  exact ⟨rfl, ⟨HB1.out.os, HB1.out.tape, HB1.out.output, HB1.out.size, HB1.out.block⟩⟩
end Go.Proofs.YtfjaohadjmigoaaDoor
