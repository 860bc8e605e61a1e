/- The law ModemChecks, walked: it returns true. -/
import Derived.Test.YtlbfndibgojbiaaRows
import Derived.Test.YtlbfndibgojbiaaMKnows
import Derived.Deep.RegionHeld3
namespace Go.Proofs.Ytlbfndibgojbiaa
open Go.RowKit
set_option linter.unusedVariables false

/-- a modem in a box, and that nothing older has changed -/
def modP (g : Nat) (K R : Int) (a b c : Nat) (D : Int) (T S m : Nat) (l q z : Int) (w0 u : World) : Prop :=
  u.cell? ⟨g, 0, none⟩ = some (.int .i64 K) ∧ u.cell? ⟨g, 1, none⟩ = some (.int .i64 R) ∧ u.cell? ⟨g, 2, none⟩ = some (.int .u32 a) ∧ u.cell? ⟨g, 3, none⟩ = some (.int .u32 b) ∧ u.cell? ⟨g, 4, none⟩ = some (.int .u32 c) ∧ u.cell? ⟨g, 5, none⟩ = some (.int .i64 D) ∧ u.cell? ⟨g, 6, none⟩ = some (.int .u64 T) ∧ u.cell? ⟨g, 7, none⟩ = some (.int .u64 S) ∧ u.cell? ⟨g, 8, none⟩ = some (.int .u64 m) ∧ u.cell? ⟨g, 9, none⟩ = some (.int .i64 l) ∧ u.cell? ⟨g, 10, none⟩ = some (.int .i64 q) ∧ u.cell? ⟨g, 11, none⟩ = some (.int .i64 z) ∧ Below w0.heap.size w0 u
theorem modP.below {g : Nat} {K R : Int} {a b c : Nat} {D : Int} {T S m : Nat} {l q z : Int} {w0 u : World} (h : modP g K R a b c D T S m l q z w0 u) : Below w0.heap.size w0 u := h.2.2.2.2.2.2.2.2.2.2.2.2
theorem ModB.p {w0 u : World} {g : Nat} {K R : Int} {a b c : Nat} {D : Int} {T S m : Nat} {l q z : Int} (h : ModB w0 g K R a b c D T S m l q z) (hb : Below w0.heap.size w0 u) : modP g K R a b c D T S m l q z w0 u := by
  obtain ⟨s0, s1, s2, s3, s4, s5, s6, s7, s8, s9, s10, s11⟩ := (h.keep hb h.lt).cells
  exact ⟨s0, s1, s2, s3, s4, s5, s6, s7, s8, s9, s10, s11, hb⟩
set_option maxRecDepth 100000 in
set_option maxHeartbeats 4000000 in
theorem law_mchecks (K R : Int) (a b c : Nat) (D : Int) (T S m : Nat) (l q z : Int) (hA : a ≤ 4294967295) (hB : b ≤ 4294967295) (hC : c ≤ 4294967295) (hT : T ≤ 18446744073709551615) (hS : S ≤ 18446744073709551615) (w : World) :
    Calls Try.prog 4 #[.agg #[.int .i64 K, .int .i64 R, .int .u32 a, .int .u32 b, .int .u32 c, .int .i64 D, .int .u64 T, .int .u64 S, .int .u64 m, .int .i64 l, .int .i64 q, .int .i64 z]] w fun e w' => e = .returned (.bool true) ∧ Below w.heap.size w w' := by
  have HC1 := hide (modcheck_any K R a b c D T S m l q z hA hB hC hT hS)
  have HC2 := hide (r25check_any K R a b c D T S m l q z hA hB hC hT hS)
  have HB1 := hide (mbody_any K R a b c D T S m l q z hA hB hC hT hS)
  have HB2 := hide (rbody_any K R a b c D T S m l q z hA hB hC hT hS)
  have HN1 := hide (mspan_any K R a b c D T S m l q z hA hB hC hT hS)
  have HN2 := hide (rspan_any K R a b c D T S m l q z hA hB hC hT hS)
  generalize modE K R a b c D T S m l q z = ef at *
  generalize bodyN K R a b c D T S m l q z = bd at *
  generalize spanN K R a b c D T S m l q z = sp at *
  go_enter Try.func4, Try.ntmps4
  go_wp2_with fail
  have hM0 := ModB.new (K := K) (R := R) (a := a) (b := b) (c := c) (D := D) (T := T) (S := S) (m := m) (l := l) (q := q) (z := z) w
  have hb0 : Below w.heap.size w (w.alloc (.cells #[.int .i64 K, .int .i64 R, .int .u32 a, .int .u32 b, .int .u32 c, .int .i64 D, .int .u64 T, .int .u64 S, .int .u64 m, .int .i64 l, .int .i64 q, .int .i64 z] 32)) := (Below.refl _ _).alloc (Nat.le_refl _) _
  generalize w.alloc (.cells #[.int .i64 K, .int .i64 R, .int .u32 a, .int .u32 b, .int .u32 c, .int .i64 D, .int .u64 T, .int .u64 S, .int .u64 m, .int .i64 l, .int .i64 q, .int .i64 z] 32) = W0 at *
  have HU := hide fun (u : World) (hb : Below W0.heap.size W0 u) => (hM0.keep hb hM0.lt).cells
  have HP := hide fun (u : World) (hb : Below W0.heap.size W0 u) => hM0.p hb
  have HB0 := hide hb0
  clear hM0 hb0
  refine (HB1.out _).mono ?_
  rintro e w1 ⟨rfl, hb1⟩
  obtain ⟨s0, s1, s2, s3, s4, s5, s6, s7, s8, s9, s10, s11⟩ := HU.out _ hb1
  have HD1 := hide hb1
  clear hb1
  go_wp2_with fail
  refine (HN1.out _).mono ?_
  rintro e w2 ⟨rfl, hb2⟩
  have HD2 := hide (below_then HD1.out hb2)
  clear hb2 s0 s1 s2 s3 s4 s5 s6 s7 s8 s9 s10 s11
  obtain ⟨s0, s1, s2, s3, s4, s5, s6, s7, s8, s9, s10, s11⟩ := HU.out _ HD2.out
  go_wp2_with fail
  refine (HB2.out _).mono ?_
  rintro e w3 ⟨rfl, hb3⟩
  have HD3 := hide (below_then HD2.out hb3)
  clear hb3 s0 s1 s2 s3 s4 s5 s6 s7 s8 s9 s10 s11
  obtain ⟨s0, s1, s2, s3, s4, s5, s6, s7, s8, s9, s10, s11⟩ := HU.out _ HD3.out
  go_wp2_with fail
  refine (HN2.out _).mono ?_
  rintro e w4 ⟨rfl, hb4⟩
  have HD4 := hide (below_then HD3.out hb4)
  clear hb4 s0 s1 s2 s3 s4 s5 s6 s7 s8 s9 s10 s11
  obtain ⟨s0, s1, s2, s3, s4, s5, s6, s7, s8, s9, s10, s11⟩ := HU.out _ HD4.out
  have HSt := hide (show modP w.heap.size K R a b c D T S m l q z W0 w4 from HP.out _ HD4.out)
  have HKe := hide (fun u u' (h : modP w.heap.size K R a b c D T S m l q z W0 u) (hb : Below u.heap.size u u') => (show modP w.heap.size K R a b c D T S m l q z W0 u' from HP.out _ (below_then h.below hb)))
  clear HD1 HD2 HD3 HD4 HB1 HB2 HN1 HN2
  go_wp2_with fail
  go_region_held3 (fun u => u.cell? ⟨w.heap.size, 0, none⟩ = some (.int .i64 K) ∧ u.cell? ⟨w.heap.size, 1, none⟩ = some (.int .i64 R) ∧ u.cell? ⟨w.heap.size, 2, none⟩ = some (.int .u32 a) ∧ u.cell? ⟨w.heap.size, 3, none⟩ = some (.int .u32 b) ∧ u.cell? ⟨w.heap.size, 4, none⟩ = some (.int .u32 c) ∧ u.cell? ⟨w.heap.size, 5, none⟩ = some (.int .i64 D) ∧ u.cell? ⟨w.heap.size, 6, none⟩ = some (.int .u64 T) ∧ u.cell? ⟨w.heap.size, 7, none⟩ = some (.int .u64 S) ∧ u.cell? ⟨w.heap.size, 8, none⟩ = some (.int .u64 m) ∧ u.cell? ⟨w.heap.size, 9, none⟩ = some (.int .i64 l) ∧ u.cell? ⟨w.heap.size, 10, none⟩ = some (.int .i64 q) ∧ u.cell? ⟨w.heap.size, 11, none⟩ = some (.int .i64 z) ∧ Below W0.heap.size W0 u)
    (first | exact HKe.out _ _ HSt.out (Below.refl _ _).drew | exact HSt.out | exact HKe.out _ _ (by assumption) (by assumption) | exact HKe.out _ _ (by assumption) (Below.refl _ _))
    (first
      | (go_at_call 19; refine (HC1.out _).mono ?_; rintro e w' ⟨rfl, hb'⟩)
      | (go_at_call 20; refine (HC2.out _).mono ?_; rintro e w' ⟨rfl, hb'⟩)
      | (go_at_call 18; refine (num25_any _ _).mono ?_; rintro e w' ⟨rfl, rfl⟩)
      | (go_at_call 13; refine (knows25_any _).mono ?_; rintro e w' ⟨rfl, hb'⟩))
  rename_i hh
  have HF := hide (below_then HB0.out (show modP w.heap.size K R a b c D T S m l q z W0 _ from hh).below)
  go_wp2_with fail
  go_ret
  exact ⟨rfl, HF.out⟩
end Go.Proofs.Ytlbfndibgojbiaa
